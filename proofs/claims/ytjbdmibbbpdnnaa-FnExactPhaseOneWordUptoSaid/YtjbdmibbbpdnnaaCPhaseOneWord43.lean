/-
  Part 44 of the proof that the statement FnExactPhaseOneWord holds.
-/
import Derived.Test.YtjbdmibbbpdnnaaCPhaseOneWord42
namespace Go.Proofs.Ytjbdmibbbpdnnaa
open Go.RowKit
noncomputable abbrev Lw:Spec:=Di (.pair tU (.pair tU .unit)) (.pair tU (.pair tU .unit)) true true (λx=>x.1=1/\0<=x.2.1/\x.2.1<=100000) (λx=>(0,x.2.1,()))
noncomputable abbrev Yu:MSpec:=fM [none,none] [(false, .Ew tL),(false, .Ew tI)] false [none] [rL] (λx=>(∃v,x.1= [v])/\1<=x.2.1/\x.2.1<=100000) (λx=>((List.replicate x.2.1.toNat (x.1.getD 0 0),()),()))
theorem QE (x y:Int) (P:(Int×Int×Unit)->Prop):(¬(32:Int)<(0:Int)/\ ¬(32:Int)<(0:Int)/\ ¬(32:Int)<(0:Int)/\ ¬(32:Int)<(0:Int)/\ ¬(32:Int)<(0:Int)/\P (IntKind.u64.wrap (IntKind.u64.wrap (IntKind.u64.wrap (x.fdiv ((2:Int)^min (Int.toNat (32:Int)) IntKind.u64.bits)*y.fdiv ((2:Int)^min (Int.toNat (32:Int)) IntKind.u64.bits))+(IntKind.u64.wrap (IntKind.u64.wrap (x.fdiv ((2:Int)^min (Int.toNat (32:Int)) IntKind.u64.bits)*IntKind.u64.wrap (↑(BitVec.ofInt IntKind.u64.bits y&&&BitVec.ofInt IntKind.u64.bits (4294967295:Int)).toNat:Int))+(IntKind.u64.wrap (IntKind.u64.wrap (↑(BitVec.ofInt IntKind.u64.bits x&&&BitVec.ofInt IntKind.u64.bits (4294967295:Int)).toNat:Int)*IntKind.u64.wrap (↑(BitVec.ofInt IntKind.u64.bits y&&&BitVec.ofInt IntKind.u64.bits (4294967295:Int)).toNat:Int))).fdiv ((2:Int)^min (Int.toNat (32:Int)) IntKind.u64.bits))).fdiv ((2:Int)^min (Int.toNat (32:Int)) IntKind.u64.bits))+(IntKind.u64.wrap (IntKind.u64.wrap (↑(BitVec.ofInt IntKind.u64.bits (IntKind.u64.wrap (IntKind.u64.wrap (x.fdiv ((2:Int)^min (Int.toNat (32:Int)) IntKind.u64.bits)*IntKind.u64.wrap (↑(BitVec.ofInt IntKind.u64.bits y&&&BitVec.ofInt IntKind.u64.bits (4294967295:Int)).toNat:Int))+(IntKind.u64.wrap (IntKind.u64.wrap (↑(BitVec.ofInt IntKind.u64.bits x&&&BitVec.ofInt IntKind.u64.bits (4294967295:Int)).toNat:Int)*IntKind.u64.wrap (↑(BitVec.ofInt IntKind.u64.bits y&&&BitVec.ofInt IntKind.u64.bits (4294967295:Int)).toNat:Int))).fdiv ((2:Int)^min (Int.toNat (32:Int)) IntKind.u64.bits)))&&&BitVec.ofInt IntKind.u64.bits (4294967295:Int)).toNat:Int)+IntKind.u64.wrap (IntKind.u64.wrap (↑(BitVec.ofInt IntKind.u64.bits x&&&BitVec.ofInt IntKind.u64.bits (4294967295:Int)).toNat:Int)*y.fdiv ((2:Int)^min (Int.toNat (32:Int)) IntKind.u64.bits)))).fdiv ((2:Int)^min (Int.toNat (32:Int)) IntKind.u64.bits)),IntKind.u64.wrap (x*y),()))=fnW dT (look []) Lw Try.f172 (x,y,()) P:=by kernel_rfl
theorem WT (x y:Int) (P:(Int×Int×Unit)->Prop):(∃(y3:Int×Int×PUnit),Lw.fn (x,y,())=some y3/\P (y3.1,y3.2.1,()))=fnW dT (look [(172,Lw)]) Lw Try.f152 (x,y,()) P:=by kernel_rfl
theorem MD (xs:List Int) (n:Int) (P:((List Int×Unit)×Unit)->Prop):(Br (decide (n<(0:Int))) False (∃(y3:Int×Int×PUnit),Lw.fn (IntKind.u64.wrap (↑xs.length:Int),IntKind.u64.wrap n,())=some y3/\Br (decide (y3.1>(0:Int))) False (Br (decide (y3.2.1>(9223372036854775807:Int))) False (((0:Int)<=IntKind.i64.wrap y3.2.1/\IntKind.i64.wrap y3.2.1<(↑Bj:Int)+(1:Int))/\IntKind.i64.wrap y3.2.1=IntKind.i64.wrap y3.2.1/\0=0/\(List.replicate (IntKind.i64.wrap y3.2.1).toNat (Int.ofNat (nat_lit 0))).length=(Bi (List.replicate (IntKind.i64.wrap y3.2.1).toNat (Int.ofNat (nat_lit 0))) 0 (List.take (List.replicate (IntKind.i64.wrap y3.2.1).toNat (Int.ofNat (nat_lit 0))).length xs)).length/\Bs (λ(v4:Int×List Int×PUnit) (k5:Int×List Int×PUnit->Prop)=>Br (decide (v4.1<(↑v4.2.1.length:Int))) (((0:Int)<=v4.1/\v4.1<=(↑v4.2.1.length:Int)/\(↑v4.2.1.length:Int)<=(↑v4.2.1.length:Int))/\((0:Int)<=(0:Int)/\(0:Int)<=v4.1/\v4.1<=(↑v4.2.1.length:Int))/\0=0/\v4.2.1.length=(Bi v4.2.1 (0+v4.1.toNat) (List.take ((↑v4.2.1.length:Int).toNat-v4.1.toNat) (List.take (v4.1.toNat-Int.toNat (0:Int)) (List.drop (0+Int.toNat (0:Int)) v4.2.1)))).length/\k5 (IntKind.i64.wrap (v4.1+(↑(min ((↑v4.2.1.length:Int).toNat-v4.1.toNat) (List.take (v4.1.toNat-Int.toNat (0:Int)) (List.drop (0+Int.toNat (0:Int)) v4.2.1)).length):Int)),Bi v4.2.1 (0+v4.1.toNat) (List.take ((↑v4.2.1.length:Int).toNat-v4.1.toNat) (List.take (v4.1.toNat-Int.toNat (0:Int)) (List.drop (0+Int.toNat (0:Int)) v4.2.1))),())) (P ((List.take v4.2.1.length (List.drop 0 v4.2.1),()),()))) ((↑(min (List.replicate (IntKind.i64.wrap y3.2.1).toNat (Int.ofNat (nat_lit 0))).length xs.length):Int),Bi (List.replicate (IntKind.i64.wrap y3.2.1).toNat (Int.ofNat (nat_lit 0))) 0 (List.take (List.replicate (IntKind.i64.wrap y3.2.1).toNat (Int.ofNat (nat_lit 0))).length xs),PUnit.unit)))))=fnMW dT (look [(152,Lw)]) Yu Try.f122 (xs,n,()) P:=by kernel_rfl
theorem HD {y:Int} (h0:0<=y) (h:y<4294967296):(((BitVec.ofInt IntKind.u64.bits y)&&&(BitVec.ofInt IntKind.u64.bits 4294967295)).toNat:Int)=y:=by
 obtain ⟨n,rfl⟩:=Int.eq_ofNat_of_zero_le h0
 show ((((BitVec.ofInt 64 (n:Int))&&&(BitVec.ofInt 64 4294967295)).toNat:Nat):Int)=(n:Int)
 have e1:(BitVec.ofInt 64 (n:Int)).toNat=n:=by rw [BitVec.toNat_ofInt];omega
 have e2:(BitVec.ofInt 64 4294967295).toNat=2^32-1:=by decide
 rw [BitVec.toNat_and,e1,e2,Nat.and_two_pow_sub_one_eq_mod]
 omega
theorem xz {n:Int} (h1:0<=n) (h2:n<18446744073709551616):IntKind.u64.wrap n=n:=by rw [IntKind.wrap_u64];omega
theorem PC (x y:Int) (h:x=1/\0<=y/\y<=100000):fnW dT (look []) Lw Try.f172 (x,y,()) (λ(z:Int×Int×Unit)=>z=(0,y,())):=by
 obtain ⟨rfl,h1,h2⟩:=h
 have e32:(2:Int)^min (Int.toNat (32:Int)) IntKind.u64.bits=4294967296:=by decide
 have e1:(1:Int).fdiv 4294967296=0:=by decide
 have e0:(0:Int).fdiv 4294967296=0:=by decide
 have ey:y.fdiv 4294967296=0:=by rw [Int.fdiv_eq_ediv_of_nonneg _ (by omega)];omega
 refine Eq.mp (QE 1 y _) ⟨by omega,by omega,by omega,by omega,by omega,?_⟩
 rw [e32]
 simp only [e1,ey,e0,HD h1 (show y<4294967296 by omega),HD (show (0:Int)<=1 by omega) (show (1:Int)<4294967296 by omega),HD (show (0:Int)<=0 by omega) (show (0:Int)<4294967296 by omega),Int.zero_mul,Int.mul_zero,Int.one_mul,Int.zero_add,Int.add_zero,
  xz h1 (show y<18446744073709551616 by omega),xz (show (0:Int)<=0 by omega) (show (0:Int)<18446744073709551616 by omega),xz (show (0:Int)<=1 by omega) (show (1:Int)<18446744073709551616 by omega)]
theorem wV:Sound Try.prog 172 Lw:=
 Sound.Di zI At mixed Try.func172 (by kernel_rfl) (by kernel_rfl) λx h=>PC x.1 x.2.1 h
theorem VO (x y:Int) (h:x=1/\0<=y/\y<=100000):fnW dT (look [(172,Lw)]) Lw Try.f152 (x,y,()) (λ(z:Int×Int×Unit)=>z=(0,y,())):=
 Eq.mp (WT x y _) ⟨_,if_pos h,rfl⟩
theorem zy:Sound Try.prog 152 Lw:=
 Sound.Di zI (Ah wV At) mixed Try.func152 (by kernel_rfl) (by kernel_rfl) λx h=>VO x.1 x.2.1 h
theorem kS {α:Type} (a b:α) {k m j:Nat} (h1:k+j<=m):Bi (List.replicate k a++List.replicate (m-k) b) k (List.replicate j a)=List.replicate (k+j) a++List.replicate (m-(k+j)) b:=by
 unfold Bi
 have e1:(List.replicate k a++List.replicate (m-k) b).take k=List.replicate k a:=List.take_left' (by simp)
 have e2:(List.replicate k a++List.replicate (m-k) b).drop (k+(List.replicate j a).length)=List.replicate (m-(k+j)) b:=by
  rw [List.length_replicate,List.drop_append,List.length_replicate,List.drop_replicate,List.drop_replicate,show k-(k+j)=0 by omega,show m-k-(k+j-k)=m-(k+j) by omega]
  rfl
 rw [e1,e2,<-List.replicate_append_replicate (n:=k) (m:=j)]
theorem KD (xs:List Int) (n:Int) (h:(∃v,xs= [v])/\1<=n/\n<=100000):fnMW dT (look [(152,Lw)]) Yu Try.f122 (xs,n,()) (λ(z:(List Int×Unit)×Unit)=>z=((List.replicate n.toNat (xs.getD 0 0),()),())):=by
 obtain ⟨⟨v,rfl⟩,h1,h2⟩:=h
 obtain ⟨m,rfl⟩:=Int.eq_ofNat_of_zero_le (show 0<=n by omega)
 have e1:IntKind.u64.wrap (([v]:List Int).length:Int)=1:=xz (by simp) (by simp)
 have e2:IntKind.u64.wrap (m:Int)=(m:Int):=xz (by omega) (by omega)
 have e3:IntKind.i64.wrap (m:Int)=(m:Int):=Bt (by omega) (by omega)
 have hmul:Lw.fn (IntKind.u64.wrap (([v]:List Int).length:Int),IntKind.u64.wrap (m:Int),())=some (0,(m:Int),()):=by
  rw [e1,e2];exact if_pos ⟨rfl,by show (0:Int)<=m;omega,by show (m:Int)<=100000;omega⟩
 refine Eq.mp (MD [v] m _) (Br.dec (λhb=>absurd hb (by omega)) λ_=>⟨_,hmul,Br.dec (λhb=>absurd hb (by show ¬(0:Int)>0;omega)) λ_=>Br.dec (λhb=>absurd hb (by show ¬(m:Int)>9223372036854775807;omega)) λ_=>?_⟩)
 dsimp only
 rw [e3]
 have Ag8:Bi (List.replicate (m:Int).toNat (Int.ofNat 0)) 0 (List.take (List.replicate (m:Int).toNat (Int.ofNat 0)).length [v])=List.replicate 1 v++List.replicate (m-1) 0:=by
  rw [Int.toNat_natCast,List.length_replicate,List.take_of_length_le (by simp;omega)]
  have:=kS v (0:Int) (k:=0) (m:=m) (j:=1) (by omega)
  simpa using this
 rw [Ag8]
 refine ⟨⟨by omega,by show (m:Int)<(4294967296:Int)+1;omega⟩,rfl,rfl,by simp;omega,?_⟩
 refine Bs.mk (λw=> ∃k:Nat,1<=k/\k<=m/\w=((k:Int),List.replicate k v++List.replicate (m-k) 0,())) (λw=>m-w.1.toNat) ⟨1,Nat.le_refl _,by omega,?_⟩ ?_
 ·have:min (List.replicate (m:Int).toNat (Int.ofNat 0)).length ([v]:List Int).length=1:=by simp;omega
  rw [this]
  first|rfl|skip
 rintro w ⟨k,k1,k2,rfl⟩
 dsimp only
 have hlen:(List.replicate k v++List.replicate (m-k) (0:Int)).length=m:=by simp;omega
 rw [hlen]
 refine Br.dec (λhl=>?_) λhl=>?_
 ·have hl:k<m:=by omega
  obtain ⟨j,hj⟩: ∃j,min (m-k) k=j:=⟨_,rfl⟩
  have OO:List.take (((k:Int)).toNat-Int.toNat (0:Int)) (List.drop (0+Int.toNat (0:Int)) (List.replicate k v++List.replicate (m-k) (0:Int)))=List.replicate k v:=by
   have e0:Int.toNat (0:Int)=0:=rfl
   rw [e0,Int.toNat_natCast,Nat.add_zero,Nat.sub_zero,List.drop_zero,List.take_left' (by simp)]
  have ht:List.take ((m:Int).toNat-((k:Int)).toNat) (List.replicate k v)=List.replicate j v:=by
   rw [Int.toNat_natCast,Int.toNat_natCast,List.take_replicate,hj]
  have ZX:min ((m:Int).toNat-((k:Int)).toNat) (List.replicate k v).length=j:=by rw [List.length_replicate,Int.toNat_natCast,Int.toNat_natCast];exact hj
  rw [OO,ht,ZX,Int.toNat_natCast,Nat.zero_add,kS v (0:Int) (by omega)]
  refine ⟨⟨by omega,by omega,by omega⟩,⟨by omega,by omega,by omega⟩,rfl,by simp;omega,⟨k+j,by omega,by omega,?_⟩,?_⟩
  ·rw [Bt (by omega) (by omega)]
   rfl
  ·rw [Bt (by omega) (by omega)]
   omega
 ·have:k=m:=by omega
  subst this
  rw [Nat.sub_self,List.replicate_zero,List.append_nil,List.drop_zero,List.take_of_length_le (by simp),Int.toNat_natCast]
  rfl
theorem tB:Bz Try.prog 122 Yu:=
 Bz.fM zI (Ah zy At) mixed Try.func122 (by kernel_rfl) (by kernel_rfl) λx h=>KD x.1 x.2.1 h
end Go.Proofs.Ytjbdmibbbpdnnaa

namespace Go.Proofs.Ytjbdmibbbpdnnaa
open Go.RowKit
def mY (g:List (List Int)) (L:List (List Int)) (x:List Int):List Int:=(Ag g.length).map λl=>((L.idxOf (Aa x (Af g l)):Nat):Int)
theorem Tz {g:List (List Int)} {k:Int} {x:List Int} {d:Int} : ∀(ls:List Int) (s:EX) (row:List Int),∃A,(Vq g k x d ls s row).1.1=s.1++A
 | [],s,row=>⟨[],by simp [Vq]⟩
 |l::ls,s,row=>by
  simp only [Vq]
  split
  ·exact Tz ls s _
  ·obtain ⟨A,h⟩:=Tz (g:=g) (k:=k) (x:=x) (d:=d) ls (s.1++ [Aa x (Af g l)],s.2.1++ [d+1],s.2.2.1++ [k],s.2.2.2++ [l]) (row++ [(s.1.length:Int)])
   exact ⟨_::A,by rw [h,List.append_assoc];rfl⟩
theorem yy {L A:List (List Int)} {y:List Int} (h:y∈L):(L++A).idxOf y=L.idxOf y:=by rw [List.idxOf_append,if_pos h]
theorem DA {L A:List (List Int)} {y:List Int} (h:y∉L):(L++y::A).idxOf y=L.length:=by
 rw [List.idxOf_append,if_neg h,List.idxOf_cons_self];simp
theorem j8 {g:List (List Int)} {k:Int} {x:List Int} {d:Int} : ∀(ls:List Int) (s:EX) (row:List Int) (A:List (List Int)),
  (Vq g k x d ls s row).2=row++ls.map λl=>((((Vq g k x d ls s row).1.1++A).idxOf (Aa x (Af g l)):Nat):Int)
 | [],s,row,A=>by simp [Vq]
 |l::ls,s,row,A=>by
  simp only [Vq]
  split
  ·rename_i hm
   obtain ⟨B,hB⟩:=Tz (g:=g) (k:=k) (x:=x) (d:=d) ls s (row++ [(s.1.idxOf (Aa x (Af g l)):Int)])
   rw [j8 ls s _ A,List.append_assoc,List.map_cons,hB,List.append_assoc,yy hm]
   rfl
  ·rename_i hm
   obtain ⟨B,hB⟩:=Tz (g:=g) (k:=k) (x:=x) (d:=d) ls (s.1++ [Aa x (Af g l)],s.2.1++ [d+1],s.2.2.1++ [k],s.2.2.2++ [l]) (row++ [(s.1.length:Int)])
   rw [j8 ls _ _ A,List.append_assoc,List.map_cons,hB]
   dsimp only
   rw [List.append_assoc,List.append_assoc,List.singleton_append,List.cons_append,DA hm]
   try rfl
theorem q9 {g:List (List Int)} {ls:List Int} : ∀(f k:Nat) (s:EX) (N:List (List Int)),∃A,(Ww g ls f k s N).1.1=s.1++A
 |0,k,s,N=>⟨[],by simp [Ww]⟩
 |f+1,k,s,N=>by
  simp only [Ww]
  split
  ·obtain ⟨A,hA⟩:=Tz (g:=g) (k:=(k:Int)) (x:=s.1.getD k []) (d:=s.2.1.getD k 0) ls s []
   obtain ⟨B,hB⟩:=q9 (g:=g) (ls:=ls) f (k+1) (Vq g (k:Int) (s.1.getD k []) (s.2.1.getD k 0) ls s []).1 (N++ [(Vq g (k:Int) (s.1.getD k []) (s.2.1.getD k 0) ls s []).2])
   exact ⟨A++B,by rw [hB,hA,List.append_assoc]⟩
  ·exact ⟨[],by simp⟩
theorem qa {g:List (List Int)} : ∀(f k:Nat) (s:EX) (N:List (List Int)),(Ww g (Ag g.length) f k s N).1.1.length<=f+k->
  (Ww g (Ag g.length) f k s N).2=N++((Ww g (Ag g.length) f k s N).1.1.drop k).map (mY g (Ww g (Ag g.length) f k s N).1.1)
 |0,k,s,N,h=>by
  simp only [Ww] at h⊢
  rw [List.drop_of_length_le (by omega)]
  simp
 |f+1,k,s,N,h=>by
  simp only [Ww] at h⊢
  split
  ·rename_i hk
   rw [if_pos hk] at h
   obtain ⟨A,hA⟩:=Tz (g:=g) (k:=(k:Int)) (x:=s.1.getD k []) (d:=s.2.1.getD k 0) (Ag g.length) s []
   obtain ⟨B,hB⟩:=q9 (g:=g) (ls:=Ag g.length) f (k+1) (Vq g (k:Int) (s.1.getD k []) (s.2.1.getD k 0) (Ag g.length) s []).1 (N++ [(Vq g (k:Int) (s.1.getD k []) (s.2.1.getD k 0) (Ag g.length) s []).2])
   have Qm:=j8 (g:=g) (k:=(k:Int)) (x:=s.1.getD k []) (d:=s.2.1.getD k 0) (Ag g.length) s [] B
   rw [<-hB,List.nil_append] at Qm
   rw [qa f (k+1) _ _ (by omega),List.append_assoc]
   congr 1
   generalize hR:Ww g (Ag g.length) f (k+1) _ _=R at*
   have hkR:k<R.1.1.length:=by rw [hB,hA,List.length_append,List.length_append];omega
   rw [List.drop_eq_getElem_cons hkR,List.map_cons,List.singleton_append]
   congr 1
   have e:R.1.1[k]=s.1.getD k []:=by
    rw [<-Dk (d:= []) hkR,hB,hA,List.append_assoc,Fa hk]
   rw [Qm,e]
   rfl
  ·rename_i hk
   rw [List.drop_of_length_le (by show s.1.length<=k;omega)]
   simp
theorem CJ {p:PP} (hw:Cs p=true):(Gt p).2.2.2.2.2.2.1=(Ab p).map (mY p.2.2.1 (Ab p)):=by
 have h1:=(lB hw).1
 have h2:=cZ (Cu hw).1
 have h3:=qa (g:=p.2.2.1) 3001 0 ([upto p.1.toNat],[0],[0],[0]) [] (by
  show (Gt p).2.1.length<=3001+0
  rw [h1];omega)
 have h4:(Ww p.2.2.1 (Ag p.2.2.1.length) 3001 0 ([upto p.1.toNat],[0],[0],[0]) []).1.1=Ab p:=h1
 rw [h4,List.nil_append,List.drop_zero] at h3
 exact h3
noncomputable def Ed (p:PP) (i:Nat):List Int:=mY p.2.2.1 (Ab p) ((Ab p).getD i [])
theorem Oe {p:PP} (hw:Cs p=true):lR p.2.2.1 (Ag p.2.2.1.length) (Ab p):=by
 obtain ⟨hv,hb⟩:=Cu hw
 have hV:=valid hv
 have hn:=hV.n
 exact oZ hV (jS hv) (mc hv (by rw [Pr];omega) (λy hy=>by have:=Im.1 hy;omega) hb)
theorem FI {p:PP} (hw:Cs p=true):rm p.2.2.1 (Ag p.2.2.1.length) (Ab p) (cn p):=by
 obtain ⟨hv,hb⟩:=Cu hw
 have hn:=(valid hv).n
 exact mc hv (by rw [Pr];omega) (λy hy=>by have:=Im.1 hy;omega) hb
theorem yQ {p:PP} (hw:Cs p=true) {i:Nat} (hi:i<(Ab p).length) {l:Int} (hl:l∈Ag p.2.2.1.length):
  (Ab p).idxOf (Aa ((Ab p).getD i []) (Af p.2.2.1 l))<(Ab p).length/\
  (Ab p).getD ((Ab p).idxOf (Aa ((Ab p).getD i []) (Af p.2.2.1 l))) []=Aa ((Ab p).getD i []) (Af p.2.2.1 l):=by
 have hm:=(Oe hw).next _ (Kh hi) l hl
 have h1:=List.idxOf_lt_length_of_mem hm
 exact ⟨h1,by rw [Dk h1];exact List.getElem_idxOf h1⟩
theorem dC {p:PP} (hw:Cs p=true):Zh (Ed p) (Ab p).length:= λi hi t ht=>by
 obtain ⟨l,hl,rfl⟩:=List.mem_map.1 ht
 have:=(yQ hw hi hl).1
 omega
theorem tD {p:PP} (hw:Cs p=true) (Q:List Int->Prop) (hQ: ∀x∈Ab p,Q x-> ∀l∈Ag p.2.2.1.length,Q (Aa x (Af p.2.2.1 l))) {x:List Int} (hx:x∈Ab p) (hq:Q x):
  ∀y∈Ab p,Q y:=by
 have hc:=Oe hw
 have hL:=FI hw
 have up: ∀(j:Nat),j<(Ab p).length->Q ((Ab p).getD j [])->Q ((Ab p).getD 0 []):=by
  intro j
  induction j using Nat.strongRecOn with
  |_ j ih=>
   intro hj hqj
   by_cases e:j=0
   ·subst e;exact hqj
   ·obtain ⟨i,l,h1,h2,h3,_⟩:=hL.par j (by omega) hj
    have hi:i<(Ab p).length:=by omega
    obtain ⟨b1,b2⟩:=hc.back _ (Kh hi) l h2
    refine ih i h1 hi ?_
    have:=hQ _ (Kh hj) hqj _ b1
    rwa [h3,b2] at this
 have down:Q ((Ab p).getD 0 [])-> ∀(j:Nat),j<(Ab p).length->Q ((Ab p).getD j []):=by
  intro h0 j
  induction j using Nat.strongRecOn with
  |_ j ih=>
   intro hj
   by_cases e:j=0
   ·subst e;exact h0
   ·obtain ⟨i,l,h1,h2,h3,_⟩:=hL.par j (by omega) hj
    have hi:i<(Ab p).length:=by omega
    rw [h3]
    exact hQ _ (Kh hi) (ih i h1 hi) l h2
 obtain ⟨j,hj,rfl⟩:=List.mem_iff_getElem.1 hx
 rw [<-Dk (d:= []) hj] at hq
 intro y hy
 obtain ⟨k,hk,rfl⟩:=List.mem_iff_getElem.1 hy
 rw [<-Dk (d:= []) hk]
 exact down (up j hj hq) k hk
theorem NJ {p:PP} (hw:Cs p=true) (S:Nat->Bool) {i0:Nat} (hi0:i0<(Ab p).length) (hS:S i0=true):
  Ju p.2.2.1 (Ag p.2.2.1.length) (Ab p) (λx=>S ((Ab p).idxOf x)=true) (λx=>(bq (Ed p) S (Ab p).length).getD ((Ab p).idxOf x) 0):=by
 have hd:=QP (S:=S) (dC hw)
 have oT:=(x4 hw).nodup
 have hc:=Oe hw
 have ix: ∀ {x:List Int},x∈Ab p->(Ab p).idxOf x<(Ab p).length/\(Ab p).getD ((Ab p).idxOf x) []=x:= λ {x} hx=>by
  have h1:=List.idxOf_lt_length_of_mem hx
  exact ⟨h1,by rw [Dk h1];exact List.getElem_idxOf h1⟩
 have st: ∀x∈Ab p,0<=(bq (Ed p) S (Ab p).length).getD ((Ab p).idxOf x) 0-> ∀l∈Ag p.2.2.1.length,
   0<=(bq (Ed p) S (Ab p).length).getD ((Ab p).idxOf (Aa x (Af p.2.2.1 l))) 0/\
   (bq (Ed p) S (Ab p).length).getD ((Ab p).idxOf (Aa x (Af p.2.2.1 l))) 0<=(bq (Ed p) S (Ab p).length).getD ((Ab p).idxOf x) 0+1:= λx hx h0 l hl=>by
  obtain ⟨i1,i2⟩:=ix hx
  have:=hd.done _ i1 h0 (by simp) (λh=>h) (((Ab p).idxOf (Aa x (Af p.2.2.1 l)):Nat):Int) (List.mem_map.2 ⟨l,hl,by rw [i2]⟩)
  rwa [Int.toNat_natCast] at this
 have nn: ∀x∈Ab p,0<=(bq (Ed p) S (Ab p).length).getD ((Ab p).idxOf x) 0:=by
  refine tD hw _ (λx hx h0 l hl=>(st x hx h0 l hl).1) (Kh hi0) ?_
  rw [Qp oT hi0,hd.src i0 hi0 hS]
  exact Int.le_refl _
 refine ⟨nn,λx hx=>⟨λh0=>hd.KW _ (ix hx).1 h0,λhs=>hd.src _ (ix hx).1 hs⟩,λx hx l hl=>(st x hx (nn x hx) l hl).2,λx hx h0=>?_⟩
 obtain ⟨j,j1,j2,j3⟩:=hd.par _ (ix hx).1 h0
 obtain ⟨l,hl,XM⟩:=List.mem_map.1 j2
 obtain ⟨n1,n2⟩:=yQ hw j1 hl
 have e:(Ab p).idxOf (Aa ((Ab p).getD j []) (Af p.2.2.1 l))=(Ab p).idxOf x:=by omega
 obtain ⟨b1,b2⟩:=hc.back _ (Kh j1) l hl
 rw [e,(ix hx).2] at n2
 refine ⟨-l,b1,?_⟩
 have e5:Aa x (Af p.2.2.1 (-l))=(Ab p).getD j []:=(congrArg (λz=>Aa z (Af p.2.2.1 (-l))) n2).trans b2
 rw [e5,Qp oT j1,j3]
end Go.Proofs.Ytjbdmibbbpdnnaa

namespace Go.Proofs.Ytjbdmibbbpdnnaa
open Go.RowKit
noncomputable def w8 (e:Option XP) (S:Nat->Bool):List Int:=match e with|some e=>bq (Ed e.1) S (Ab e.1).length|none=> []
abbrev tDs:Ty:= .clo 119 (.pair (.ptr tL) (.pair (.ptr tI) .unit))
noncomputable abbrev qT:Spec:=Di (.pair tI (.pair (.ptr tL) (.pair (.ptr tI) .unit))) .bool false true (λx=>(0<=x.1/\x.1<List.length x.2.1)/\0<=x.2.2.1/\x.2.2.1<List.length x.2.1) (λx=>decide (Cx x.2.1 x.1<Cx x.2.1 x.2.2.1))
noncomputable abbrev jH:Spec:=Di (.pair tL (.pair tDs .unit)) tI false true (λx=>short x.1/\Mv (List.length x.2.1.1) x.1/\0<=x.2.1.2.1/\x.2.1.2.1<List.length x.2.1.1) (λx=>Dd (λy=>decide (Cx x.2.1.1 y<Cx x.2.1.1 x.2.1.2.1)) x.1 0)
def Xs (N:Nat->List Int) (ls d:List Int):Nat->Int->List Int->List Int×Int
 |0,i,w=>(w,i)
 |f+1,i,w=>if 0<Cx d i then Xs N ls d f ((N i.toNat).getD (Dd (λy=>decide (Cx d y<Cx d i)) (N i.toNat) 0).toNat 0) (w++ [ls.getD (Dd (λy=>decide (Cx d y<Cx d i)) (N i.toNat) 0).toNat 0]) else (w,i)
noncomputable def Nx (p:PP) (d:List Int) (i:Int):List Int×Int×Bool×Unit:=
 if Cx d i>200 then ([],0,false,()) else ((Xs (Ed p) (Ag p.2.2.1.length) d (Cx d i).toNat i []).1,(Xs (Ed p) (Ag p.2.2.1.length) d (Cx d i).toNat i []).2,true,())
noncomputable def sC (e:Option XP) (d:List Int) (i:Int):(List Int×Int×Bool×Unit)×Unit:=match e with|some e=>(Nx e.1 d i,())|none=>(([],0,false,()),())
structure GU (p:PP) (d:List Int):Prop where
 len:d.length=(Ab p).length
 nn: ∀i,i<d.length->0<=d.getD i 0
 dn: ∀i,i<d.length->0<d.getD i 0-> ∃t∈Ed p i,d.getD t.toNat 0<d.getD i 0
noncomputable abbrev Qx:MSpec:=fM [none,none,none] [(false, .Ew (.optr eL)),(false, .Ew tL),(false, .Ew tI)] true [none,none,none] [rL, .Ew tI, .Ew .bool]
 (λx=> ∃e':XP,x.1=some e'/\uw e'/\GU e'.1 x.2.1/\0<=x.2.2.1/\x.2.2.1<List.length x.2.1) (λx=>sC x.1 x.2.1 x.2.2.1)
theorem Abv (y:Int) (d:List Int) (i:Int) (P:Bool->Prop):(∃(y4:Int),idx d y=some y4/\ ∃(y5:Int),idx d i=some y5/\P (decide (y4<y5)))=fnW Da (look []) qT Try.f119 (y,d,i,()) P:=by kernel_rfl
theorem WQ (xs:List Int) (c:List Int×Int×Unit) (P:Int->Prop):(Bs (λ(v3:Int×PUnit) (k4:Int×PUnit->Prop)=>Br (decide (v3.1<(↑xs.length:Int))) (∃(y5:Int),idx xs v3.1=some y5/\ ∃(y6:Bool),qT.fn (y5,c.1,c.2.1,())=some y6/\Br y6 (P v3.1) (k4 (IntKind.i64.wrap (v3.1+(1:Int)),()))) (P (-1:Int))) ((0:Int),PUnit.unit))=fnW Da (look [(119,qT)]) jH Try.f118 (xs,c,()) P:=by kernel_rfl
abbrev fZ:Type:=(Int×ByteArray×List (List Int)×PUnit)×List (List Int)×List Int×(ByteArray->Option Int)×List Int×List Int×List (List Int)×PUnit
theorem FU (e:Option XP) (d:List Int) (i:Int) (P:((List Int×Int×Bool×Unit)×Unit)->Prop):(∃(y4:Int),idx d i=some y4/\Br (decide (y4>(200:Int))) (P ((List.take 0 (List.drop 0 []),(0:Int),false,()),())) (∃(y5:fZ),e=some y5/\ ∃(y6:List Int),Ic.fn ((↑y5.1.2.2.1.length:Int),())=some y6/\0=0/\0=([]:List Int).length/\Bs (λ(v7:List Int×Int×List Int×PUnit) (k8:List Int×Int×List Int×PUnit->Prop)=> ∃(y9:Int),idx v7.1 v7.2.1=some y9/\Br (decide (y9>(0:Int))) (∃(iM:fZ),e=some iM/\ ∃(iN:List Int),idx iM.2.2.2.2.2.2.1 v7.2.1=some iN/\ ∃(eV:Int),jH.fn (iN,(v7.1,v7.2.1,()),())=some eV/\ ∃(eW:Int),idx y6 eV=some eW/\0=0/\v7.2.2.1.length=v7.2.2.1.length/\v7.2.2.1.length+(List.take 1 (List.drop 0 [eW])).length<=Bj/\ ∃(Wr:fZ),e=some Wr/\ ∃(Vp:List Int),idx Wr.2.2.2.2.2.2.1 v7.2.1=some Vp/\ ∃(Xm:Int),idx Vp eV=some Xm/\0=0/\(v7.2.2.1++List.take 1 (List.drop 0 [eW])).length=(v7.2.2.1++List.take 1 (List.drop 0 [eW])).length/\k8 (v7.1,Xm,v7.2.2.1++List.take 1 (List.drop 0 [eW]),())) (P ((List.take v7.2.2.1.length (List.drop 0 v7.2.2.1),v7.2.1,true,()),()))) (d,i,[],PUnit.unit)))=fnMW Xj (look [(117,Ic),(118,jH)]) Qx Try.f67 (e,d,i,()) P:=by kernel_rfl
theorem YP {e:XP} (h:uw e):e.2.1=Ab e.1:=(congrArg (λz:XP=>z.2.1) h.2).trans (lB h.1).1
theorem NK {e:XP} (h:uw e):e.2.2.2.2.2.2.1=(Ab e.1).map (mY e.1.2.2.1 (Ab e.1)):=(congrArg (λz:XP=>z.2.2.2.2.2.2.1) h.2).trans (CJ h.1)
theorem HS {e:XP} (h:uw e) {i:Nat} (hi:i<(Ab e.1).length):idx e.2.2.2.2.2.2.1 (i:Int)=some (Ed e.1 i):=by
 rw [NK h,Av (by rw [List.length_map];exact hi),List.getElem_map]
 unfold Ed
 rw [Dk hi]
theorem ju (p:PP) (i:Nat):(Ed p i).length=(Ag p.2.2.1.length).length:=by unfold Ed mY;rw [List.length_map]
theorem Wf {p:PP} (hV:Valid p):(Ag p.2.2.1.length).length<=16:=by rw [Kn];have:=hV.gK;omega
def GJ (S:Nat->Bool) (i:Nat):List Int:=((List.range i).filter S).map λ(k:Nat)=>(k:Int)
theorem gA (S:Nat->Bool) (i:Nat):GJ S (i+1)=if S i=true then GJ S i++ [(i:Int)] else GJ S i:=by
 unfold GJ
 rw [List.range_succ,List.filter_append]
 by_cases h:S i=true
 ·rw [if_pos h];simp [h]
 ·rw [if_neg h];simp [h]
theorem AG (S:Nat->Bool) (i:Nat):(GJ S i).length<=i:=by
 unfold GJ
 rw [List.length_map]
 exact Nat.le_trans (List.length_filter_le _ _) (by simp)
theorem th {xs:List Int} {i:Nat} {v:Int} {m:Nat} (hl:xs.length=m) (hi:i<m) {f g:Nat->Int} (h: ∀k,k<m->xs.getD k 0=f k) (hg:g i=v) (El: ∀k,k≠i->g k=f k): ∀k,k<m->(xs.set i v).getD k 0=g k:= λk hk=>by
 rw [dv (by omega)]
 by_cases e:i=k
 ·subst e;rw [if_pos rfl,hg]
 ·rw [if_neg e,h k hk,El k λe'=>e e'.symm]
theorem qz {xs ys:List Int} (h1:xs.length=ys.length) (h: ∀k,k<xs.length->xs.getD k 0=ys.getD k 0):xs=ys:=
 List.ext_getElem h1 λk h2 h3=>by have:=h k h2;rwa [Dk h2,Dk h3] at this
theorem NO {xs:List Int} {k:Nat} (h:k<xs.length):xs[0+((k:Nat):Int).toNat]?=some (xs.getD k 0):=by
 rw [Nat.zero_add,Int.toNat_natCast,List.getElem?_eq_getElem h,Dk h]
theorem Aba (y:Int) (d:List Int) (i:Int) (h:(0<=y/\y<(List.length d:Int))/\0<=i/\i<(List.length d:Int)):fnW Da (look []) qT Try.f119 (y,d,i,()) (λ(z:Bool)=>z=decide (Cx d y<Cx d i)):=
 Eq.mp (Abv y d i _) ⟨_,Yh h.1.1 h.1.2,_,Yh h.2.1 h.2.2,rfl⟩
theorem EY:Sound Try.prog 119 qT:=
 Sound.Di Cb At mixed Try.func119 (by kernel_rfl) (by kernel_rfl) λx h=>Aba x.1 x.2.1 x.2.2.1 h
theorem VM (xs:List Int) (c:List Int×Int×Unit) (h:short xs/\Mv (List.length c.1) xs/\0<=c.2.1/\c.2.1<(List.length c.1:Int)):fnW Da (look [(119,qT)]) jH Try.f118 (xs,c,()) (λ(z:Int)=>z=Dd (λy=>decide (Cx c.1 y<Cx c.1 c.2.1)) xs 0):=by
 obtain ⟨h,h5,h6⟩:=h
 unfold short at h
 refine Eq.mp (WQ xs c _) ?_
 refine Aq xs.length (λv=>v.1) (λj _=>Dd (λy=>decide (Cx c.1 y<Cx c.1 c.2.1)) (xs.drop j) j=Dd (λy=>decide (Cx c.1 y<Cx c.1 c.2.1)) xs 0) rfl (by simp) ?_
 rintro j ⟨i,⟨⟩⟩ K hj hi hR hK
 dsimp only at hi⊢
 subst hi
 refine Br.dec (λhl=>?_) λhl=>?_
 ·have hl:j<xs.length:=by omega
  rw [List.drop_eq_getElem_cons hl] at hR
  simp only [Dd] at hR
  refine ⟨_,Av hl,_,if_pos ⟨h5 _ (List.getElem_mem hl),h6⟩,⟨λhe=>?_,λhe=>?_⟩⟩
  ·have he:decide (Cx c.1 xs[j]<Cx c.1 c.2.1)=true:=he
   rw [if_pos he] at hR
   exact hR
  ·have he:decide (Cx c.1 xs[j]<Cx c.1 c.2.1)=false:=he
   rw [if_neg (by rw [he];decide)] at hR
   rw [Ao (by omega)]
   exact hK hl _ rfl (by push_cast;exact hR)
 ·have:j=xs.length:=by omega
  subst this
  rw [List.drop_length] at hR
  exact hR
theorem zx:Sound Try.prog 118 jH:=
 Sound.Di Cb (Ah EY At) mixed Try.func118 (by kernel_rfl) (by kernel_rfl) λx h=>VM x.1 x.2.1 h
theorem jj {α:Type} {P:α->Bool} : ∀(l:List α) (i:Nat),l.any P=true-> ∃k,∃h:k<l.length,Dd P l (i:Int)=((i+k:Nat):Int)/\P l[k]=true/\ ∀j (h:j<k),P (l[j]'(by omega))=false
 | [],i,h=>by simp at h
 |y::r,i,h=>by
  simp only [Dd]
  by_cases hy:P y=true
  ·rw [if_pos hy]
   exact ⟨0,by simp,rfl,hy,λj hj=>absurd hj (Nat.not_lt_zero _)⟩
  ·rw [if_neg hy]
   have hr:r.any P=true:=by
    rw [List.any_cons,Bool.or_eq_true] at h
    exact h.resolve_left hy
   obtain ⟨k,hk,h1,h2,h3⟩:=jj r (i+1) hr
   refine ⟨k+1,by simpa using hk,?_,h2,λj hj=>?_⟩
   ·rw [show ((i:Int)+1)=((i+1:Nat):Int) by push_cast;rfl,h1]
    congr 1
    omega
   ·cases j with
    |zero=>exact Bool.not_eq_true _|>.mp hy
    |succ j=>exact h3 j (by omega)
theorem NI {p:PP} (hw:Cs p=true) {d:List Int} (h:GU p d) {i:Nat} (hi:i<d.length) (hp:0<d.getD i 0):
  ∃k,∃(h1:k<(Ag p.2.2.1.length).length) (h2:k<(Ed p i).length),Dd (λy=>decide (Cx d y<Cx d (i:Int))) (Ed p i) 0=(k:Int)/\
   ∃t:Nat,(Ed p i)[k]=(t:Int)/\t<d.length/\d.getD t 0<d.getD i 0:=by
 obtain ⟨t,ht,htl⟩:=h.dn i hi hp
 have TE:(Ed p i).any (λy=>decide (Cx d y<Cx d (i:Int)))=true:=List.any_eq_true.2 ⟨t,ht,decide_eq_true htl⟩
 obtain ⟨k,hk,h1,h2,_⟩:=jj (Ed p i) 0 TE
 have hl:=h.len
 obtain ⟨r1,r2⟩:=dC hw i (by omega) _ (List.getElem_mem hk)
 obtain ⟨tn,UQ⟩:=Int.eq_ofNat_of_zero_le r1
 refine ⟨k,by rw [<-ju];exact hk,hk,by rw [Nat.zero_add] at h1;exact h1,tn,UQ,by omega,?_⟩
 have h2:=of_decide_eq_true h2
 unfold Cx at h2
 rw [UQ,Int.toNat_natCast,Int.toNat_natCast] at h2
 exact h2
theorem DZ (e:Option XP) (d:List Int) (i:Int) (h: ∃e':XP,e=some e'/\uw e'/\GU e'.1 d/\0<=i/\i<(List.length d:Int)):
  fnMW Xj (look [(117,Ic),(118,jH)]) Qx Try.f67 (e,d,i,()) (λ(z:(List Int×Int×Bool×Unit)×Unit)=>z=sC e d i):=by
 obtain ⟨e',rfl,hx,hd,h1,h2⟩:=h
 have hwv:=Cu hx.1
 have hV:=valid hwv.1
 have hf:=hV.gK
 have hdl:=hd.len
 refine Eq.mp (FU _ _ _ _) ⟨_,Yh h1 h2,?_⟩
 show Br _ (_=(Nx e'.1 d i,())) _
 unfold sC Nx
 dsimp only
 refine Br.dec (λhb=>by rw [if_pos hb];rfl) λhb=>?_
 rw [if_neg hb]
 refine ⟨e',rfl,Ag e'.1.2.2.1.length,(if_pos ⟨by show (0:Int)<=((e'.1.2.2.1.length:Nat):Int);omega,by show ((e'.1.2.2.1.length:Nat):Int)<=8;omega⟩).trans (congrArg some (by show Ag (((e'.1.2.2.1.length:Nat):Int)).toNat=_;rw [Int.toNat_natCast])),rfl,rfl,?_⟩
 have hnn: ∀k:Nat,k<d.length->0<=Cx d (k:Int):= λk hk=>by unfold Cx;rw [Int.toNat_natCast];exact hd.nn k hk
 obtain ⟨R,hRR⟩: ∃R,Xs (Ed e'.1) (Ag e'.1.2.2.1.length) d (Cx d i).toNat i []=R:=⟨_,rfl⟩
 rw [hRR]
 obtain ⟨i0,rfl⟩:=Int.eq_ofNat_of_zero_le h1
 refine Bs.mk (λv=> ∃(k:Nat) (w:List Int) (f:Nat),v=(d,(k:Int),w,())/\k<d.length/\Cx d (k:Int)<=f/\w.length+f<=200/\Xs (Ed e'.1) (Ag e'.1.2.2.1.length) d f (k:Int) w=R) (λv=>(Cx d v.2.1).toNat)
  ⟨i0,[],(Cx d (i0:Int)).toNat,rfl,by omega,by omega,by have:=hnn i0 (by omega);simp only [List.length_nil];omega,hRR⟩ ?_
 rintro v ⟨k,w,f,rfl,k1,k2,k3,k4⟩
 dsimp only
 refine ⟨Cx d (k:Int),Yh (by omega) (by omega),Br.dec (λhl=>?_) λhl=>?_⟩
 ·have Hg:0<d.getD k 0:=by unfold Cx at hl;rwa [Int.toNat_natCast] at hl
  obtain ⟨f,rfl⟩: ∃f',f=f'+1:=⟨f-1,by omega⟩
  obtain ⟨n,n1,n2,n3,t,n4,n5,n6⟩:=NI hx.1 hd k1 Hg
  simp only [Xs] at k4
  rw [if_pos hl,Int.toNat_natCast,n3,Int.toNat_natCast,Dk n2,n4,Dk n1] at k4
  have hnl:(Ed e'.1 k).length<=16:=by rw [ju];exact Wf hV
  have Af5:Mv d.length (Ed e'.1 k):= λy hy=>by
   have:=dC hx.1 k (by omega) y hy
   omega
  refine ⟨e',rfl,Ed e'.1 k,HS hx (by omega),(n:Int),(if_pos ⟨by show (Ed e'.1 k).length<=4294967296;omega,Af5,by show (0:Int)<=(k:Int);omega,by show (k:Int)<(d.length:Int);omega⟩).trans (congrArg some n3),_,Av n1,rfl,rfl,?_,e',rfl,Ed e'.1 k,HS hx (by omega),(t:Int),by rw [Av n2,n4],rfl,rfl,?_⟩
  ·show w.length+1<=4294967296;omega
  ·have e6:Cx d (t:Int)<Cx d (k:Int):=by unfold Cx;rw [Int.toNat_natCast,Int.toNat_natCast];exact n6
   have h0:=hnn t n5
   refine ⟨⟨t,w++ [(Ag e'.1.2.2.1.length)[n]],f,rfl,n5,by omega,by rw [List.length_append,List.length_singleton];omega,k4⟩,?_⟩
   show (Cx d (t:Int)).toNat<(Cx d (k:Int)).toNat
   omega
 ·rw [Bh]
  have:Xs (Ed e'.1) (Ag e'.1.2.2.1.length) d f (k:Int) w=(w,(k:Int)):=by
   cases f with
   |zero=>rfl
   |succ f=>simp only [Xs];rw [if_neg (by omega)]
  rw [this] at k4
  subst k4
  rfl
theorem pA:Bz Try.prog 67 Qx:=
 Bz.fM Vl (Ah Xg (Ah zx At)) mixed Try.func67 (by kernel_rfl) (by kernel_rfl) λx h=>DZ x.1 x.2.1 x.2.2.1 h
end Go.Proofs.Ytjbdmibbbpdnnaa

namespace Go.Proofs.Ytjbdmibbbpdnnaa
open Go.RowKit
theorem km {p:PP} (hv:Az p=true):(Ab p).getD 0 []=upto p.1.toNat/\upto p.1.toNat∈Ab p:=by
 obtain ⟨A,h⟩:=(Vf hv).first
 have h:Ab p=upto p.1.toNat::A:=h
 rw [h]
 exact ⟨rfl,by simp⟩
theorem Ju.congr {g:List (List Int)} {ls:List Int} {L:List (List Int)} {S S':List Int->Prop} {d:List Int->Int} (h:Ju g ls L S d) (e: ∀x∈L,S x↔S' x):Ju g ls L S' d:=
 ⟨h.nn,λx hx=>(h.zero x hx).trans (e x hx),h.step,h.down⟩
theorem AF {p:PP} (hw:Cs p=true) {S:List Int->Prop} {d:List Int} (hl:d.length=(Ab p).length) (h:Ju p.2.2.1 (Ag p.2.2.1.length) (Ab p) S (λx=>d.getD ((Ab p).idxOf x) 0)):GU p d:=by
 have oT:=(x4 hw).nodup
 refine ⟨hl,λi hi=>?_,λi hi h0=>?_⟩
 ·have:=h.nn _ (Kh (show i<(Ab p).length by omega))
  rwa [Qp oT (by omega)] at this
 ·have c9:i<(Ab p).length:=by omega
  obtain ⟨l,h1,h2⟩:=h.down _ (Kh c9) (by rw [Qp oT c9];exact h0)
  rw [Qp oT c9] at h2
  refine ⟨_,List.mem_map.2 ⟨l,h1,rfl⟩,?_⟩
  rw [Int.toNat_natCast,h2]
  omega
def o3 (g:List (List Int)) (dep:List Int->Int) (ls:List Int):Nat->List Int->List Int->List Int×List Int
 |0,x,w=>(w,x)
 |n+1,x,w=>match ls.find? (λl=>decide (dep (Aa x (Af g l))=n)) with
  |some l=>o3 g dep ls n (Aa x (Af g l)) (w++ [l])
  |none=>o3 g dep ls n x w
theorem AJ {α:Type} {P:α->Bool} : ∀(l:List α) (k:Nat) (h:k<l.length),P l[k]=true->(∀j (hj:j<k),P (l[j]'(by omega))=false)->l.find? P=some l[k]
 | [],k,h,_,_=>by simp at h
 |y::r,0,_,h1,_=>by rw [List.find?_cons_of_pos (show P y=true from h1)];rfl
 |y::r,k+1,h,h1,h2=>by
  rw [List.find?_cons_of_neg (by have:=h2 0 (by omega);simp at this;simp [this])]
  exact AJ r k (by simpa using h) h1 λj hj=>h2 (j+1) (by omega)
theorem HN {p:PP} (hw:Cs p=true) {S:List Int->Prop} {d:List Int} (ML:GU p d) (hd:Ju p.2.2.1 (Ag p.2.2.1.length) (Ab p) S (λx=>d.getD ((Ab p).idxOf x) 0))
  {see:List Int->List Int} {dep:List Int->Int} (hs: ∀x∈Ab p,∀l∈Ag p.2.2.1.length,see (Aa x (Af p.2.2.1 l))=Aa (see x) (Af p.2.2.1 l))
  (he: ∀x∈Ab p,d.getD ((Ab p).idxOf x) 0=dep (see x)):
  ∀(n i:Nat) (w:List Int),i<(Ab p).length->d.getD i 0=n->
   (Xs (Ed p) (Ag p.2.2.1.length) d n (i:Int) w).1=(o3 p.2.2.1 dep (Ag p.2.2.1.length) n (see ((Ab p).getD i [])) w).1/\
   (Xs (Ed p) (Ag p.2.2.1.length) d n (i:Int) w).1.length=w.length+n/\
   ∃j:Nat,(Xs (Ed p) (Ag p.2.2.1.length) d n (i:Int) w).2=(j:Int)/\j<(Ab p).length/\d.getD j 0=0/\see ((Ab p).getD j [])=(o3 p.2.2.1 dep (Ag p.2.2.1.length) n (see ((Ab p).getD i [])) w).2
 |0,i,w,hi,e=>⟨rfl,rfl,i,rfl,hi,e,rfl⟩
 |n+1,i,w,hi,e=>by
  have oT:=(x4 hw).nodup
  have hl:=ML.len
  have jh:0<d.getD i 0:=by omega
  have hg:Cx d (i:Int)=d.getD i 0:=by unfold Cx;rw [Int.toNat_natCast]
  obtain ⟨t0,OO,htl⟩:=ML.dn i (by omega) jh
  have TE:(Ed p i).any (λy=>decide (Cx d y<Cx d (i:Int)))=true:=List.any_eq_true.2 ⟨t0,OO,decide_eq_true htl⟩
  obtain ⟨k,hk,k1,k2,k3⟩:=jj (Ed p i) 0 TE
  have k1:Dd (λy=>decide (Cx d y<Cx d (i:Int))) (Ed p i) 0=(k:Int):=by rw [Nat.zero_add] at k1;exact k1
  have Ht:k<(Ag p.2.2.1.length).length:=by rw [<-ju p i];exact hk
  have hx:=Kh (L:=Ab p) hi
  have NT: ∀j (hj:j<(Ag p.2.2.1.length).length),∃h2:j<(Ed p i).length,(Ed p i)[j]=(((Ab p).idxOf (Aa ((Ab p).getD i []) (Af p.2.2.1 (Ag p.2.2.1.length)[j])):Nat):Int):= λj hj=>
   ⟨by rw [ju];exact hj,by simp only [Ed,mY,List.getElem_map]⟩
  have lj: ∀j (hj:j<(Ag p.2.2.1.length).length) (h2:j<(Ed p i).length),decide (Cx d (Ed p i)[j]<Cx d (i:Int))=decide (dep (Aa (see ((Ab p).getD i [])) (Af p.2.2.1 (Ag p.2.2.1.length)[j]))=n):= λj hj h2=>by
   obtain ⟨_,h3⟩:=NT j hj
   have uj:=List.getElem_mem hj
   have h4:=hd.DO (Oe hw) hx uj
   rw [Qp oT hi] at h4
   have h5:=he _ ((Oe hw).next _ hx _ uj)
   rw [hs _ hx _ uj] at h5
   rw [h3,hg,<-h5]
   unfold Cx
   rw [Int.toNat_natCast,Bool.eq_iff_iff,decide_eq_true_iff,decide_eq_true_iff]
   omega
  have AT:(Ag p.2.2.1.length).find? (λl=>decide (dep (Aa (see ((Ab p).getD i [])) (Af p.2.2.1 l))=n))=some (Ag p.2.2.1.length)[k]:=by
   refine AJ _ k Ht ?_ λj hj=>?_
   ·rw [<-lj k Ht hk];exact k2
   ·rw [<-lj j (by omega) (by omega)];exact k3 j hj
  obtain ⟨_,mK⟩:=NT k Ht
  have uj:=List.getElem_mem Ht
  obtain ⟨n1,n2⟩:=yQ hw hi uj
  have fy:Cx d (i:Int)>0:=by rw [hg];exact jh
  simp only [Xs,o3]
  rw [if_pos fy,Int.toNat_natCast,k1,Int.toNat_natCast,Dk hk,mK,Dk Ht,AT]
  dsimp only
  have hdk:d.getD ((Ab p).idxOf (Aa ((Ab p).getD i []) (Af p.2.2.1 (Ag p.2.2.1.length)[k]))) 0=n:=by
   have h6:=of_decide_eq_true ((lj k Ht hk).symm.trans k2)
   rw [he _ ((Oe hw).next _ hx _ uj),hs _ hx _ uj]
   exact h6
  obtain ⟨r1,r2,r3⟩:=HN hw ML hd hs he n _ (w++ [(Ag p.2.2.1.length)[k]]) n1 hdk
  rw [n2,hs _ hx _ uj] at r1 r3
  refine ⟨r1,?_,r3⟩
  rw [r2,List.length_append,List.length_singleton]
  omega
end Go.Proofs.Ytjbdmibbbpdnnaa

namespace Go.Proofs.Ytjbdmibbbpdnnaa
open Go.RowKit
def cp (w:List Int):List Int×Bool×Unit:=if w.length>200 then ([],false,()) else (w,true,())
noncomputable abbrev nI:Spec:=Di (.pair tL .unit) (.pair tL (.pair .bool .unit)) true false (λx=>short x.1) (λx=>cp x.1)
theorem Aby (w:List Int) (P:(List Int×Bool×Unit)->Prop):(Br (decide ((↑w.length:Int)>(200:Int))) (P (List.take 0 (List.drop 0 []),false,())) (P (w,true,())))=fnW Da (look []) nI Try.f59 (w,()) P:=by kernel_rfl
theorem Abd (w:List Int) (h:short w):fnW Da (look []) nI Try.f59 (w,()) (λ(z:List Int×Bool×Unit)=>z=cp w):=by
 refine Eq.mp (Aby w _) ?_
 unfold cp
 refine Br.dec (λhl=>?_) λhl=>?_
 ·rw [if_pos (by omega)];rfl
 ·rw [if_neg (by omega)]
theorem FA:Sound Try.prog 59 nI:=
 Sound.Di Cb At mixed Try.func59 (by kernel_rfl) (by kernel_rfl) λx h=>Abd x.1 h
end Go.Proofs.Ytjbdmibbbpdnnaa

namespace Go.Proofs.Ytjbdmibbbpdnnaa
open Go.RowKit
noncomputable abbrev dG:Spec:=Di (.pair Ck (.pair tL (.pair tI .unit))) tL false false (λx=>Az x.1=true/\List.length x.2.1<=20/\(∀y∈x.2.1,0<=y/\y<x.1.1)/\Ft (List.length x.1.2.2.1) x.2.2.1) (λx=>Aa x.2.1 (Af x.1.2.2.1 x.2.2.1))
theorem py:Sound Try.prog 115 dG:=aA.loose
theorem zF {g:List (List Int)} {dep:List Int->Int} {ls:List Int} : ∀(n:Nat) (x w:List Int),(o3 g dep ls n x w).1.length<=w.length+n
 |0,x,w=>Nat.le_refl _
 |n+1,x,w=>by
  simp only [o3]
  split
  ·rename_i l hf
   have:=zF (g:=g) (dep:=dep) (ls:=ls) n (Aa x (Af g l)) (w++ [l])
   rw [List.length_append,List.length_singleton] at this
   omega
  ·have:=zF (g:=g) (dep:=dep) (ls:=ls) n x w
   omega
end Go.Proofs.Ytjbdmibbbpdnnaa

namespace Go.Proofs.Ytjbdmibbbpdnnaa
open Go.RowKit
noncomputable def Py (p:PP) (t:List Int):List Int:=bq (Ed p) (λi=>decide ((Ab p).getD i []∈Ab (Co p t))) (Ab p).length
noncomputable abbrev kO:Spec:=Di (.pair Ck (.pair Nc (.pair Nc .unit))) tL false true (λx=> ∃t,Ji x.1 t=true/\x.2.1=An x.1.2.2.1 (upto x.1.1.toNat)/\x.2.2.1=An (Co x.1 t).2.2.1 (upto x.1.1.toNat))
 (λx=>bq (Ed x.1) (λi=>decide ((Ab x.1).getD i []∈x.2.2.1.1)) (Ab x.1).length)
noncomputable def Jy (p:PP) (d:List Int) (x:List Int):Int:=d.getD ((Ab p).idxOf x) 0
noncomputable def Oz (p:PP) (d s:List Int):List Int:=(o3 p.2.2.1 (Jy p d) (Ag p.2.2.1.length) (Jy p d s).toNat s []).1
def uy (p:PP) (d:List Int):Prop:=d.length=(Ab p).length/\(∀i,i<d.length->d.getD i 0<=3000)/\ ∃S,Ju p.2.2.1 (Ag p.2.2.1.length) (Ab p) S (λx=>d.getD ((Ab p).idxOf x) 0)
noncomputable abbrev fU:Spec:=Di (.pair Ck (.pair Nc (.pair tL (.pair tL .unit)))) tL false true (λx=>Cs x.1=true/\x.2.1=An x.1.2.2.1 (upto x.1.1.toNat)/\uy x.1 x.2.2.1/\x.2.2.2.1∈Ab x.1) (λx=>Oz x.1 x.2.2.1 x.2.2.2.1)
noncomputable def Yn (p:PP) (t s:List Int):List Int×Bool×Unit:=if (Ji p t&&decide (s∈Ab p))=true then cp (Oz p (Py p t) s) else ([],false,())
noncomputable abbrev Ug:Spec:=Di (.pair Ck (.pair tL (.pair tL .unit))) (.pair tL (.pair .bool .unit)) true false (λx=>Cp x.1/\short x.2.1/\short x.2.2.1) (λx=>Yn x.1 x.2.1 x.2.2.1)
abbrev tP:Type:=Int×Int×ByteArray×List (List Int)×List (List Int)×List Int×List Int×Bool×List Int×List Int×PUnit
abbrev LH:Type:=Int×Int×ByteArray×List (List Int)×List (List Int)×List Int×List Int×Bool×List (List Int)×List Int×List Int×Bool×List Int×List Int×PUnit
theorem Ac1 (p:Int×ByteArray×List (List Int)×Unit) (f g:List (List Int)×List Int×List Int×Bool×Unit) (P:List Int->Prop):(((0:Int)<=(↑f.1.length:Int)/\(↑f.1.length:Int)<(↑Bj:Int)+(1:Int))/\(↑f.1.length:Int)=(↑f.1.length:Int)/\0=0/\(List.replicate (↑f.1.length:Int).toNat (Int.ofNat (nat_lit 0))).length=(List.replicate (↑f.1.length:Int).toNat (Int.ofNat (nat_lit 0))).length/\0=0/\0=([]:List Int).length/\Bs (λ(v4:LH) (k5:LH->Prop)=>Br (decide (v4.1<(↑v4.2.2.2.2.2.2.2.2.2.2.2.2.1.length:Int))) (((0:Int)<=v4.1/\v4.1<(↑v4.2.2.2.2.2.2.2.2.2.2.2.2.1.length:Int))/\0+v4.1.toNat<v4.2.2.2.2.2.2.2.2.2.2.2.2.1.length/\ ∃(y6:List Int),idx v4.2.2.2.2.1 v4.1=some y6/\ ∃(y7:Int),Fh.fn ((v4.2.2.2.2.2.2.2.2.1,v4.2.2.2.2.2.2.2.2.2.1,v4.2.2.2.2.2.2.2.2.2.2.1,v4.2.2.2.2.2.2.2.2.2.2.2.1,()),y6,())=some y7/\Br (decide (y7>=(0:Int))) (((0:Int)<=v4.1/\v4.1<(↑v4.2.2.2.2.2.2.2.2.2.2.2.2.1.length:Int))/\0+v4.1.toNat<(v4.2.2.2.2.2.2.2.2.2.2.2.2.1.set (0+v4.1.toNat) (-1:Int)).length/\0=0/\v4.2.2.2.2.2.2.2.2.2.2.2.2.2.1.length=v4.2.2.2.2.2.2.2.2.2.2.2.2.2.1.length/\v4.2.2.2.2.2.2.2.2.2.2.2.2.2.1.length+(List.take 1 (List.drop 0 [v4.1])).length<=Bj/\0=0/\v4.2.2.2.2.2.2.2.2.2.2.2.2.1.length=((v4.2.2.2.2.2.2.2.2.2.2.2.2.1.set (0+v4.1.toNat) (-1:Int)).set (0+v4.1.toNat) (0:Int)).length/\0=0/\(v4.2.2.2.2.2.2.2.2.2.2.2.2.2.1++List.take 1 (List.drop 0 [v4.1])).length=(v4.2.2.2.2.2.2.2.2.2.2.2.2.2.1++List.take 1 (List.drop 0 [v4.1])).length/\k5 (IntKind.i64.wrap (v4.1+(1:Int)),v4.2.1,v4.2.2.1,v4.2.2.2.1,v4.2.2.2.2.1,v4.2.2.2.2.2.1,v4.2.2.2.2.2.2.1,v4.2.2.2.2.2.2.2.1,v4.2.2.2.2.2.2.2.2.1,v4.2.2.2.2.2.2.2.2.2.1,v4.2.2.2.2.2.2.2.2.2.2.1,v4.2.2.2.2.2.2.2.2.2.2.2.1,(v4.2.2.2.2.2.2.2.2.2.2.2.2.1.set (0+v4.1.toNat) (-1:Int)).set (0+v4.1.toNat) (0:Int),v4.2.2.2.2.2.2.2.2.2.2.2.2.2.1++List.take 1 (List.drop 0 [v4.1]),())) (0=0/\v4.2.2.2.2.2.2.2.2.2.2.2.2.1.length=(v4.2.2.2.2.2.2.2.2.2.2.2.2.1.set (0+v4.1.toNat) (-1:Int)).length/\0=0/\v4.2.2.2.2.2.2.2.2.2.2.2.2.2.1.length=v4.2.2.2.2.2.2.2.2.2.2.2.2.2.1.length/\k5 (IntKind.i64.wrap (v4.1+(1:Int)),v4.2.1,v4.2.2.1,v4.2.2.2.1,v4.2.2.2.2.1,v4.2.2.2.2.2.1,v4.2.2.2.2.2.2.1,v4.2.2.2.2.2.2.2.1,v4.2.2.2.2.2.2.2.2.1,v4.2.2.2.2.2.2.2.2.2.1,v4.2.2.2.2.2.2.2.2.2.2.1,v4.2.2.2.2.2.2.2.2.2.2.2.1,v4.2.2.2.2.2.2.2.2.2.2.2.2.1.set (0+v4.1.toNat) (-1:Int),v4.2.2.2.2.2.2.2.2.2.2.2.2.2.1,()))) (∃(y6:List Int),Fm.fn ((v4.2.1,v4.2.2.1,v4.2.2.2.1,()),())=some y6/\0=0/\v4.2.2.2.2.2.2.2.2.2.2.2.2.1.length=v4.2.2.2.2.2.2.2.2.2.2.2.2.1.length/\0=0/\v4.2.2.2.2.2.2.2.2.2.2.2.2.2.1.length=v4.2.2.2.2.2.2.2.2.2.2.2.2.2.1.length/\Bs (λ(v7:tP) (k8:tP->Prop)=>Br (decide (v7.1<(↑v7.2.2.2.2.2.2.2.2.2.1.length:Int))) (0=0/\v7.2.2.2.2.2.2.2.2.1.length=v7.2.2.2.2.2.2.2.2.1.length/\0=0/\v7.2.2.2.2.2.2.2.2.2.1.length=v7.2.2.2.2.2.2.2.2.2.1.length/\Bs (λ(v9:tP) (YB:tP->Prop)=>Br (decide (v9.1<(↑y6.length:Int))) (((0:Int)<=v7.1/\v7.1<(↑v9.2.2.2.2.2.2.2.2.2.1.length:Int))/\ ∃(iN:Int),v9.2.2.2.2.2.2.2.2.2.1[0+v7.1.toNat]?=some iN/\ ∃(eV:List Int),idx v9.2.2.2.2.1 iN=some eV/\ ∃(eW:Int),idx y6 v9.1=some eW/\ ∃(Wr:List Int),Pj.fn ((v9.2.1,v9.2.2.1,v9.2.2.2.1,()),eV,eW,())=some Wr/\ ∃(Vp:Int),Fh.fn ((v9.2.2.2.2.1,v9.2.2.2.2.2.1,v9.2.2.2.2.2.2.1,v9.2.2.2.2.2.2.2.1,()),Wr,())=some Vp/\((0:Int)<=Vp/\Vp<(↑v9.2.2.2.2.2.2.2.2.1.length:Int))/\ ∃(Xm:Int),v9.2.2.2.2.2.2.2.2.1[0+Vp.toNat]?=some Xm/\Br (decide (Xm<(0:Int))) (((0:Int)<=v7.1/\v7.1<(↑v9.2.2.2.2.2.2.2.2.2.1.length:Int))/\ ∃(uh:Int),v9.2.2.2.2.2.2.2.2.2.1[0+v7.1.toNat]?=some uh/\((0:Int)<=uh/\uh<(↑v9.2.2.2.2.2.2.2.2.1.length:Int))/\ ∃(xA:Int),v9.2.2.2.2.2.2.2.2.1[0+uh.toNat]?=some xA/\((0:Int)<=Vp/\Vp<(↑v9.2.2.2.2.2.2.2.2.1.length:Int))/\0+Vp.toNat<v9.2.2.2.2.2.2.2.2.1.length/\0=0/\v9.2.2.2.2.2.2.2.2.2.1.length=v9.2.2.2.2.2.2.2.2.2.1.length/\v9.2.2.2.2.2.2.2.2.2.1.length+(List.take 1 (List.drop 0 [Vp])).length<=Bj/\0=0/\v9.2.2.2.2.2.2.2.2.1.length=(v9.2.2.2.2.2.2.2.2.1.set (0+Vp.toNat) (IntKind.i64.wrap (xA+(1:Int)))).length/\0=0/\(v9.2.2.2.2.2.2.2.2.2.1++List.take 1 (List.drop 0 [Vp])).length=(v9.2.2.2.2.2.2.2.2.2.1++List.take 1 (List.drop 0 [Vp])).length/\YB (IntKind.i64.wrap (v9.1+(1:Int)),v9.2.1,v9.2.2.1,v9.2.2.2.1,v9.2.2.2.2.1,v9.2.2.2.2.2.1,v9.2.2.2.2.2.2.1,v9.2.2.2.2.2.2.2.1,v9.2.2.2.2.2.2.2.2.1.set (0+Vp.toNat) (IntKind.i64.wrap (xA+(1:Int))),v9.2.2.2.2.2.2.2.2.2.1++List.take 1 (List.drop 0 [Vp]),())) (0=0/\v9.2.2.2.2.2.2.2.2.1.length=v9.2.2.2.2.2.2.2.2.1.length/\0=0/\v9.2.2.2.2.2.2.2.2.2.1.length=v9.2.2.2.2.2.2.2.2.2.1.length/\YB (IntKind.i64.wrap (v9.1+(1:Int)),v9.2.1,v9.2.2.1,v9.2.2.2.1,v9.2.2.2.2.1,v9.2.2.2.2.2.1,v9.2.2.2.2.2.2.1,v9.2.2.2.2.2.2.2.1,v9.2.2.2.2.2.2.2.2.1,v9.2.2.2.2.2.2.2.2.2.1,()))) (0=0/\v9.2.2.2.2.2.2.2.2.1.length=v9.2.2.2.2.2.2.2.2.1.length/\0=0/\v9.2.2.2.2.2.2.2.2.2.1.length=v9.2.2.2.2.2.2.2.2.2.1.length/\k8 (IntKind.i64.wrap (v7.1+(1:Int)),v9.2.1,v9.2.2.1,v9.2.2.2.1,v9.2.2.2.2.1,v9.2.2.2.2.2.1,v9.2.2.2.2.2.2.1,v9.2.2.2.2.2.2.2.1,v9.2.2.2.2.2.2.2.2.1,v9.2.2.2.2.2.2.2.2.2.1,()))) ((0:Int),v7.2.1,v7.2.2.1,v7.2.2.2.1,v7.2.2.2.2.1,v7.2.2.2.2.2.1,v7.2.2.2.2.2.2.1,v7.2.2.2.2.2.2.2.1,v7.2.2.2.2.2.2.2.2.1,v7.2.2.2.2.2.2.2.2.2.1,PUnit.unit)) (P (List.take v7.2.2.2.2.2.2.2.2.1.length (List.drop 0 v7.2.2.2.2.2.2.2.2.1)))) ((0:Int),v4.2.1,v4.2.2.1,v4.2.2.2.1,v4.2.2.2.2.1,v4.2.2.2.2.2.1,v4.2.2.2.2.2.2.1,v4.2.2.2.2.2.2.2.1,v4.2.2.2.2.2.2.2.2.2.2.2.2.1,v4.2.2.2.2.2.2.2.2.2.2.2.2.2.1,PUnit.unit))) ((0:Int),p.1,p.2.1,p.2.2.1,f.1,f.2.1,f.2.2.1,f.2.2.2.1,g.1,g.2.1,g.2.2.1,g.2.2.2.1,List.replicate (↑f.1.length:Int).toNat (Int.ofNat (nat_lit 0)),[],PUnit.unit))=fnW Da (look [(54,Fh),(96,Fm),(115,Pj)]) kO Try.f70 (p,f,g,()) P:=by kernel_rfl
abbrev lO:Type:=List Int×Int×Int×ByteArray×List (List Int)×List (List Int)×List Int×List Int×Bool×List Int×PUnit
theorem WU (p:Int×ByteArray×List (List Int)×Unit) (f:List (List Int)×List Int×List Int×Bool×Unit) (d s:List Int) (P:List Int->Prop):(∃(y5:List Int),Fm.fn ((p.1,p.2.1,p.2.2.1,()),())=some y5/\ ∃(y6:Int),Fh.fn ((f.1,f.2.1,f.2.2.1,f.2.2.2.1,()),s,())=some y6/\ ∃(y7:Int),idx d y6=some y7/\0=0/\0=([]:List Int).length/\Bs (λ(v8:lO) (k9:lO->Prop)=>Br (decide (v8.2.1>(0:Int))) (0=0/\v8.2.2.2.2.2.2.2.2.2.1.length=v8.2.2.2.2.2.2.2.2.2.1.length/\Bs (λ(v10:lO) (k11:lO->Prop)=>Br (decide (v10.2.1<(↑y5.length:Int))) (∃(eV:Int),idx y5 v10.2.1=some eV/\ ∃(eW:List Int),dG.fn ((v10.2.2.1,v10.2.2.2.1,v10.2.2.2.2.1,()),v10.1,eV,())=some eW/\ ∃(Wr:Int),Fh.fn ((v10.2.2.2.2.2.1,v10.2.2.2.2.2.2.1,v10.2.2.2.2.2.2.2.1,v10.2.2.2.2.2.2.2.2.1,()),eW,())=some Wr/\ ∃(Vp:Int),idx d Wr=some Vp/\Br (Vp==IntKind.i64.wrap (v8.2.1-(1:Int))) (∃(Xm:Int),idx y5 v10.2.1=some Xm/\0=0/\v10.2.2.2.2.2.2.2.2.2.1.length=v10.2.2.2.2.2.2.2.2.2.1.length/\v10.2.2.2.2.2.2.2.2.2.1.length+(List.take 1 (List.drop 0 [Xm])).length<=Bj/\0=0/\(v10.2.2.2.2.2.2.2.2.2.1++List.take 1 (List.drop 0 [Xm])).length=(v10.2.2.2.2.2.2.2.2.2.1++List.take 1 (List.drop 0 [Xm])).length/\k9 (eW,IntKind.i64.wrap (v8.2.1-(1:Int)),v10.2.2.1,v10.2.2.2.1,v10.2.2.2.2.1,v10.2.2.2.2.2.1,v10.2.2.2.2.2.2.1,v10.2.2.2.2.2.2.2.1,v10.2.2.2.2.2.2.2.2.1,v10.2.2.2.2.2.2.2.2.2.1++List.take 1 (List.drop 0 [Xm]),())) (0=0/\v10.2.2.2.2.2.2.2.2.2.1.length=v10.2.2.2.2.2.2.2.2.2.1.length/\k11 (v10.1,IntKind.i64.wrap (v10.2.1+(1:Int)),v10.2.2.1,v10.2.2.2.1,v10.2.2.2.2.1,v10.2.2.2.2.2.1,v10.2.2.2.2.2.2.1,v10.2.2.2.2.2.2.2.1,v10.2.2.2.2.2.2.2.2.1,v10.2.2.2.2.2.2.2.2.2.1,()))) (0=0/\v10.2.2.2.2.2.2.2.2.2.1.length=v10.2.2.2.2.2.2.2.2.2.1.length/\k9 (v10.1,IntKind.i64.wrap (v8.2.1-(1:Int)),v10.2.2.1,v10.2.2.2.1,v10.2.2.2.2.1,v10.2.2.2.2.2.1,v10.2.2.2.2.2.2.1,v10.2.2.2.2.2.2.2.1,v10.2.2.2.2.2.2.2.2.1,v10.2.2.2.2.2.2.2.2.2.1,()))) (v8.1,(0:Int),v8.2.2.1,v8.2.2.2.1,v8.2.2.2.2.1,v8.2.2.2.2.2.1,v8.2.2.2.2.2.2.1,v8.2.2.2.2.2.2.2.1,v8.2.2.2.2.2.2.2.2.1,v8.2.2.2.2.2.2.2.2.2.1,PUnit.unit)) (P (List.take v8.2.2.2.2.2.2.2.2.2.1.length (List.drop 0 v8.2.2.2.2.2.2.2.2.2.1)))) (s,y7,p.1,p.2.1,p.2.2.1,f.1,f.2.1,f.2.2.1,f.2.2.2.1,[],PUnit.unit))=fnW Da (look [(54,Fh),(96,Fm),(115,dG)]) fU Try.f69 (p,f,d,s,()) P:=by kernel_rfl
theorem rk (p:Int×ByteArray×List (List Int)×Unit) (t s:List Int) (P:(List Int×Bool×Unit)->Prop):(∃(y4:(List (List Int)×List Int×List Int×Bool×PUnit)×(List (List Int)×List Int×List Int×Bool×PUnit)×Bool×PUnit),cO.fn ((p.1,p.2.1,p.2.2.1,()),t,())=some y4/\Br (!y4.2.2.1) (P (List.take 0 (List.drop 0 []),false,())) (∃(y5:Bool),Uc.fn ((p.1,p.2.1,p.2.2.1,()),(y4.1.1,y4.1.2.1,y4.1.2.2.1,y4.1.2.2.2.1,()),s,())=some y5/\Br (!y5) (P (List.take 0 (List.drop 0 []),false,())) (∃(y6:List Int),kO.fn ((p.1,p.2.1,p.2.2.1,()),(y4.1.1,y4.1.2.1,y4.1.2.2.1,y4.1.2.2.2.1,()),(y4.2.1.1,y4.2.1.2.1,y4.2.1.2.2.1,y4.2.1.2.2.2.1,()),())=some y6/\ ∃(y7:List Int),fU.fn ((p.1,p.2.1,p.2.2.1,()),(y4.1.1,y4.1.2.1,y4.1.2.2.1,y4.1.2.2.2.1,()),y6,s,())=some y7/\ ∃(y8:List Int×Bool×PUnit),nI.fn (y7,())=some y8/\P (y8.1,y8.2.1,()))))=fnW Da (look [(52,cO),(53,Uc),(70,kO),(69,fU),(59,nI)]) Ug Try.f30 (p,t,s,()) P:=by kernel_rfl
theorem sIx {p:PP} (hv:Az p=true) {x:List Int} (hx:x.length=p.1.toNat):Fh.fn (((An p.2.2.1 (upto p.1.toNat)).1,(An p.2.2.1 (upto p.1.toNat)).2.1,(An p.2.2.1 (upto p.1.toNat)).2.2.1,(An p.2.2.1 (upto p.1.toNat)).2.2.2.1,()),x,())=some (Si (Ab p) x):=
 if_pos (by show Db x.length (Ab p) (Tf (Ab p));rw [hx];exact (jS hv).ok)
theorem KK {p:PP} {x:List Int} (hx:x∈Ab p):Si (Ab p) x=(((Ab p).idxOf x:Nat):Int):=if_pos hx
theorem Abg (p:PP) (f g:SS) (h: ∃t,Ji p t=true/\f=An p.2.2.1 (upto p.1.toNat)/\g=An (Co p t).2.2.1 (upto p.1.toNat)):
  fnW Da (look [(54,Fh),(96,Fm),(115,Pj)]) kO Try.f70 (p,f,g,()) (λ(z:List Int)=>z=bq (Ed p) (λi=>decide ((Ab p).getD i []∈g.1)) (Ab p).length):=by
 obtain ⟨t,hw,rfl,rfl⟩:=h
 obtain ⟨qk,XO⟩:=Jj.1 hw
 have hv:=(Cu qk).1
 have hV:=valid hv
 have hn:=hV.n
 have hvs:=fY XO
 have UB:=cZ hv
 have hR:=dC qk
 have hc:=Oe qk
 obtain ⟨m,hm⟩: ∃m,(Ab p).length=m:=⟨_,rfl⟩
 obtain ⟨S,hS⟩: ∃S:Nat->Bool,(λ(i:Nat)=>decide ((Ab p).getD i []∈Ab (Co p t)))=S:=⟨_,rfl⟩
 have hSi: ∀i:Nat,decide ((Ab p).getD i []∈Ab (Co p t))=S i:= λi=>congrFun hS i
 show fnW _ _ kO _ _ (λz=>z=bq (Ed p) (λi=>decide ((Ab p).getD i []∈Ab (Co p t))) (Ab p).length)
 rw [hS]
 obtain ⟨ls,ej⟩: ∃ls,Ag p.2.2.1.length=ls:=⟨_,rfl⟩
 have ZV:=Wf hV
 rw [ej] at ZV hc
 have fz: ∀l∈ls,Ft (List.length p.2.2.1) l:= λl hl=>Il (ej▸hl)
 rw [hm] at UB hR⊢
 have hL:(An p.2.2.1 (upto p.1.toNat)).1.length=m:=hm
 refine Eq.mp (Ac1 p _ _ _) ?_
 rw [hL,Int.toNat_natCast]
 refine ⟨⟨by omega,by show (m:Int)<(4294967296:Int)+1;omega⟩,rfl,rfl,rfl,rfl,rfl,?_⟩
 refine Aq m (λv=>v.1) (λj v=> ∃out q:List Int,v=((j:Int),p.1,p.2.1,p.2.2.1,(An p.2.2.1 (upto p.1.toNat)).1,(An p.2.2.1 (upto p.1.toNat)).2.1,(An p.2.2.1 (upto p.1.toNat)).2.2.1,(An p.2.2.1 (upto p.1.toNat)).2.2.2.1,
   (An (Co p t).2.2.1 (upto p.1.toNat)).1,(An (Co p t).2.2.1 (upto p.1.toNat)).2.1,(An (Co p t).2.2.1 (upto p.1.toNat)).2.2.1,(An (Co p t).2.2.1 (upto p.1.toNat)).2.2.2.1,out,q,())/\
   q=GJ S j/\out.length=m/\ ∀k,k<m->out.getD k 0=if k<j then (if S k=true then 0 else-1) else 0) rfl ⟨_,_,rfl,rfl,by simp,λk hk=>?_⟩ ?_
 ·rw [if_neg (by omega),Dk (by simpa using hk),List.getElem_replicate];rfl
 rintro j v K hj hi ⟨out,q,rfl,rfl,h2,h3⟩ hK
 dsimp only
 have hql:=AG S j
 rw [h2]
 refine Br.dec (λhl=>?_) λhl=>?_
 ·have hl:j<m:=by omega
  have hjm:j<(Ab p).length:=by omega
  have hx:=Kh (L:=Ab p) hjm
  refine ⟨⟨by omega,by omega⟩,by rw [Int.toNat_natCast];omega,(Ab p).getD j [],by rw [Dk hjm];exact Av hjm,Si (Ab (Co p t)) ((Ab p).getD j []),sIx (p:=Co p t) hvs (o5 hv hx).1,?_⟩
  have XF: ∀k,k<m->((out.set j (-1)).getD k 0=if k<j+1 then (if k<j/\S k=true then 0 else-1) else 0):=th h2 hl h3 (by rw [if_pos (by omega),if_neg (by omega)]) λk hk=>by
   by_cases mJ:k<j
   ·rw [if_pos (by omega),if_pos mJ]
    by_cases hs:S k=true
    ·rw [if_pos hs,if_pos ⟨mJ,hs⟩]
    ·rw [if_neg hs,if_neg λh=>hs h.2]
   ·rw [if_neg (by omega),if_neg mJ]
  have jh:(Si (Ab (Co p t)) ((Ab p).getD j [])>=0)↔S j=true:=by
   rw [<-hSi j,decide_eq_true_iff]
   unfold Si
   split
   ·rename_i Ke;exact ⟨λ_=>Ke,λ_=>by omega⟩
   ·rename_i Ke;exact ⟨λh=>absurd h (by omega),λh=>absurd h Ke⟩
  refine Br.dec (λhb=>?_) λhb=>?_
  ·have hs:=jh.1 hb
   refine ⟨⟨by omega,by omega⟩,by rw [Int.toNat_natCast,List.length_set];omega,rfl,rfl,by show (GJ S j).length+1<=4294967296;omega,rfl,by rw [List.length_set,List.length_set,h2],rfl,rfl,?_⟩
   rw [Ao (by omega),Int.toNat_natCast,Nat.zero_add]
   refine hK hl _ rfl ⟨_,_,rfl,?_,by rw [List.length_set,List.length_set];exact h2,?_⟩
   ·rw [gA,if_pos hs];rfl
   ·refine th (by rw [List.length_set];exact h2) hl XF (by rw [if_pos (by omega),if_pos hs]) λk hk=>?_
    by_cases mJ:k<j
    ·rw [if_pos (show k<j+1 by omega),if_pos (show k<j+1 by omega)]
     by_cases hs:S k=true
     ·rw [if_pos hs,if_pos ⟨mJ,hs⟩]
     ·rw [if_neg hs,if_neg λh=>hs h.2]
    ·rw [if_neg (show ¬k<j+1 by omega),if_neg (show ¬k<j+1 by omega)]
  ·have hs: ¬S j=true:= λh=>hb (jh.2 h)
   refine ⟨rfl,by rw [List.length_set,h2],rfl,rfl,?_⟩
   rw [Ao (by omega),Int.toNat_natCast,Nat.zero_add]
   refine hK hl _ rfl ⟨_,_,rfl,?_,by rw [List.length_set];exact h2,λk hk=>?_⟩
   ·rw [gA,if_neg hs]
   ·rw [XF k hk]
    by_cases mJ:k<j+1
    ·rw [if_pos mJ,if_pos mJ]
     by_cases MO:k<j/\S k=true
     ·rw [if_pos MO,if_pos MO.2]
     ·rw [if_neg MO,if_neg λh=>MO ⟨by
       by_cases e:k=j
       ·subst e;exact absurd h hs
       ·omega,h⟩]
    ·rw [if_neg mJ,if_neg mJ]
 ·have:j=m:=by omega
  subst this
  have mN:out=yd S j:=qz (by rw [h2];simp [yd]) λk hk=>by
   rw [h3 k (by omega),Ol (by omega),if_pos (by omega)]
  subst mN
  refine ⟨ls,(if_pos hV.gK.2).trans (congrArg some ej),rfl,rfl,rfl,rfl,?_⟩
  refine Bs.mk (λv=> ∃(pre q out:List Int) (f:Nat),v=((pre.length:Int),p.1,p.2.1,p.2.2.1,(An p.2.2.1 (upto p.1.toNat)).1,(An p.2.2.1 (upto p.1.toNat)).2.1,(An p.2.2.1 (upto p.1.toNat)).2.2.1,(An p.2.2.1 (upto p.1.toNat)).2.2.2.1,out,pre++q,())/\
    DQ (Ed p) S j out q/\q.length+Tr out<f/\l7 (Ed p) f out q=bq (Ed p) S j/\pre.length+(q.length+Tr out)<=j/\ ∀i,i<j->out.getD i 0<=pre.length) (λv=>j-v.1.toNat)
   ⟨[],MJ S j,yd S j,j+1,rfl,gz _ _ _,by rw [qD];omega,rfl,by rw [qD];simp,λi hi=>by rw [Ol hi];simp only [List.length_nil];split<;>omega⟩ ?_
  rintro v ⟨pre,q,out,f,rfl,g1,g2,g3,g4,g5⟩
  dsimp only
  have hol:=g1.base.len
  refine Br.dec (λhl=>?_) λhl=>?_
  ·obtain ⟨x,q',rfl⟩: ∃x q',q=x::q':=by
    cases q with
    |nil=>simp at hl
    |cons x q'=>exact ⟨x,q',rfl⟩
   obtain ⟨x1,x2,x3⟩:=g1.base.SF x (by simp)
   obtain ⟨xn,rfl⟩:=Int.eq_ofNat_of_zero_le x1
   have uo:xn<j:=by omega
   have hxm:xn<(Ab p).length:=by omega
   rw [Int.toNat_natCast] at x3
   obtain ⟨f,rfl⟩: ∃f',f=f'+1:=⟨f-1,by omega⟩
   simp only [l7,Int.toNat_natCast] at g3
   simp only [List.length_cons] at g2 g4
   refine ⟨rfl,rfl,rfl,rfl,?_⟩
   obtain ⟨o1,o2⟩:=List.pairwise_cons.1 g1.base.ord
   simp only [Int.toNat_natCast] at o1
   have ZC:DX (Ed p) S j xn (out.getD xn 0) out q':=by
    refine ⟨⟨g1.base.len,g1.base.ge,λy hy=>g1.base.SF y (List.mem_cons_of_mem _ hy),g1.base.src,g1.base.KW,g1.base.par,λi hi h0 hn hw=>g1.base.done i hi h0 (λhm=>?_) (λh=>h),o2⟩,uo,rfl,x3,o1,?_⟩
    ·rcases List.mem_cons.1 hm with e|hm
     ·exact hw (by omega)
     ·exact hn hm
    ·have:=g1.hi (xn:Int) q' rfl
     rwa [Int.toNat_natCast] at this
   have hnl:(Ed p xn).length=ls.length:=by rw [ju,ej]
   obtain ⟨d,hd⟩: ∃d,out.getD xn 0=d:=⟨_,rfl⟩
   rw [hd] at ZC
   have hdT:d<=pre.length:=by rw [<-hd];exact g5 xn uo
   have hxs:=Kh (L:=Ab p) hxm
   have Aaq:=o5 hv hxs
   refine Aq ls.length (λv=>v.1) (λk v=> ∃(qq o:List Int),v=((k:Int),p.1,p.2.1,p.2.2.1,(An p.2.2.1 (upto p.1.toNat)).1,(An p.2.2.1 (upto p.1.toNat)).2.1,(An p.2.2.1 (upto p.1.toNat)).2.2.1,(An p.2.2.1 (upto p.1.toNat)).2.2.2.1,o,pre++(xn:Int)::qq,())/\
     DX (Ed p) S j xn d o qq/\qq.length+Tr o=q'.length+Tr out/\Pv (xn:Int) ((Ed p xn).drop k) (o,qq)=Pv (xn:Int) (Ed p xn) (out,q')) rfl ⟨q',out,rfl,ZC,rfl,by rw [List.drop_zero]⟩ ?_
   rintro k v K2 hk hki ⟨qq,o,rfl,hX,hcn,Ke⟩ YY
   dsimp only
   have hXb:=hX.base.len
   have hgx:(pre++(xn:Int)::qq)[0+((pre.length:Nat):Int).toNat]?=some (xn:Int):=by
    rw [Int.toNat_natCast,Nat.zero_add,List.getElem?_append_right (Nat.le_refl _),Nat.sub_self];rfl
   have ca:((pre.length:Nat):Int)<((pre++(xn:Int)::qq).length:Int):=by rw [List.length_append,List.length_cons];omega
   refine Br.dec (λHt=>?_) λHt=>?_
   ·have Ht:k<ls.length:=by omega
    have hkN:k<(Ed p xn).length:=by omega
    have uj:=List.getElem_mem Ht
    have sa:=fz _ uj
    have hy:=hc.next _ hxs _ uj
    have htv:(Ed p xn)[k]=Si (Ab p) (Aa ((Ab p).getD xn []) (Af p.2.2.1 ls[k])):=by
     rw [KK hy];simp only [Ed,mY,List.getElem_map,ej]
    have MV:=hR xn uo _ (List.getElem_mem hkN)
    have RZ:=List.getElem_mem hkN
    rw [List.drop_eq_getElem_cons hkN] at Ke
    rw [htv] at MV Ke RZ
    generalize Pw:Si (Ab p) (Aa ((Ab p).getD xn []) (Af p.2.2.1 ls[k]))=ty at*
    obtain ⟨tn,rfl⟩:=Int.eq_ofNat_of_zero_le MV.1
    have htj:tn<j:=by omega
    simp only [Pv] at Ke
    rw [Int.toNat_natCast] at Ke
    have RS:o.getD ((xn:Nat):Int).toNat 0=d:=by rw [Int.toNat_natCast];exact hX.Nh
    refine ⟨⟨by omega,ca⟩,(xn:Int),hgx,(Ab p).getD xn [],by rw [Dk hxm];exact Av hxm,_,Av Ht,_,if_pos ⟨hv,VW Aaq,KI hV Aaq,sa⟩,(tn:Int),(sIx hv (o5 hv hy).1).trans (congrArg some Pw),⟨by omega,by omega⟩,o.getD tn 0,NO (by omega),Br.dec (λbn=>?_) λbn=>?_⟩
    ·rw [if_pos bn,RS] at Ke
     have mO:=rP hR hX RZ MV (by rw [Int.toNat_natCast];exact bn)
     rw [Int.toNat_natCast] at mO
     have UE:=nh (xs:=o) (i:=tn) (v:=d+1) (by omega) bn (by have:=hX.d0;omega)
     have XH:=hX.d0
     refine ⟨⟨by omega,ca⟩,(xn:Int),hgx,⟨by omega,by omega⟩,d,by rw [NO (by omega),<-hX.Nh],⟨by omega,by omega⟩,by rw [Int.toNat_natCast];omega,rfl,rfl,?_,rfl,by rw [List.length_set],rfl,rfl,?_⟩
     ·show (pre++(xn:Int)::qq).length+1<=4294967296
      rw [List.length_append,List.length_cons];omega
     ·rw [Ao (by omega),Int.toNat_natCast,Nat.zero_add,Bt (n:=d+1) (by omega) (by omega)]
      refine YY Ht _ rfl ⟨qq++ [(tn:Int)],o.set tn (d+1),?_,mO,?_,Ke⟩
      ·rw [List.append_assoc];rfl
      ·rw [List.length_append,List.length_singleton]
       omega
    ·rw [if_neg bn] at Ke
     refine ⟨rfl,rfl,rfl,rfl,?_⟩
     rw [Ao (by omega)]
     exact YY Ht _ rfl ⟨qq,o,rfl,hX,hcn,Ke⟩
   ·have Ht:k=ls.length:=by omega
    subst Ht
    rw [List.drop_of_length_le (by omega),Pv] at Ke
    rw [<-Ke] at g3
    have IL:=(yc hR g1).1
    rw [Int.toNat_natCast,<-Ke] at IL
    rw [Ao (by omega)]
    refine ⟨rfl,rfl,rfl,rfl,⟨pre++ [(xn:Int)],qq,o,f,?_,IL,by omega,g3,by rw [List.length_append,List.length_singleton];omega,λi hi=>?_⟩,?_⟩
    ·rw [List.length_append,List.append_assoc];rfl
    ·have:=hX.hi i hi
     rw [List.length_append,List.length_singleton]
     push_cast
     omega
    ·show j-(((pre.length+1:Nat):Int)).toNat<j-((pre.length:Nat):Int).toNat
     omega
  ·have:q= []:=by
    cases q with
    |nil=>rfl
    |cons x q'=>exact absurd (show ((pre.length:Nat):Int)<((pre++x::q').length:Int) by rw [List.length_append,List.length_cons];omega) hl
   subst this
   rw [Bh]
   cases f with
   |zero=>exact g3
   |succ f=>exact g3
theorem FD:Sound Try.prog 70 kO:=
 Sound.Di Cb (Ah Tt (Ah Sx (Ah aA At))) mixed Try.func70 (by kernel_rfl) (by kernel_rfl) λx h=>Abg x.1 x.2.1 x.2.2.1 h
theorem VP (p:PP) (f:SS) (d s:List Int) (h:Cs p=true/\f=An p.2.2.1 (upto p.1.toNat)/\uy p d/\s∈Ab p):fnW Da (look [(54,Fh),(96,Fm),(115,dG)]) fU Try.f69 (p,f,d,s,()) (λ(z:List Int)=>z=Oz p d s):=by
 obtain ⟨hw,rfl,⟨hdl,hdb,Sd,hd⟩,hs⟩:=h
 have hv:=(Cu hw).1
 have hV:=valid hv
 have hn:=hV.n
 have iR:=jS hv
 have yo:=iR.ok.gK
 have hc:=Oe hw
 obtain ⟨ls,ej⟩: ∃ls,Ag p.2.2.1.length=ls:=⟨_,rfl⟩
 have fz: ∀l∈ls,Ft (List.length p.2.2.1) l:= λl hl=>Il (ej▸hl)
 have CQ: ∀x,d.getD ((Ab p).idxOf x) 0=Jy p d x:= λx=>rfl
 rw [ej] at hc hd
 have hdo: ∀x,x∈Ab p->Fh.fn (((An p.2.2.1 (upto p.1.toNat)).1,(An p.2.2.1 (upto p.1.toNat)).2.1,(An p.2.2.1 (upto p.1.toNat)).2.2.1,(An p.2.2.1 (upto p.1.toNat)).2.2.2.1,()),x,())=some (((Ab p).idxOf x:Nat):Int)/\idx d (((Ab p).idxOf x:Nat):Int)=some (Jy p d x):= λx hx=>by
  have hi:=List.idxOf_lt_length_of_mem hx
  refine ⟨(sIx hv (o5 hv hx).1).trans (congrArg some (KK hx)),?_⟩
  rw [Av (by omega),<-CQ,Dk]
 have ZV:=Wf hV
 rw [ej] at ZV
 have XH:0<=Jy p d s/\Jy p d s<=3000:=⟨hd.nn s hs,hdb _ (by have:=List.idxOf_lt_length_of_mem hs;omega)⟩
 unfold Oz
 rw [ej]
 obtain ⟨q1,q2⟩:=hdo s hs
 refine Eq.mp (WU p _ d s _) ⟨ls,(if_pos hV.gK.2).trans (congrArg some ej),_,q1,_,q2,rfl,rfl,?_⟩
 obtain ⟨R,hR⟩: ∃R,o3 p.2.2.1 (Jy p d) ls (Jy p d s).toNat s []=R:=⟨_,rfl⟩
 rw [hR]
 obtain ⟨n0,XQ⟩:=Int.eq_ofNat_of_zero_le XH.1
 rw [XQ] at hR XH⊢
 rw [Int.toNat_natCast] at hR
 refine Bs.mk (λv=> ∃(x:List Int) (n:Nat) (w:List Int),v=(x,(n:Int),p.1,p.2.1,p.2.2.1,(An p.2.2.1 (upto p.1.toNat)).1,(An p.2.2.1 (upto p.1.toNat)).2.1,(An p.2.2.1 (upto p.1.toNat)).2.2.1,(An p.2.2.1 (upto p.1.toNat)).2.2.2.1,w,())/\x∈Ab p/\Jy p d x=n/\w.length+n<=3000/\o3 p.2.2.1 (Jy p d) ls n x w=R) (λv=>v.2.1.toNat)
  ⟨s,n0,[],rfl,hs,XQ,by simp only [List.length_nil];omega,hR⟩ ?_
 rintro v ⟨x,n,w,rfl,g1,g2,g3,g4⟩
 dsimp only
 refine Br.dec (λhl=>⟨rfl,rfl,?_⟩) λhl=>?_
 ·obtain ⟨n,rfl⟩: ∃n',n=n'+1:=⟨n-1,by omega⟩
  simp only [o3] at g4
  have SB:x.length=p.1.toNat:=(o5 hv g1).1
  have MW: ∀y∈x,0<=y/\y<p.1:=iR.row x g1
  have hwr:IntKind.i64.wrap (((n+1:Nat):Int)-1)=(n:Int):=by rw [Bt (by omega) (by omega)];omega
  rw [hwr]
  refine Aq ls.length (λv=>v.2.1) (λi v=>v=(x,(i:Int),p.1,p.2.1,p.2.2.1,(An p.2.2.1 (upto p.1.toNat)).1,(An p.2.2.1 (upto p.1.toNat)).2.1,(An p.2.2.1 (upto p.1.toNat)).2.2.1,(An p.2.2.1 (upto p.1.toNat)).2.2.2.1,w,())/\
   (ls.drop i).find? (λl=>decide (Jy p d (Aa x (Af p.2.2.1 l))=n))=ls.find? (λl=>decide (Jy p d (Aa x (Af p.2.2.1 l))=n))) rfl ⟨rfl,by rw [List.drop_zero]⟩ ?_
  rintro i v K hi hii ⟨rfl,hf⟩ hK
  dsimp only
  refine Br.dec (λMN=>?_) λMN=>?_
  ·have MN:i<ls.length:=by omega
   have uj:=List.getElem_mem MN
   have sa:=fz _ uj
   obtain ⟨nl,nr⟩:=lM hV MW sa
   have hnx:=hc.next x g1 _ uj
   rw [List.drop_eq_getElem_cons MN] at hf
   obtain ⟨q1,q2⟩:=hdo _ hnx
   refine ⟨_,Av MN,_,if_pos ⟨hv,by show x.length<=20;omega,MW,sa⟩,_,q1,_,q2,Br.of (λhb=>?_) λhb=>?_⟩
   ·have hb:Jy p d (Aa x (Af p.2.2.1 ls[i]))=n:=by simpa using hb
    rw [List.find?_cons_of_pos (by simpa using hb)] at hf
    rw [<-hf] at g4
    refine ⟨_,Av MN,rfl,rfl,?_,rfl,rfl,⟨_,n,w++ [ls[i]],rfl,hnx,hb,by rw [List.length_append,List.length_singleton];omega,g4⟩,?_⟩
    ·show w.length+1<=4294967296;omega
    ·show ((n:Int)).toNat<(((n+1:Nat):Int)).toNat
     omega
   ·have hb: ¬Jy p d (Aa x (Af p.2.2.1 ls[i]))=n:=by simpa using hb
    rw [List.find?_cons_of_neg (by simpa using hb)] at hf
    refine ⟨rfl,rfl,?_⟩
    rw [Ao (by omega)]
    exact hK MN _ rfl ⟨rfl,hf⟩
  ·have:i=ls.length:=by omega
   subst this
   rw [List.drop_length,List.find?_nil] at hf
   obtain ⟨l,uj,hle⟩:=hd.down x g1 (by rw [CQ,g2];omega)
   have:=List.find?_eq_none.1 hf.symm l uj
   rw [CQ,CQ,g2] at hle
   exact absurd (decide_eq_true (by rw [hle];omega)) this
 ·rw [Bh]
  have:n=0:=by omega
  subst this
  rw [<-g4]
  rfl
theorem zz:Sound Try.prog 69 fU:=
 Sound.Di Cb (Ah Tt (Ah Sx (Ah py At))) mixed Try.func69 (by kernel_rfl) (by kernel_rfl) λx h=>VP x.1 x.2.1 x.2.2.1 x.2.2.2.1 h
theorem FK {p:PP} {t:List Int} (hw:Cs p=true) (hm:Bl p t=true):(Ab p).getD 0 []∈Ab (Co p t):=by
 rw [(km (Cu hw).1).1]
 exact (km (fY hm)).2
theorem sS {p:PP} {t:List Int} (hw:Cs p=true) (hm:Bl p t=true):
  uy p (Py p t)/\Ju p.2.2.1 (Ag p.2.2.1.length) (Ab p) (λx=>x∈Ab (Co p t)) (λx=>(Py p t).getD ((Ab p).idxOf x) 0):=by
 have hv:=(Cu hw).1
 have hR:=dC hw
 have UB:=cZ hv
 have hlen:(Py p t).length=(Ab p).length:=(QP hR).len
 have hd:=NJ hw (λi=>decide ((Ab p).getD i []∈Ab (Co p t))) (i0:=0) (by have:=KY hv;omega) (decide_eq_true (FK hw hm))
 refine ⟨⟨hlen,λi hi=>?_,_,hd⟩,hd.congr λx hx=>?_⟩
 ·have:=YM (S:= λi=>decide ((Ab p).getD i []∈Ab (Co p t))) hR (i:=i) (by omega)
  show (bq (Ed p) (λi=>decide ((Ab p).getD i []∈Ab (Co p t))) (Ab p).length).getD i 0<=3000
  omega
 ·have h1:=List.idxOf_lt_length_of_mem hx
  rw [Dk h1,List.getElem_idxOf h1,decide_eq_true_iff]
theorem JT {p:PP} {d s:List Int} (hd:uy p d) (hs:s∈Ab p):(Oz p d s).length<=3000:=by
 have h1:=zF (g:=p.2.2.1) (dep:=Jy p d) (ls:=Ag p.2.2.1.length) (Jy p d s).toNat s []
 have h2:=hd.2.1 _ (by rw [hd.1];exact List.idxOf_lt_length_of_mem hs)
 unfold Oz
 simp only [List.length_nil] at h1
 unfold Jy at*
 omega
theorem EJ (p:PP) (t s:List Int) (h:Cp p/\short t/\short s):fnW Da (look [(52,cO),(53,Uc),(70,kO),(69,fU),(59,nI)]) Ug Try.f30 (p,t,s,()) (λ(z:List Int×Bool×Unit)=>z=Yn p t s):=by
 obtain ⟨hp,ht,hs⟩:=h
 unfold Yn
 by_cases hw:Ji p t=true
 ·have he:cO.fn ((p.1,p.2.1,p.2.2.1,()),t,())=some (An p.2.2.1 (upto p.1.toNat),An (Co p t).2.2.1 (upto p.1.toNat),true,()):=(if_pos ⟨hp,ht⟩).trans (congrArg some (if_pos hw))
  obtain ⟨qk,hm⟩:=Jj.1 hw
  have hv:=(Cu qk).1
  rw [hw,Bool.true_and]
  obtain ⟨F,hF⟩: ∃F:SS,An p.2.2.1 (upto p.1.toNat)=F:=⟨_,rfl⟩
  obtain ⟨G,hG⟩: ∃G:SS,An (Co p t).2.2.1 (upto p.1.toNat)=G:=⟨_,rfl⟩
  rw [hF,hG] at he
  have Afv:bq (Ed p) (λi=>decide ((Ab p).getD i []∈G.1)) (Ab p).length=Py p t:=by rw [<-hG];rfl
  refine Eq.mp (rk p t s _) ⟨_,he,λhb=>by simp at hb,λ_=>⟨_,if_pos ⟨hp,hs,hv,hF.symm⟩,Br.of (λKe=>?_) λKe=>?_⟩⟩
  ·rw [if_neg (Cv Ke)];rfl
  have Ke:s∈Ab p:=by simpa using Ke
  rw [if_pos (decide_eq_true Ke)]
  have se:=(sS qk hm).1
  have hph:kO.fn (p,F,G,())=some (Py p t):=(if_pos (show ∃t',Ji p t'=true/\F=An p.2.2.1 (upto p.1.toNat)/\G=An (Co p t').2.2.1 (upto p.1.toNat) from ⟨t,hw,hF.symm,hG.symm⟩)).trans (congrArg some Afv)
  have UF:fU.fn (p,F,Py p t,s,())=some (Oz p (Py p t) s):=if_pos (show Cs p=true/\F=An p.2.2.1 (upto p.1.toNat)/\uy p (Py p t)/\s∈Ab p from ⟨qk,hF.symm,se,Ke⟩)
  have XY:=JT se Ke
  generalize Oz p (Py p t) s=w at*
  have Ou:nI.fn (w,())=some (cp w):=if_pos (show w.length<=4294967296 by omega)
  generalize cp w=r at*
  exact ⟨Py p t,hph,w,UF,r,Ou,rfl⟩
 ·have he:cO.fn ((p.1,p.2.1,p.2.2.1,()),t,())=some ((Ga p).1,(Ga p).1,false,()):=(if_pos ⟨hp,ht⟩).trans (congrArg some (if_neg hw))
  rw [Bool.not_eq_true _|>.mp hw,Bool.false_and,if_neg (by decide)]
  exact Eq.mp (rk p t s _) ⟨_,he,λ_=>rfl,λhb=>by simp at hb⟩
theorem pH:Sound Try.prog 30 Ug:=
 Sound.Di Cb (Ah zu (Ah pC (Ah FD (Ah zz (Ah FA At))))) mixed Try.func30 (by kernel_rfl) (by kernel_rfl) λx h=>EJ x.1 x.2.1 x.2.2.1 h
end Go.Proofs.Ytjbdmibbbpdnnaa

namespace Go.Proofs.Ytjbdmibbbpdnnaa
open Go.RowKit
abbrev Agy:Ty:= .clo (56+1000000000) (.pair (.optr dM) .unit)
def YJ (e:Option XP) (h:Option HP):Prop:= ∃p t,Ji p t=true/\h=some (Fv p t)/\e=some (Gt p)
noncomputable abbrev So:Spec:=Di (.pair (.optr eL) (.pair Agy .unit)) tL false true (λx=>YJ x.1 x.2.1.1) (λx=>w8 x.1 λi=>fK x.2.1.1 (i:Int))
abbrev jV:Type:=(Int×ByteArray×List (List Int)×PUnit)×List (List Int)×List Int×(ByteArray->Option Int)×List Int×List Int×List (List Int)×PUnit
theorem LY (e:Option XP) (c:Option (Option XP×List Int×Option XP×Unit)×Unit) (P:List Int->Prop):(∃(y3:jV),e=some y3/\ ∃(y4:(List Int×PUnit)×PUnit),Yu.fn (List.take 1 (List.drop 0 [(-1:Int)]),(↑y3.2.1.length:Int),())=some y4/\ ∃(y5:jV),e=some y5/\ ∃(y6:Int),Na.fn (y5.2.1,())=some y6/\0=0/\y4.1.1.length=y4.1.1.length/\0=0/\(List.take 0 (List.drop 0 ([]:List Int))).length=(List.take 0 (List.drop 0 ([]:List Int))).length/\Bs (λ(v7:Int×List Int×List Int×PUnit) (k8:Int×List Int×List Int×PUnit->Prop)=>Br (decide (v7.1<y6)) (∃(y9:Bool),fT.fn (c.1,v7.1,())=some y9/\Br y9 (((0:Int)<=v7.1/\v7.1<(↑v7.2.2.1.length:Int))/\0+v7.1.toNat<v7.2.2.1.length/\0=0/\v7.2.1.length=v7.2.1.length/\v7.2.1.length+(List.take 1 (List.drop 0 [v7.1])).length<=Bj/\0=0/\v7.2.2.1.length=(v7.2.2.1.set (0+v7.1.toNat) (0:Int)).length/\0=0/\(List.take (v7.2.1++List.take 1 (List.drop 0 [v7.1])).length (List.drop 0 (v7.2.1++List.take 1 (List.drop 0 [v7.1])))).length=(List.take (v7.2.1++List.take 1 (List.drop 0 [v7.1])).length (List.drop 0 (v7.2.1++List.take 1 (List.drop 0 [v7.1])))).length/\k8 (IntKind.i64.wrap (v7.1+(1:Int)),List.take (v7.2.1++List.take 1 (List.drop 0 [v7.1])).length (List.drop 0 (v7.2.1++List.take 1 (List.drop 0 [v7.1]))),v7.2.2.1.set (0+v7.1.toNat) (0:Int),())) (0=0/\v7.2.2.1.length=v7.2.2.1.length/\0=0/\(List.take v7.2.1.length (List.drop 0 v7.2.1)).length=(List.take v7.2.1.length (List.drop 0 v7.2.1)).length/\k8 (IntKind.i64.wrap (v7.1+(1:Int)),List.take v7.2.1.length (List.drop 0 v7.2.1),v7.2.2.1,()))) (0=0/\v7.2.2.1.length=v7.2.2.1.length/\0=0/\(List.take v7.2.1.length (List.drop 0 v7.2.1)).length=(List.take v7.2.1.length (List.drop 0 v7.2.1)).length/\Bs (λ(v9:List Int×List Int×PUnit) (YB:List Int×List Int×PUnit->Prop)=>Br (decide ((↑v9.1.length:Int)>(0:Int))) (∃(iN:jV),e=some iN/\((0:Int)<=(0:Int)/\(0:Int)<(↑v9.1.length:Int))/\ ∃(eV:Int),v9.1[0+Int.toNat (0:Int)]?=some eV/\ ∃(eW:List Int),idx iN.2.2.2.2.2.2.1 eV=some eW/\0=0/\v9.2.1.length=v9.2.1.length/\0=0/\(List.take v9.1.length (List.drop 0 v9.1)).length=(List.take v9.1.length (List.drop 0 v9.1)).length/\Bs (λ(Vs:Int×List Int×List Int×PUnit) (k15:Int×List Int×List Int×PUnit->Prop)=>Br (decide (Vs.1<(↑eW.length:Int))) (∃(Xm:Int),idx eW Vs.1=some Xm/\((0:Int)<=Xm/\Xm<(↑Vs.2.2.1.length:Int))/\ ∃(uh:Int),Vs.2.2.1[0+Xm.toNat]?=some uh/\Br (decide (uh<(0:Int))) (((0:Int)<=(0:Int)/\(0:Int)<(↑Vs.2.1.length:Int))/\ ∃(xA:Int),Vs.2.1[0+Int.toNat (0:Int)]?=some xA/\((0:Int)<=xA/\xA<(↑Vs.2.2.1.length:Int))/\ ∃(QJ:Int),Vs.2.2.1[0+xA.toNat]?=some QJ/\((0:Int)<=Xm/\Xm<(↑Vs.2.2.1.length:Int))/\0+Xm.toNat<Vs.2.2.1.length/\0=0/\Vs.2.1.length=Vs.2.1.length/\Vs.2.1.length+(List.take 1 (List.drop 0 [Xm])).length<=Bj/\0=0/\Vs.2.2.1.length=(Vs.2.2.1.set (0+Xm.toNat) (IntKind.i64.wrap (QJ+(1:Int)))).length/\0=0/\(List.take (Vs.2.1++List.take 1 (List.drop 0 [Xm])).length (List.drop 0 (Vs.2.1++List.take 1 (List.drop 0 [Xm])))).length=(List.take (Vs.2.1++List.take 1 (List.drop 0 [Xm])).length (List.drop 0 (Vs.2.1++List.take 1 (List.drop 0 [Xm])))).length/\k15 (IntKind.i64.wrap (Vs.1+(1:Int)),List.take (Vs.2.1++List.take 1 (List.drop 0 [Xm])).length (List.drop 0 (Vs.2.1++List.take 1 (List.drop 0 [Xm]))),Vs.2.2.1.set (0+Xm.toNat) (IntKind.i64.wrap (QJ+(1:Int))),())) (0=0/\Vs.2.2.1.length=Vs.2.2.1.length/\0=0/\(List.take Vs.2.1.length (List.drop 0 Vs.2.1)).length=(List.take Vs.2.1.length (List.drop 0 Vs.2.1)).length/\k15 (IntKind.i64.wrap (Vs.1+(1:Int)),List.take Vs.2.1.length (List.drop 0 Vs.2.1),Vs.2.2.1,()))) (((0:Int)<=(1:Int)/\(1:Int)<=(↑Vs.2.1.length:Int)/\(↑Vs.2.1.length:Int)<=(↑Vs.2.1.length:Int))/\0=0/\Vs.2.2.1.length=Vs.2.2.1.length/\0=0/\(List.take ((↑Vs.2.1.length:Int).toNat-Int.toNat (1:Int)) (List.drop (0+Int.toNat (1:Int)) Vs.2.1)).length=(List.take ((↑Vs.2.1.length:Int).toNat-Int.toNat (1:Int)) (List.drop (0+Int.toNat (1:Int)) Vs.2.1)).length/\YB (List.take ((↑Vs.2.1.length:Int).toNat-Int.toNat (1:Int)) (List.drop (0+Int.toNat (1:Int)) Vs.2.1),Vs.2.2.1,()))) ((0:Int),List.take v9.1.length (List.drop 0 v9.1),v9.2.1,PUnit.unit)) (P (List.take v9.2.1.length (List.drop 0 v9.2.1)))) (List.take v7.2.1.length (List.drop 0 v7.2.1),v7.2.2.1,PUnit.unit))) ((0:Int),List.take 0 (List.drop 0 []),y4.1.1,PUnit.unit))=fnW (WC [Hq+6]) (look [(122,Yu),(58,Na),(56,fT)]) So Try.f71 (e,c,()) P:=by kernel_rfl
theorem JY (e:Option XP) (c:Option HP×Unit) (h:YJ e c.1):fnW (WC [Hq+6]) (look [(122,Yu),(58,Na),(56,fT)]) So Try.f71 (e,c,()) (λ(z:List Int)=>z=w8 e λi=>fK c.1 (i:Int)):=by
 obtain ⟨p,t,hw,GL,rfl⟩:=h
 obtain ⟨ch,⟨⟩⟩:=c
 dsimp only at GL
 subst GL
 have hx:uw (Gt p):=⟨(Jj.1 hw).1,rfl⟩
 obtain ⟨e',CR⟩: ∃e':XP,Gt p=e':=⟨_,rfl⟩
 have hep:e'.1=p:=by rw [<-CR];rfl
 rw [CR] at hx⊢
 have Qn:=YP hx
 have hwv:=Cu hx.1
 have UB:=cZ hwv.1
 have RO:=KY hwv.1
 have hR:=dC hx.1
 have hV:=valid hwv.1
 have ZV:=Wf hV
 obtain ⟨m,hm⟩: ∃m,(Ab e'.1).length=m:=⟨_,rfl⟩
 obtain ⟨S,hS⟩: ∃S:Nat->Bool,(λ(i:Nat)=>fK (some (Fv p t)) (i:Int))=S:=⟨_,rfl⟩
 have hSi: ∀i:Nat,fK (some (Fv p t)) (i:Int)=S i:= λi=>congrFun hS i
 show fnW _ _ So _ _ (λz=>z=bq (Ed e'.1) (λi=>fK (some (Fv p t)) (i:Int)) (Ab e'.1).length)
 rw [hS]
 have Oq: ∀i:Nat,i<m->fT.fn (some (Fv p t),(i:Int),())=some (S i):= λi hi=>by
  refine (if_pos ⟨p,t,hw,rfl,by show (0:Int)<=i;omega,?_⟩).trans (congrArg some (hSi i))
  show (i:Int)<(((Ab p).length:Nat):Int)
  rw [<-hep];omega
 rw [hm] at UB RO hR⊢
 refine Eq.mp (LY _ _ _) ⟨e',rfl,((List.replicate m (-1),()),()),?_,e',rfl,(m:Int),?_,rfl,rfl,rfl,rfl,?_⟩
 ·rw [Qn,hm]
  refine (if_pos ⟨⟨-1,rfl⟩,by show (1:Int)<=m;omega,by show (m:Int)<=100000;omega⟩).trans ?_
  show some ((List.replicate ((m:Int)).toNat (-1),()),())=_
  rw [Int.toNat_natCast]
 ·exact (if_pos trivial).trans (congrArg some (by show ((e'.2.1.length:Nat):Int)=m;rw [Qn,hm]))
 refine Aq m (λv=>v.1) (λj v=>v.2.1=GJ S j/\v.2.2.1.length=m/\ ∀k,k<m->v.2.2.1.getD k 0=if k<j/\S k=true then 0 else-1) rfl ⟨rfl,by simp,λk hk=>?_⟩ ?_
 ·rw [if_neg (by omega),Dk (by simpa using hk),List.getElem_replicate]
 rintro j ⟨i,q,out,⟨⟩⟩ K hj hi ⟨h1,h2,h3⟩ hK
 dsimp only at hi h1 h2 h3⊢
 subst hi h1
 have hql:=AG S j
 refine Br.dec (λhl=>?_) λhl=>⟨rfl,rfl,rfl,rfl,?_⟩
 ·have hl:j<m:=by omega
  refine ⟨S j,Oq j hl,Br.of (λhs=>?_) λhs=>?_⟩
  ·refine ⟨⟨by omega,by omega⟩,by rw [Int.toNat_natCast];omega,rfl,rfl,by show (GJ S j).length+1<=4294967296;omega,rfl,by rw [List.length_set],rfl,rfl,?_⟩
   rw [Bh,Ao (by omega),Int.toNat_natCast,Nat.zero_add]
   refine hK hl _ rfl ⟨?_,by rw [List.length_set];exact h2,?_⟩
   ·show GJ S j++ [(j:Int)]=_
    rw [gA,if_pos hs]
   ·refine th h2 hl h3 (by rw [if_pos ⟨by omega,hs⟩]) λk hk=>?_
    by_cases hc:k<j/\S k=true
    ·rw [if_pos hc,if_pos ⟨by omega,hc.2⟩]
    ·rw [if_neg hc,if_neg λh=>hc ⟨by omega,h.2⟩]
  ·refine ⟨rfl,rfl,rfl,rfl,?_⟩
   rw [Bh,Ao (by omega)]
   refine hK hl _ rfl ⟨?_,h2,λk hk=>?_⟩
   ·show GJ S j=_
    rw [gA,if_neg (by rw [hs];decide)]
   ·rw [h3 k hk]
    by_cases hc:k<j/\S k=true
    ·rw [if_pos hc,if_pos ⟨by omega,hc.2⟩]
    ·rw [if_neg hc,if_neg λh=>hc ⟨by
      by_cases e:k=j
      ·subst e;rw [hs] at h;exact absurd h.2 (by decide)
      ·omega,h.2⟩]
 ·have:j=m:=by omega
  subst this
  have mN:out=yd S j:=qz (by rw [h2];simp [yd]) λk hk=>by
   rw [h3 k (by omega),Ol (by omega)]
   by_cases hs:S k=true
   ·rw [if_pos ⟨by omega,hs⟩,if_pos hs]
   ·rw [if_neg λh=>hs h.2,if_neg hs]
  subst mN
  rw [Bh]
  show Bs _ (MJ S j,yd S j,PUnit.unit)
  refine Bs.mk (λv=> ∃(q out:List Int) (f T:Nat),v=(q,out,())/\DQ (Ed e'.1) S j out q/\q.length+Tr out<f/\l7 (Ed e'.1) f out q=bq (Ed e'.1) S j/\T+(q.length+Tr out)<=j/\ ∀i,i<j->out.getD i 0<=T) (λv=>v.1.length+Tr v.2.1)
   ⟨MJ S j,yd S j,j+1,0,rfl,gz _ _ _,by rw [qD];omega,rfl,by rw [qD];omega,λi hi=>by rw [Ol hi];split<;>omega⟩ ?_
  rintro v ⟨q,out,f,T,rfl,g1,g2,g3,g4,g5⟩
  dsimp only
  have hol:=g1.base.len
  refine Br.dec (λhl=>?_) λhl=>?_
  ·obtain ⟨x,q',rfl⟩: ∃x q',q=x::q':=by
    cases q with
    |nil=>simp at hl
    |cons x q'=>exact ⟨x,q',rfl⟩
   obtain ⟨x1,x2,x3⟩:=g1.base.SF x (by simp)
   obtain ⟨xn,rfl⟩:=Int.eq_ofNat_of_zero_le x1
   have uo:xn<j:=by omega
   rw [Int.toNat_natCast] at x3
   obtain ⟨f,rfl⟩: ∃f',f=f'+1:=⟨f-1,by omega⟩
   simp only [l7,Int.toNat_natCast] at g3
   simp only [List.length_cons] at g2 g4
   refine ⟨e',rfl,⟨by omega,by omega⟩,(xn:Int),by simp,Ed e'.1 xn,HS hx (by omega),rfl,rfl,rfl,rfl,?_⟩
   rw [Bh]
   obtain ⟨o1,o2⟩:=List.pairwise_cons.1 g1.base.ord
   simp only [Int.toNat_natCast] at o1
   have ZC:DX (Ed e'.1) S j xn (out.getD xn 0) out q':=by
    refine ⟨⟨g1.base.len,g1.base.ge,λy hy=>g1.base.SF y (List.mem_cons_of_mem _ hy),g1.base.src,g1.base.KW,g1.base.par,λi hi h0 hn hw=>g1.base.done i hi h0 (λhm=>?_) (λh=>h),o2⟩,uo,rfl,x3,o1,?_⟩
    ·rcases List.mem_cons.1 hm with e|hm
     ·exact hw (by omega)
     ·exact hn hm
    ·have:=g1.hi (xn:Int) q' rfl
     rwa [Int.toNat_natCast] at this
   have hnl:(Ed e'.1 xn).length<=16:=by rw [ju];exact ZV
   obtain ⟨d,hd⟩: ∃d,out.getD xn 0=d:=⟨_,rfl⟩
   rw [hd] at ZC
   have hdT:d<=T:=by rw [<-hd];exact g5 xn uo
   refine Aq (Ed e'.1 xn).length (λv=>v.1) (λk v=> ∃(qq o:List Int),v=((k:Int),(xn:Int)::qq,o,())/\DX (Ed e'.1) S j xn d o qq/\qq.length+Tr o=q'.length+Tr out/\
     Pv (xn:Int) ((Ed e'.1 xn).drop k) (o,qq)=Pv (xn:Int) (Ed e'.1 xn) (out,q')) rfl ⟨q',out,rfl,ZC,rfl,by rw [List.drop_zero]⟩ ?_
   rintro k v K2 hk hki ⟨qq,o,rfl,hX,hc,Ke⟩ YY
   dsimp only
   have hXb:=hX.base.len
   refine Br.dec (λHt=>?_) λHt=>?_
   ·have Ht:k<(Ed e'.1 xn).length:=by omega
    have MV:=hR xn uo _ (List.getElem_mem Ht)
    obtain ⟨tn,UQ⟩:=Int.eq_ofNat_of_zero_le MV.1
    have htj:tn<j:=by omega
    rw [List.drop_eq_getElem_cons Ht] at Ke
    simp only [Pv] at Ke
    have RS:o.getD ((xn:Nat):Int).toNat 0=d:=by rw [Int.toNat_natCast];exact hX.Nh
    refine ⟨_,Av Ht,?_⟩
    rw [UQ] at Ke⊢
    rw [Int.toNat_natCast] at Ke
    refine ⟨⟨by omega,by omega⟩,o.getD tn 0,NO (by omega),Br.dec (λbn=>?_) λbn=>?_⟩
    ·rw [if_pos bn,RS] at Ke
     have mO:=rP hR hX (List.getElem_mem Ht) MV (by rw [UQ,Int.toNat_natCast];exact bn)
     rw [UQ,Int.toNat_natCast] at mO
     have UE:=nh (xs:=o) (i:=tn) (v:=d+1) (by omega) bn (by have:=hX.d0;omega)
     have XH:=hX.d0
     refine ⟨⟨by omega,by simp only [List.length_cons];omega⟩,(xn:Int),by simp,⟨by omega,by omega⟩,d,by rw [NO (by omega),<-hX.Nh],⟨by omega,by omega⟩,by rw [Int.toNat_natCast];omega,rfl,rfl,?_,rfl,by rw [List.length_set],rfl,rfl,?_⟩
     ·show qq.length+1+1<=4294967296
      omega
     ·rw [Bh,Ao (by omega),Int.toNat_natCast,Nat.zero_add,Bt (n:=d+1) (by omega) (by omega)]
      refine YY Ht _ rfl ⟨qq++ [(tn:Int)],o.set tn (d+1),rfl,mO,?_,Ke⟩
      rw [List.length_append,List.length_singleton]
      omega
    ·rw [if_neg bn] at Ke
     refine ⟨rfl,rfl,rfl,rfl,?_⟩
     rw [Bh,Ao (by omega)]
     exact YY Ht _ rfl ⟨qq,o,rfl,hX,hc,Ke⟩
   ·have Ht:k=(Ed e'.1 xn).length:=by omega
    subst Ht
    rw [List.drop_length,Pv] at Ke
    rw [<-Ke] at g3
    have IL:=(yc hR g1).1
    rw [Int.toNat_natCast,<-Ke] at IL
    have ht:List.take ((((xn:Int)::qq).length:Int).toNat-Int.toNat (1:Int)) (List.drop (0+Int.toNat (1:Int)) ((xn:Int)::qq))=qq:=by
     rw [Int.toNat_natCast,List.length_cons]
     show List.take (qq.length+1-1) qq=qq
     rw [Nat.add_sub_cancel,List.take_length]
    rw [ht]
    refine ⟨⟨by omega,by simp only [List.length_cons];omega,by omega⟩,rfl,rfl,rfl,rfl,⟨qq,o,f,T+1,rfl,IL,by omega,g3,by omega,λi hi=>?_⟩,?_⟩
    ·have:=hX.hi i hi
     push_cast
     omega
    ·show qq.length+Tr o<((xn:Int)::q').length+Tr out
     simp only [List.length_cons]
     omega
  ·have:q= []:=by
    cases q with
    |nil=>rfl
    |cons x q'=>simp at hl
   subst this
   rw [Bh]
   cases f with
   |zero=>exact g3
   |succ f=>exact g3
theorem tu:Sound Try.prog 71 So:=
 Sound.Di (WD [Hq+6]) (Hj tB (Ah cT (Ah zw At))) mixed Try.func71 (by kernel_rfl) (by kernel_rfl) λx h=>JY x.1 x.2.1 h
end Go.Proofs.Ytjbdmibbbpdnnaa

namespace Go.Proofs.Ytjbdmibbbpdnnaa
open Go.RowKit
noncomputable abbrev Qy:MSpec:=fM [some 3,none,none] [(false, .Ew tI),(false, .Ew .str),(false, .Ew iS),(false, .Ew tL),(false, .Ew tL)] true [none,none] [rL, .Ew .bool]
 (λx=>Cp (x.1,x.2.1,x.2.2.1,())/\short x.2.2.2.1/\short x.2.2.2.2.1) (λx=>(((Yn (x.1,x.2.1,x.2.2.1,()) x.2.2.2.1 x.2.2.2.2.1).1,(Yn (x.1,x.2.1,x.2.2.1,()) x.2.2.2.1 x.2.2.2.2.1).2.1,()),()))
abbrev oe:Type:=Option ((Int×ByteArray×List (List Int)×PUnit)×List (List Int)×List Int×(ByteArray->Option Int)×List Int×List Int×List (List Int)×PUnit)×List Int×Option ((Int×ByteArray×List (List Int)×PUnit)×List (List Int)×List Int×(ByteArray->Option Int)×List Int×List Int×List (List Int)×PUnit)×PUnit
theorem FX (n:Int) (str:ByteArray) (g:List (List Int)) (t s:List Int) (P:((List Int×Bool×Unit)×Unit)->Prop):(∃(y6:Option (Option ((Int×ByteArray×List (List Int)×PUnit)×List (List Int)×List Int×(ByteArray->Option Int)×List Int×List Int×List (List Int)×PUnit)×List Int×Option ((Int×ByteArray×List (List Int)×PUnit)×List (List Int)×List Int×(ByteArray->Option Int)×List Int×List Int×List (List Int)×PUnit)×PUnit)×Int×Bool×PUnit),Lm.fn ((n,str,g,()),t,s,())=some y6/\Br (!y6.2.2.1) (P ((List.take 0 (List.drop 0 []),false,()),())) (∃(y7:oe),y6.1=some y7/\ ∃(y8:oe),y6.1=some y8/\ ∃(y9:List Int),So.fn (y8.1,(y6.1,()),())=some y9/\ ∃(iM:(List Int×Int×Bool×PUnit)×PUnit),Qx.fn (y7.1,y9,y6.2.1,())=some iM/\P ((List.take iM.1.1.length (List.drop 0 iM.1.1),iM.1.2.2.1,()),())))=fnMW Xj (look [(55,Lm),(71,So),(67,Qx)]) Qy Try.f31 (n,str,g,t,s,()) P:=by kernel_rfl
abbrev jW:Type:=(Int×ByteArray×List (List Int)×PUnit)×PUnit
theorem LZ (p:Int×ByteArray×List (List Int)×Unit) (a b:List Int) (P:Bool->Prop):(Br (decide ((↑a.length:Int)>(1048576:Int))) (P true) (Br (decide ((↑b.length:Int)>(1048576:Int))) (P true) (∃(y4:Int),qZ.fn ((p.1,p.2.1,p.2.2.1,()),(1048576:Int),())=some y4/\Br (decide (y4<(0:Int))) (P true) (∃(y5:jW),Jt.fn (p.1,p.2.1,p.2.2.1,())=some y5/\ ∃(y6:(List Int×PUnit)×PUnit),Ml.fn (a,())=some y6/\ ∃(y7:(List Int×PUnit)×PUnit),Ml.fn (b,())=some y7/\ ∃(y8:List Int×Bool×PUnit),Ug.fn ((y5.1.1,y5.1.2.1,List.take y5.1.2.2.1.length (List.drop 0 y5.1.2.2.1),()),List.take y6.1.1.length (List.drop 0 y6.1.1),List.take y7.1.1.length (List.drop 0 y7.1.1),())=some y8/\ ∃(y9:jW),Jt.fn (p.1,p.2.1,p.2.2.1,())=some y9/\ ∃(iM:(List Int×PUnit)×PUnit),Ml.fn (a,())=some iM/\ ∃(iN:(List Int×PUnit)×PUnit),Ml.fn (b,())=some iN/\ ∃(eV:(List Int×Bool×PUnit)×PUnit),Qy.fn (y9.1.1,y9.1.2.1,List.take y9.1.2.2.1.length (List.drop 0 y9.1.2.2.1),List.take iM.1.1.length (List.drop 0 iM.1.1),List.take iN.1.1.length (List.drop 0 iN.1.1),())=some eV/\ ∃(eW:Bool),Ct.fn (List.take eV.1.1.length (List.drop 0 eV.1.1),y8.1,())=some eW/\Br (!eW) (P false) (Br (!eV.1.2.1==y8.2.1) (P false) (∃(Wr:Int×ByteArray×List (List Int)×PUnit),r6.fn ((p.1,p.2.1,p.2.2.1,()),())=some Wr/\ ∃(Vp:Bool),qU.fn ((y9.1.1,y9.1.2.1,List.take y9.1.2.2.1.length (List.drop 0 y9.1.2.2.1),()),Wr,())=some Vp/\Br (!Vp) (P false) (∃(Xm:(List Int×PUnit)×PUnit),Ml.fn (a,())=some Xm/\ ∃(uh:Bool),Ct.fn (List.take iM.1.1.length (List.drop 0 iM.1.1),List.take Xm.1.1.length (List.drop 0 Xm.1.1),())=some uh/\Br (!uh) (P false) (∃(xA:(List Int×PUnit)×PUnit),Ml.fn (b,())=some xA/\ ∃(QJ:Bool),Ct.fn (List.take iN.1.1.length (List.drop 0 iN.1.1),List.take xA.1.1.length (List.drop 0 xA.1.1),())=some QJ/\Br (!QJ) (P false) (0=0/\y9.1.2.2.1.length=y9.1.2.2.1.length/\ ∃(GQ:(Int×PUnit)×List (List Int)×PUnit),Lu.fn (y9.1.1,y9.1.2.1,y9.1.2.2.1,(1:Int),())=some GQ/\(GQ.2.1.length=y9.1.2.2.1.length/\y9.1.2.2.1.length=y9.1.2.2.1.length)/\0=0/\iM.1.1.length=iM.1.1.length/\ ∃(xG:(Int×PUnit)×List Int×PUnit),Pk.fn (iM.1.1,GQ.1.1,())=some xG/\(xG.2.1.length=iM.1.1.length/\iM.1.1.length=iM.1.1.length)/\0=0/\iN.1.1.length=iN.1.1.length/\ ∃(y22:(Int×PUnit)×List Int×PUnit),Pk.fn (iN.1.1,xG.1.1,())=some y22/\(y22.2.1.length=iN.1.1.length/\iN.1.1.length=iN.1.1.length)/\Br (decide (y22.1.1<(0:Int))) (P false) (∃(y23:Bool),Ct.fn (List.take eV.1.1.length (List.drop 0 eV.1.1),y8.1,())=some y23/\Br (!y23) (P false) (Br (!eV.1.2.1==y8.2.1) (P false) (0=0/\eV.1.1.length=eV.1.1.length/\ ∃(YG:(Int×PUnit)×List Int×PUnit),Pk.fn (eV.1.1,(1:Int),())=some YG/\(YG.2.1.length=eV.1.1.length/\eV.1.1.length=eV.1.1.length)/\ ∃(y25:Int),ay.fn (List.take eV.1.1.length (List.drop 0 YG.2.1),(1:Int),())=some y25/\Br (decide (y25<(0:Int))) (P false) (Br (y25 !=YG.1.1) (P false) (∃(y26:jW),Jt.fn (p.1,p.2.1,p.2.2.1,())=some y26/\ ∃(y27:(List Int×PUnit)×PUnit),Ml.fn (a,())=some y27/\ ∃(y28:(List Int×PUnit)×PUnit),Ml.fn (b,())=some y28/\ ∃(y29:(List Int×Bool×PUnit)×PUnit),Qy.fn (y26.1.1,y26.1.2.1,List.take y26.1.2.2.1.length (List.drop 0 y26.1.2.2.1),List.take y27.1.1.length (List.drop 0 y27.1.1),List.take y28.1.1.length (List.drop 0 y28.1.1),())=some y29/\ ∃(y30:Bool),Ct.fn (List.take y29.1.1.length (List.drop 0 y29.1.1),y8.1,())=some y30/\Br (!y30) (P false) (Br (!y29.1.2.1==y8.2.1) (P false) (∃(y31:Int),ay.fn (List.take eV.1.1.length (List.drop 0 YG.2.1),(1:Int),())=some y31/\Br (decide (y31<(0:Int))) (P false) (Br (y31 !=YG.1.1) (P false) (P true))))))))))))))))))=fnW Da (look [(14,qZ),(30,Ug),(31,Qy),(16,Vt.b r6 Jt),(17,Vt.b kP Ml),(19,qU),(20,Ct),(25,Lu),(26,Pk),(27,ay)]) jI Try.f7 (p,a,b,()) P:=by kernel_rfl
theorem VG {p:PP} {t:List Int} {s:List Int} (hw:Ji p t=true) (hs:s∈Ab p):
  (Nx p (Py p t) (Qr p s).1).1=(cp (Oz p (Py p t) s)).1/\(Nx p (Py p t) (Qr p s).1).2.2.1=(cp (Oz p (Py p t) s)).2.1:=by
 obtain ⟨qk,XO⟩:=Jj.1 hw
 obtain ⟨h1,h2⟩:=sS qk XO
 have hl:=h1.1
 have ML:=AF qk hl h2
 have hi:=List.idxOf_lt_length_of_mem hs
 have ZR:(Qr p s).1=(((Ab p).idxOf s:Nat):Int):=by unfold Qr;rw [if_pos hs]
 rw [ZR]
 have hn:=ML.nn _ (by rw [hl];exact hi)
 obtain ⟨n,iQ⟩:=Int.eq_ofNat_of_zero_le hn
 obtain ⟨e1,e2,_⟩:=HN qk ML h2 (see:= λx=>x) (dep:=Jy p (Py p t)) (λ_ _ _ _=>rfl) (λ_ _=>rfl) n _ [] hi iQ
 have hsx:(Ab p).getD ((Ab p).idxOf s) []=s:=by rw [Dk hi,List.getElem_idxOf hi]
 have hg:Cx (Py p t) (((Ab p).idxOf s:Nat):Int)=(n:Int):=by unfold Cx;rw [Int.toNat_natCast];exact iQ
 have hd:Jy p (Py p t) s=(n:Int):=iQ
 have hw':Oz p (Py p t) s=(Xs (Ed p) (Ag p.2.2.1.length) (Py p t) n (((Ab p).idxOf s:Nat):Int) []).1:=by
  rw [e1];unfold Oz;rw [hd,Int.toNat_natCast,hsx]
 rw [hw']
 unfold Nx cp
 rw [hg,Int.toNat_natCast,e2]
 simp only [List.length_nil,Nat.zero_add]
 by_cases hc:n>200
 ·rw [if_pos (by omega),if_pos hc];exact ⟨rfl,rfl⟩
 ·rw [if_neg (by omega),if_neg hc];exact ⟨rfl,rfl⟩
theorem CI {p:PP} {t:List Int} (hw:Ji p t=true):So.fn (some (Gt p),(some (Fv p t),()),())=some (Py p t):=if_pos ⟨p,t,hw,rfl,rfl⟩
theorem EC (n:Int) (str:ByteArray) (g:List (List Int)) (t s:List Int) (h:Cp (n,str,g,())/\short t/\short s):
  fnMW Xj (look [(55,Lm),(71,So),(67,Qx)]) Qy Try.f31 (n,str,g,t,s,()) (λ(z:(List Int×Bool×Unit)×Unit)=>z=(((Yn (n,str,g,()) t s).1,(Yn (n,str,g,()) t s).2.1,()),())):=by
 obtain ⟨p,hpe⟩: ∃p:PP,p=(n,str,g,()):=⟨_,rfl⟩
 refine Eq.mp (FX n str g t s _) ?_
 rw [<-hpe] at h⊢
 unfold Yn
 by_cases hw:Ji p t=true
 ·have he:Lm.fn (p,t,s,())=some (some (Fv p t),(Qr p s).1,(Qr p s).2.1,()):=(if_pos h).trans (congrArg some (if_pos hw))
  rw [hw,Bool.true_and]
  refine ⟨_,he,?_⟩
  dsimp only
  rw [Ab2]
  refine Br.of (λhb=>?_) λhb=>?_
  ·rw [if_neg (Cv hb)];rfl
  have Ke:s∈Ab p:=by simpa using hb
  obtain ⟨i1,i2,i3⟩:=Ab1 Ke
  obtain ⟨o1,o2⟩:=VG hw Ke
  rw [if_pos (decide_eq_true Ke)]
  obtain ⟨qk,XO⟩:=Jj.1 hw
  have hdl:=(sS qk XO).1.1
  have hds:Qx.fn (some (Gt p),Py p t,(Qr p s).1,())=some (Nx p (Py p t) (Qr p s).1,()):=
   if_pos ⟨Gt p,rfl,⟨qk,rfl⟩,AF qk hdl (sS qk XO).2,i1,by show (Qr p s).1<((Py p t).length:Int);rw [hdl];exact i2⟩
  have hdi:=CI hw
  generalize Nx p (Py p t) (Qr p s).1=dd at*
  generalize cp (Oz p (Py p t) s)=rr at*
  generalize Py p t=pd at*
  refine ⟨Fv p t,rfl,Fv p t,rfl,pd,hdi,_,hds,?_⟩
  dsimp only
  rw [Bh,o1,o2]
 ·have he:Lm.fn (p,t,s,())=some (none,0,false,()):=(if_pos h).trans (congrArg some (if_neg hw))
  rw [Bool.not_eq_true _|>.mp hw,Bool.false_and,if_neg (by decide)]
  exact ⟨_,he,λ_=>rfl,λhb=>by simp at hb⟩
theorem pD:Bz Try.prog 31 Qy:=
 Bz.fM Vl (Ah nU (Ah tu (Hj pA At))) mixed Try.func31 (by kernel_rfl) (by kernel_rfl) λx h=>EC x.1 x.2.1 x.2.2.1 x.2.2.2.1 x.2.2.2.2.1 h
theorem DT {p:PP} {t s:List Int} :short (Yn p t s).1:=by
 unfold Yn cp
 split
 ·split
  ·simp [short]
  ·show (Oz p (Py p t) s).length<=4294967296
   omega
 ·simp [short]
theorem JZ (p:PP) (a:List Int) (b:List Int) (h:Cp p/\short a/\short b):fnW Da (look [(14,qZ),(30,Ug),(31,Qy),(16,Vt.b r6 Jt),(17,Vt.b kP Ml),(19,qU),(20,Ct),(25,Lu),(26,Pk),(27,ay)]) jI Try.f7 (p,a,b,()) (λ(z:Bool)=>z=true):=by
 have h0:Cp (p.1,p.2.1,p.2.2.1,()):=h.1
 have h1:short a:=h.2.1
 have h2:short b:=h.2.2
 refine Eq.mp (LZ p a b _) ?_
 refine Br.dec (λ_=>rfl) λAke=>?_
 refine Br.dec (λ_=>rfl) λAkf=>?_
 refine ⟨_,if_pos ⟨h0,wM⟩,Br.dec (λ_=>rfl) λAg3=>?_⟩
 have Aas:(((Cj p.2.2.1:Nat):Nat):Int)<=(1048576)-(cr (p.1,p.2.1,p.2.2.1,()) (1048576))/\roomy (cr (p.1,p.2.1,p.2.2.1,()) (1048576)):=LD wM Ag3
 have All:=Aas.1
 have Akt:0<=cr (p.1,p.2.1,p.2.2.1,()) (1048576)/\cr (p.1,p.2.1,p.2.2.1,()) (1048576)<=4294967296:=Aas.2
 have l0:low (1+(Cj p.2.2.1:Nat)):=⟨by omega,by omega⟩
 have l1:low (1+(Cj p.2.2.1:Nat)+(a.length:Nat)):=⟨by omega,by omega⟩
 have l2:low (1+(Cj p.2.2.1:Nat)+(a.length:Nat)+(b.length:Nat)):=⟨by omega,by omega⟩
 refine ⟨_,if_pos h0,_,if_pos h1,_,if_pos h2,?_⟩
 try simp only [Bh]
 refine ⟨_,if_pos ⟨h0,h1,h2⟩,_,if_pos h0,_,if_pos h1,_,if_pos h2,?_⟩
 try simp only [Bh]
 have NY:short ((Yn p a b).1):=DT
 generalize he0:(Yn p a b).1=g0 at NY
 generalize he1:(Yn p a b).2.1=g1
 refine ⟨_,if_pos ⟨h0,h1,h2⟩,?_⟩
 simp only [Bh,he0,he1]
 refine ⟨_,if_pos NY,⟨λhe=>absurd (Jh _) (Cv he),λ_=>?_⟩⟩
 refine ⟨λhe=>iZ he,λ_=>?_⟩
 refine ⟨_,if_pos h0,_,if_pos h0,⟨λhe=>absurd (yK _) (Cv he),λ_=>?_⟩⟩
 refine ⟨_,if_pos h1,?_⟩
 try simp only [Bh]
 refine ⟨_,if_pos h1,⟨λhe=>absurd (Jh _) (Cv he),λ_=>?_⟩⟩
 refine ⟨_,if_pos h2,?_⟩
 try simp only [Bh]
 refine ⟨_,if_pos h2,⟨λhe=>absurd (Jh _) (Cv he),λ_=>?_⟩⟩
 refine ⟨trivial,trivial,_,if_pos ⟨h0.2,lL,l0⟩,⟨Wz _ _,trivial⟩,trivial,trivial,_,if_pos ⟨h1,l0⟩,⟨Lj _ _,trivial⟩,trivial,trivial,_,if_pos ⟨h2,l1⟩,⟨Lj _ _,trivial⟩,Br.dec (λhn=>absurd l2.1 (Int.not_le.2 hn)) λ_=>?_⟩
 refine ⟨_,if_pos NY,⟨λhe=>absurd (Jh _) (Cv he),λ_=>?_⟩⟩
 refine ⟨λhe=>iZ he,λ_=>?_⟩
 refine ⟨trivial,trivial,_,if_pos ⟨NY,lL⟩,⟨Lj _ _,trivial⟩,?_⟩
 simp only [xy]
 have UA: ∀k,short (Gy k g0.length):= λk=>by unfold short at*;rw [Lj];exact NY
 refine ⟨_,if_pos ⟨UA _,lL⟩,?_⟩
 simp only [eB]
 refine Br.dec (λhn=>by omega) λ_=>⟨λhe=>by simp at he,λ_=>?_⟩
 refine ⟨_,if_pos h0,_,if_pos h1,_,if_pos h2,?_⟩
 try simp only [Bh]
 refine ⟨_,if_pos ⟨h0,h1,h2⟩,?_⟩
 simp only [Bh,he0,he1]
 refine ⟨_,if_pos NY,⟨λhe=>absurd (Jh _) (Cv he),λ_=>?_⟩⟩
 refine ⟨λhe=>iZ he,λ_=>?_⟩
 refine ⟨_,if_pos ⟨UA _,lL⟩,?_⟩
 simp only [eB]
 exact Br.dec (λhn=>by omega) λ_=>⟨λhe=>by simp at he,λ_=>trivial⟩
theorem tv:Sound Try.prog 7 jI:=
 Sound.Di Cb (Ah FF (Ah pH (Hj pD (uZ FG lv (uZ rf nZ (Ah EZ (Ah re (Hj jO (Hj kR (Ah wU At)))))))))) mixed Try.func7 (by kernel_rfl) (by kernel_rfl) λx h=>JZ x.1 x.2.1 x.2.2.1 h
end Go.Proofs.Ytjbdmibbbpdnnaa
