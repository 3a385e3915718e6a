/-
  Part 44 of the proof that the statement FnExactMethodLength holds.
-/
import Derived.Test.YtjbdmibbbpdnnaaCMethodLength42
import Derived.Shelf.RegionOpenPlain
import Derived.WalkKit
import Derived.Lib.Walk
import Derived.Lib.SliceRun
import Derived.Lib.AppendZerosOnto
namespace Go.Proofs.Ytjbdmibbbpdnnaa
open Go.RowKit
noncomputable abbrev Mc:Spec:=Cu (.pair tU (.pair tU .unit)) (.pair tU (.pair tU .unit)) true true (λx=>x.1=1/\0<=x.2.1/\x.2.1<=100000) (λx=>(0,x.2.1,()))
noncomputable abbrev Za:MSpec:=xT [none,none] [(false, .Gt tL),(false, .Gt tI)] false [none] [rL] (λx=>(∃v,x.1= [v])/\1<=x.2.1/\x.2.1<=100000) (λx=>((List.replicate x.2.1.toNat (x.1.getD 0 0),()),()))
theorem SC (x y:Int) (P:(Int×Int×Unit)->Prop):(¬(32:Int)<(0:Int)/\ ¬(32:Int)<(0:Int)/\ ¬(32:Int)<(0:Int)/\ ¬(32:Int)<(0:Int)/\ ¬(32:Int)<(0:Int)/\P (IntKind.u64.wrap (IntKind.u64.wrap (IntKind.u64.wrap (x.fdiv ((2:Int)^min (Int.toNat (32:Int)) IntKind.u64.bits)*y.fdiv ((2:Int)^min (Int.toNat (32:Int)) IntKind.u64.bits))+(IntKind.u64.wrap (IntKind.u64.wrap (x.fdiv ((2:Int)^min (Int.toNat (32:Int)) IntKind.u64.bits)*IntKind.u64.wrap (↑(BitVec.ofInt IntKind.u64.bits y&&&BitVec.ofInt IntKind.u64.bits (4294967295:Int)).toNat:Int))+(IntKind.u64.wrap (IntKind.u64.wrap (↑(BitVec.ofInt IntKind.u64.bits x&&&BitVec.ofInt IntKind.u64.bits (4294967295:Int)).toNat:Int)*IntKind.u64.wrap (↑(BitVec.ofInt IntKind.u64.bits y&&&BitVec.ofInt IntKind.u64.bits (4294967295:Int)).toNat:Int))).fdiv ((2:Int)^min (Int.toNat (32:Int)) IntKind.u64.bits))).fdiv ((2:Int)^min (Int.toNat (32:Int)) IntKind.u64.bits))+(IntKind.u64.wrap (IntKind.u64.wrap (↑(BitVec.ofInt IntKind.u64.bits (IntKind.u64.wrap (IntKind.u64.wrap (x.fdiv ((2:Int)^min (Int.toNat (32:Int)) IntKind.u64.bits)*IntKind.u64.wrap (↑(BitVec.ofInt IntKind.u64.bits y&&&BitVec.ofInt IntKind.u64.bits (4294967295:Int)).toNat:Int))+(IntKind.u64.wrap (IntKind.u64.wrap (↑(BitVec.ofInt IntKind.u64.bits x&&&BitVec.ofInt IntKind.u64.bits (4294967295:Int)).toNat:Int)*IntKind.u64.wrap (↑(BitVec.ofInt IntKind.u64.bits y&&&BitVec.ofInt IntKind.u64.bits (4294967295:Int)).toNat:Int))).fdiv ((2:Int)^min (Int.toNat (32:Int)) IntKind.u64.bits)))&&&BitVec.ofInt IntKind.u64.bits (4294967295:Int)).toNat:Int)+IntKind.u64.wrap (IntKind.u64.wrap (↑(BitVec.ofInt IntKind.u64.bits x&&&BitVec.ofInt IntKind.u64.bits (4294967295:Int)).toNat:Int)*y.fdiv ((2:Int)^min (Int.toNat (32:Int)) IntKind.u64.bits)))).fdiv ((2:Int)^min (Int.toNat (32:Int)) IntKind.u64.bits)),IntKind.u64.wrap (x*y),()))=fnW ei (look []) Mc Try.f172 (x,y,()) P:=by kernel_rfl
theorem YK (x y:Int) (P:(Int×Int×Unit)->Prop):(∃(y3:Int×Int×PUnit),Mc.fn (x,y,())=some y3/\P (y3.1,y3.2.1,()))=fnW ei (look [(172,Mc)]) Mc Try.f152 (x,y,()) P:=by kernel_rfl
theorem NM (xs:List Int) (n:Int) (P:((List Int×Unit)×Unit)->Prop):(Br (decide (n<(0:Int))) False (∃(y3:Int×Int×PUnit),Mc.fn (IntKind.u64.wrap (↑xs.length:Int),IntKind.u64.wrap n,())=some y3/\Br (decide (y3.1>(0:Int))) False (Br (decide (y3.2.1>(9223372036854775807:Int))) False (((0:Int)<=IntKind.i64.wrap y3.2.1/\IntKind.i64.wrap y3.2.1<(↑Bp:Int)+(1:Int))/\IntKind.i64.wrap y3.2.1=IntKind.i64.wrap y3.2.1/\0=0/\(List.replicate (IntKind.i64.wrap y3.2.1).toNat (Int.ofNat (nat_lit 0))).length=(Bh (List.replicate (IntKind.i64.wrap y3.2.1).toNat (Int.ofNat (nat_lit 0))) 0 (List.take (List.replicate (IntKind.i64.wrap y3.2.1).toNat (Int.ofNat (nat_lit 0))).length xs)).length/\Bn (λ(v4:Int×List Int×PUnit) (k5:Int×List Int×PUnit->Prop)=>Br (decide (v4.1<(↑v4.2.1.length:Int))) (((0:Int)<=v4.1/\v4.1<=(↑v4.2.1.length:Int)/\(↑v4.2.1.length:Int)<=(↑v4.2.1.length:Int))/\((0:Int)<=(0:Int)/\(0:Int)<=v4.1/\v4.1<=(↑v4.2.1.length:Int))/\0=0/\v4.2.1.length=(Bh v4.2.1 (0+v4.1.toNat) (List.take ((↑v4.2.1.length:Int).toNat-v4.1.toNat) (List.take (v4.1.toNat-Int.toNat (0:Int)) (List.drop (0+Int.toNat (0:Int)) v4.2.1)))).length/\k5 (IntKind.i64.wrap (v4.1+(↑(min ((↑v4.2.1.length:Int).toNat-v4.1.toNat) (List.take (v4.1.toNat-Int.toNat (0:Int)) (List.drop (0+Int.toNat (0:Int)) v4.2.1)).length):Int)),Bh v4.2.1 (0+v4.1.toNat) (List.take ((↑v4.2.1.length:Int).toNat-v4.1.toNat) (List.take (v4.1.toNat-Int.toNat (0:Int)) (List.drop (0+Int.toNat (0:Int)) v4.2.1))),())) (P ((List.take v4.2.1.length (List.drop 0 v4.2.1),()),()))) ((↑(min (List.replicate (IntKind.i64.wrap y3.2.1).toNat (Int.ofNat (nat_lit 0))).length xs.length):Int),Bh (List.replicate (IntKind.i64.wrap y3.2.1).toNat (Int.ofNat (nat_lit 0))) 0 (List.take (List.replicate (IntKind.i64.wrap y3.2.1).toNat (Int.ofNat (nat_lit 0))).length xs),PUnit.unit)))))=fnMW ei (look [(152,Mc)]) Za Try.f122 (xs,n,()) P:=by kernel_rfl
theorem IP {y:Int} (h0:0<=y) (h:y<4294967296):(((BitVec.ofInt IntKind.u64.bits y)&&&(BitVec.ofInt IntKind.u64.bits 4294967295)).toNat:Int)=y:=by
 obtain ⟨n,rfl⟩:=Int.eq_ofNat_of_zero_le h0
 show ((((BitVec.ofInt 64 (n:Int))&&&(BitVec.ofInt 64 4294967295)).toNat:Nat):Int)=(n:Int)
 have e1:(BitVec.ofInt 64 (n:Int)).toNat=n:=by rw [BitVec.toNat_ofInt];omega
 have e2:(BitVec.ofInt 64 4294967295).toNat=2^32-1:=by decide
 rw [BitVec.toNat_and,e1,e2,Nat.and_two_pow_sub_one_eq_mod]
 omega
theorem xO {n:Int} (h1:0<=n) (h2:n<18446744073709551616):IntKind.u64.wrap n=n:=by rw [IntKind.wrap_u64];omega
theorem RC (x y:Int) (h:x=1/\0<=y/\y<=100000):fnW ei (look []) Mc Try.f172 (x,y,()) (λ(z:Int×Int×Unit)=>z=(0,y,())):=by
 obtain ⟨rfl,h1,h2⟩:=h
 have e32:(2:Int)^min (Int.toNat (32:Int)) IntKind.u64.bits=4294967296:=by decide
 have e1:(1:Int).fdiv 4294967296=0:=by decide
 have e0:(0:Int).fdiv 4294967296=0:=by decide
 have ey:y.fdiv 4294967296=0:=by rw [Int.fdiv_eq_ediv_of_nonneg _ (by omega)];omega
 refine Eq.mp (SC 1 y _) ⟨by omega,by omega,by omega,by omega,by omega,?_⟩
 rw [e32]
 simp only [e1,ey,e0,IP h1 (show y<4294967296 by omega),IP (show (0:Int)<=1 by omega) (show (1:Int)<4294967296 by omega),IP (show (0:Int)<=0 by omega) (show (0:Int)<4294967296 by omega),Int.zero_mul,Int.mul_zero,Int.one_mul,Int.zero_add,Int.add_zero,
  xO h1 (show y<18446744073709551616 by omega),xO (show (0:Int)<=0 by omega) (show (0:Int)<18446744073709551616 by omega),xO (show (0:Int)<=1 by omega) (show (1:Int)<18446744073709551616 by omega)]
theorem xl:Sound Try.prog 172 Mc:=
 Sound.Cu zX Aq mixed Try.func172 (by kernel_rfl) (by kernel_rfl) λx h=>RC x.1 x.2.1 h
theorem XJ (x y:Int) (h:x=1/\0<=y/\y<=100000):fnW ei (look [(172,Mc)]) Mc Try.f152 (x,y,()) (λ(z:Int×Int×Unit)=>z=(0,y,())):=
 Eq.mp (YK x y _) ⟨_,if_pos h,rfl⟩
theorem zQ:Sound Try.prog 152 Mc:=
 Sound.Cu zX (Ah xl Aq) mixed Try.func152 (by kernel_rfl) (by kernel_rfl) λx h=>XJ x.1 x.2.1 h
theorem lb {α:Type} (a b:α) {k m j:Nat} (h1:k+j<=m):Bh (List.replicate k a++List.replicate (m-k) b) k (List.replicate j a)=List.replicate (k+j) a++List.replicate (m-(k+j)) b:=by
 unfold Bh
 have e1:(List.replicate k a++List.replicate (m-k) b).take k=List.replicate k a:=List.take_left' (by simp)
 have e2:(List.replicate k a++List.replicate (m-k) b).drop (k+(List.replicate j a).length)=List.replicate (m-(k+j)) b:=by
  rw [List.length_replicate,List.drop_append,List.length_replicate,List.drop_replicate,List.drop_replicate,show k-(k+j)=0 by omega,show m-k-(k+j-k)=m-(k+j) by omega]
  rfl
 rw [e1,e2,<-List.replicate_append_replicate (n:=k) (m:=j)]
theorem LR (xs:List Int) (n:Int) (h:(∃v,xs= [v])/\1<=n/\n<=100000):fnMW ei (look [(152,Mc)]) Za Try.f122 (xs,n,()) (λ(z:(List Int×Unit)×Unit)=>z=((List.replicate n.toNat (xs.getD 0 0),()),())):=by
 obtain ⟨⟨v,rfl⟩,h1,h2⟩:=h
 obtain ⟨m,rfl⟩:=Int.eq_ofNat_of_zero_le (show 0<=n by omega)
 have e1:IntKind.u64.wrap (([v]:List Int).length:Int)=1:=xO (by simp) (by simp)
 have e2:IntKind.u64.wrap (m:Int)=(m:Int):=xO (by omega) (by omega)
 have e3:IntKind.i64.wrap (m:Int)=(m:Int):=Bt (by omega) (by omega)
 have hmul:Mc.fn (IntKind.u64.wrap (([v]:List Int).length:Int),IntKind.u64.wrap (m:Int),())=some (0,(m:Int),()):=by
  rw [e1,e2];exact if_pos ⟨rfl,by show (0:Int)<=m;omega,by show (m:Int)<=100000;omega⟩
 refine Eq.mp (NM [v] m _) (Br.dec (λhb=>absurd hb (by omega)) λ_=>⟨_,hmul,Br.dec (λhb=>absurd hb (by show ¬(0:Int)>0;omega)) λ_=>Br.dec (λhb=>absurd hb (by show ¬(m:Int)>9223372036854775807;omega)) λ_=>?_⟩)
 dsimp only
 rw [e3]
 have Aha:Bh (List.replicate (m:Int).toNat (Int.ofNat 0)) 0 (List.take (List.replicate (m:Int).toNat (Int.ofNat 0)).length [v])=List.replicate 1 v++List.replicate (m-1) 0:=by
  rw [Int.toNat_natCast,List.length_replicate,List.take_of_length_le (by simp;omega)]
  have:=lb v (0:Int) (k:=0) (m:=m) (j:=1) (by omega)
  simpa using this
 rw [Aha]
 refine ⟨⟨by omega,by show (m:Int)<(4294967296:Int)+1;omega⟩,rfl,rfl,by simp;omega,?_⟩
 refine Bn.mk (λw=> ∃k:Nat,1<=k/\k<=m/\w=((k:Int),List.replicate k v++List.replicate (m-k) 0,())) (λw=>m-w.1.toNat) ⟨1,Nat.le_refl _,by omega,?_⟩ ?_
 ·have:min (List.replicate (m:Int).toNat (Int.ofNat 0)).length ([v]:List Int).length=1:=by simp;omega
  rw [this]
  first|rfl|skip
 rintro w ⟨k,k1,k2,rfl⟩
 dsimp only
 have hlen:(List.replicate k v++List.replicate (m-k) (0:Int)).length=m:=by simp;omega
 rw [hlen]
 refine Br.dec (λhl=>?_) λhl=>?_
 ·have hl:k<m:=by omega
  obtain ⟨j,hj⟩: ∃j,min (m-k) k=j:=⟨_,rfl⟩
  have QH:List.take (((k:Int)).toNat-Int.toNat (0:Int)) (List.drop (0+Int.toNat (0:Int)) (List.replicate k v++List.replicate (m-k) (0:Int)))=List.replicate k v:=by
   have e0:Int.toNat (0:Int)=0:=rfl
   rw [e0,Int.toNat_natCast,Nat.add_zero,Nat.sub_zero,List.drop_zero,List.take_left' (by simp)]
  have ht:List.take ((m:Int).toNat-((k:Int)).toNat) (List.replicate k v)=List.replicate j v:=by
   rw [Int.toNat_natCast,Int.toNat_natCast,List.take_replicate,hj]
  have Aat:min ((m:Int).toNat-((k:Int)).toNat) (List.replicate k v).length=j:=by rw [List.length_replicate,Int.toNat_natCast,Int.toNat_natCast];exact hj
  rw [QH,ht,Aat,Int.toNat_natCast,Nat.zero_add,lb v (0:Int) (by omega)]
  refine ⟨⟨by omega,by omega,by omega⟩,⟨by omega,by omega,by omega⟩,rfl,by simp;omega,⟨k+j,by omega,by omega,?_⟩,?_⟩
  ·rw [Bt (by omega) (by omega)]
   rfl
  ·rw [Bt (by omega) (by omega)]
   omega
 ·have:k=m:=by omega
  subst this
  rw [Nat.sub_self,List.replicate_zero,List.append_nil,List.drop_zero,List.take_of_length_le (by simp),Int.toNat_natCast]
  rfl
theorem u5:Dp Try.prog 122 Za:=
 Dp.xT zX (Ah zQ Aq) mixed Try.func122 (by kernel_rfl) (by kernel_rfl) λx h=>LR x.1 x.2.1 h
end Go.Proofs.Ytjbdmibbbpdnnaa

namespace Go.Proofs.Ytjbdmibbbpdnnaa
open Go.RowKit
def qV (g:List (List Int)) (L:List (List Int)) (x:List Int):List Int:=(Ag g.length).map λl=>((L.idxOf (Aa x (Af g l)):Nat):Int)
theorem Tv {g:List (List Int)} {k:Int} {x:List Int} {d:Int} : ∀(ls:List Int) (s:EX) (row:List Int),∃A,(Vx g k x d ls s row).1.1=s.1++A
 | [],s,row=>⟨[],by simp [Vx]⟩
 |l::ls,s,row=>by
  simp only [Vx]
  split
  ·exact Tv ls s _
  ·obtain ⟨A,h⟩:=Tv (g:=g) (k:=k) (x:=x) (d:=d) ls (s.1++ [Aa x (Af g l)],s.2.1++ [d+1],s.2.2.1++ [k],s.2.2.2++ [l]) (row++ [(s.1.length:Int)])
   exact ⟨_::A,by rw [h,List.append_assoc];rfl⟩
theorem yP {L A:List (List Int)} {y:List Int} (h:y∈L):(L++A).idxOf y=L.idxOf y:=by rw [List.idxOf_append,if_pos h]
theorem EF {L A:List (List Int)} {y:List Int} (h:y∉L):(L++y::A).idxOf y=L.length:=by
 rw [List.idxOf_append,if_neg h,List.idxOf_cons_self];simp
theorem jk {g:List (List Int)} {k:Int} {x:List Int} {d:Int} : ∀(ls:List Int) (s:EX) (row:List Int) (A:List (List Int)),
  (Vx g k x d ls s row).2=row++ls.map λl=>((((Vx g k x d ls s row).1.1++A).idxOf (Aa x (Af g l)):Nat):Int)
 | [],s,row,A=>by simp [Vx]
 |l::ls,s,row,A=>by
  simp only [Vx]
  split
  ·rename_i hm
   obtain ⟨B,hB⟩:=Tv (g:=g) (k:=k) (x:=x) (d:=d) ls s (row++ [(s.1.idxOf (Aa x (Af g l)):Int)])
   rw [jk ls s _ A,List.append_assoc,List.map_cons,hB,List.append_assoc,yP hm]
   rfl
  ·rename_i hm
   obtain ⟨B,hB⟩:=Tv (g:=g) (k:=k) (x:=x) (d:=d) ls (s.1++ [Aa x (Af g l)],s.2.1++ [d+1],s.2.2.1++ [k],s.2.2.2++ [l]) (row++ [(s.1.length:Int)])
   rw [jk ls _ _ A,List.append_assoc,List.map_cons,hB]
   dsimp only
   rw [List.append_assoc,List.append_assoc,List.singleton_append,List.cons_append,EF hm]
   try rfl
theorem qx {g:List (List Int)} {ls:List Int} : ∀(f k:Nat) (s:EX) (N:List (List Int)),∃A,(Xh g ls f k s N).1.1=s.1++A
 |0,k,s,N=>⟨[],by simp [Xh]⟩
 |f+1,k,s,N=>by
  simp only [Xh]
  split
  ·obtain ⟨A,hA⟩:=Tv (g:=g) (k:=(k:Int)) (x:=s.1.getD k []) (d:=s.2.1.getD k 0) ls s []
   obtain ⟨B,hB⟩:=qx (g:=g) (ls:=ls) f (k+1) (Vx g (k:Int) (s.1.getD k []) (s.2.1.getD k 0) ls s []).1 (N++ [(Vx g (k:Int) (s.1.getD k []) (s.2.1.getD k 0) ls s []).2])
   exact ⟨A++B,by rw [hB,hA,List.append_assoc]⟩
  ·exact ⟨[],by simp⟩
theorem qy {g:List (List Int)} : ∀(f k:Nat) (s:EX) (N:List (List Int)),(Xh g (Ag g.length) f k s N).1.1.length<=f+k->
  (Xh g (Ag g.length) f k s N).2=N++((Xh g (Ag g.length) f k s N).1.1.drop k).map (qV g (Xh g (Ag g.length) f k s N).1.1)
 |0,k,s,N,h=>by
  simp only [Xh] at h⊢
  rw [List.drop_of_length_le (by omega)]
  simp
 |f+1,k,s,N,h=>by
  simp only [Xh] at h⊢
  split
  ·rename_i hk
   rw [if_pos hk] at h
   obtain ⟨A,hA⟩:=Tv (g:=g) (k:=(k:Int)) (x:=s.1.getD k []) (d:=s.2.1.getD k 0) (Ag g.length) s []
   obtain ⟨B,hB⟩:=qx (g:=g) (ls:=Ag g.length) f (k+1) (Vx g (k:Int) (s.1.getD k []) (s.2.1.getD k 0) (Ag g.length) s []).1 (N++ [(Vx g (k:Int) (s.1.getD k []) (s.2.1.getD k 0) (Ag g.length) s []).2])
   have Ql:=jk (g:=g) (k:=(k:Int)) (x:=s.1.getD k []) (d:=s.2.1.getD k 0) (Ag g.length) s [] B
   rw [<-hB,List.nil_append] at Ql
   rw [qy f (k+1) _ _ (by omega),List.append_assoc]
   congr 1
   generalize hR:Xh g (Ag g.length) f (k+1) _ _=R at*
   have hkR:k<R.1.1.length:=by rw [hB,hA,List.length_append,List.length_append];omega
   rw [List.drop_eq_getElem_cons hkR,List.map_cons,List.singleton_append]
   congr 1
   have e:R.1.1[k]=s.1.getD k []:=by
    rw [<-Cw (d:= []) hkR,hB,hA,List.append_assoc,Ff hk]
   rw [Ql,e]
   rfl
  ·rename_i hk
   rw [List.drop_of_length_le (by show s.1.length<=k;omega)]
   simp
theorem DK {p:PP} (hw:Bi p=true):(Ib p).2.2.2.2.2.2.1=(Ab p).map (qV p.2.2.1 (Ab p)):=by
 have h1:=(su hw).1
 have h2:=oz (Cn hw).1
 have h3:=qy (g:=p.2.2.1) 3001 0 ([upto p.1.toNat],[0],[0],[0]) [] (by
  show (Ib p).2.1.length<=3001+0
  rw [h1];omega)
 have h4:(Xh p.2.2.1 (Ag p.2.2.1.length) 3001 0 ([upto p.1.toNat],[0],[0],[0]) []).1.1=Ab p:=h1
 rw [h4,List.nil_append,List.drop_zero] at h3
 exact h3
noncomputable def Fz (p:PP) (i:Nat):List Int:=qV p.2.2.1 (Ab p) ((Ab p).getD i [])
theorem Ok {p:PP} (hw:Bi p=true):m7 p.2.2.1 (Ag p.2.2.1.length) (Ab p):=by
 obtain ⟨hv,hb⟩:=Cn hw
 have hV:=valid hv
 have hn:=hV.n
 exact Xk hV (ub hv) (fw hv (by rw [Pr];omega) (λy hy=>by have:=Is.1 hy;omega) hb)
theorem GR {p:PP} (hw:Bi p=true):j9 p.2.2.1 (Ag p.2.2.1.length) (Ab p) (cJ p):=by
 obtain ⟨hv,hb⟩:=Cn hw
 have hn:=(valid hv).n
 exact fw hv (by rw [Pr];omega) (λy hy=>by have:=Is.1 hy;omega) hb
theorem zc {p:PP} (hw:Bi p=true) {i:Nat} (hi:i<(Ab p).length) {l:Int} (hl:l∈Ag p.2.2.1.length):
  (Ab p).idxOf (Aa ((Ab p).getD i []) (Af p.2.2.1 l))<(Ab p).length/\
  (Ab p).getD ((Ab p).idxOf (Aa ((Ab p).getD i []) (Af p.2.2.1 l))) []=Aa ((Ab p).getD i []) (Af p.2.2.1 l):=by
 have hm:=(Ok hw).next _ (Jq hi) l hl
 have h1:=List.idxOf_lt_length_of_mem hm
 exact ⟨h1,by rw [Cw h1];exact List.getElem_idxOf h1⟩
theorem iD {p:PP} (hw:Bi p=true):fm (Fz p) (Ab p).length:= λi hi t ht=>by
 obtain ⟨l,hl,rfl⟩:=List.mem_map.1 ht
 have:=(zc hw hi hl).1
 omega
theorem iT {p:PP} (hw:Bi p=true) (Q:List Int->Prop) (hQ: ∀x∈Ab p,Q x-> ∀l∈Ag p.2.2.1.length,Q (Aa x (Af p.2.2.1 l))) {x:List Int} (hx:x∈Ab p) (hq:Q x):
  ∀y∈Ab p,Q y:=by
 have hc:=Ok hw
 have hL:=GR hw
 have up: ∀(j:Nat),j<(Ab p).length->Q ((Ab p).getD j [])->Q ((Ab p).getD 0 []):=by
  intro j
  induction j using Nat.strongRecOn with
  |_ j ih=>
   intro hj hqj
   by_cases e:j=0
   ·subst e;exact hqj
   ·obtain ⟨i,l,h1,h2,h3,_⟩:=hL.par j (by omega) hj
    have hi:i<(Ab p).length:=by omega
    obtain ⟨b1,b2⟩:=hc.back _ (Jq hi) l h2
    refine ih i h1 hi ?_
    have:=hQ _ (Jq hj) hqj _ b1
    rwa [h3,b2] at this
 have down:Q ((Ab p).getD 0 [])-> ∀(j:Nat),j<(Ab p).length->Q ((Ab p).getD j []):=by
  intro h0 j
  induction j using Nat.strongRecOn with
  |_ j ih=>
   intro hj
   by_cases e:j=0
   ·subst e;exact h0
   ·obtain ⟨i,l,h1,h2,h3,_⟩:=hL.par j (by omega) hj
    have hi:i<(Ab p).length:=by omega
    rw [h3]
    exact hQ _ (Jq hi) (ih i h1 hi) l h2
 obtain ⟨j,hj,rfl⟩:=List.mem_iff_getElem.1 hx
 rw [<-Cw (d:= []) hj] at hq
 intro y hy
 obtain ⟨k,hk,rfl⟩:=List.mem_iff_getElem.1 hy
 rw [<-Cw (d:= []) hk]
 exact down (up j hj hq) k hk
theorem PA {p:PP} (hw:Bi p=true) (S:Nat->Bool) {i0:Nat} (OC:i0<(Ab p).length) (hS:S i0=true):
  Iw p.2.2.1 (Ag p.2.2.1.length) (Ab p) (λx=>S ((Ab p).idxOf x)=true) (λx=>(lC (Fz p) S (Ab p).length).getD ((Ab p).idxOf x) 0):=by
 have hd:=SM (S:=S) (iD hw)
 have pj:=(CP hw).nodup
 have hc:=Ok hw
 have ix: ∀ {x:List Int},x∈Ab p->(Ab p).idxOf x<(Ab p).length/\(Ab p).getD ((Ab p).idxOf x) []=x:= λ {x} hx=>by
  have h1:=List.idxOf_lt_length_of_mem hx
  exact ⟨h1,by rw [Cw h1];exact List.getElem_idxOf h1⟩
 have st: ∀x∈Ab p,0<=(lC (Fz p) S (Ab p).length).getD ((Ab p).idxOf x) 0-> ∀l∈Ag p.2.2.1.length,
   0<=(lC (Fz p) S (Ab p).length).getD ((Ab p).idxOf (Aa x (Af p.2.2.1 l))) 0/\
   (lC (Fz p) S (Ab p).length).getD ((Ab p).idxOf (Aa x (Af p.2.2.1 l))) 0<=(lC (Fz p) S (Ab p).length).getD ((Ab p).idxOf x) 0+1:= λx hx h0 l hl=>by
  obtain ⟨i1,i2⟩:=ix hx
  have:=hd.done _ i1 h0 (by simp) (λh=>h) (((Ab p).idxOf (Aa x (Af p.2.2.1 l)):Nat):Int) (List.mem_map.2 ⟨l,hl,by rw [i2]⟩)
  rwa [Int.toNat_natCast] at this
 have nn: ∀x∈Ab p,0<=(lC (Fz p) S (Ab p).length).getD ((Ab p).idxOf x) 0:=by
  refine iT hw _ (λx hx h0 l hl=>(st x hx h0 l hl).1) (Jq OC) ?_
  rw [Jc pj OC,hd.src i0 OC hS]
  exact Int.le_refl _
 refine ⟨nn,λx hx=>⟨λh0=>hd.RM _ (ix hx).1 h0,λhs=>hd.src _ (ix hx).1 hs⟩,λx hx l hl=>(st x hx (nn x hx) l hl).2,λx hx h0=>?_⟩
 obtain ⟨j,j1,j2,j3⟩:=hd.par _ (ix hx).1 h0
 obtain ⟨l,hl,ZA⟩:=List.mem_map.1 j2
 obtain ⟨n1,n2⟩:=zc hw j1 hl
 have e:(Ab p).idxOf (Aa ((Ab p).getD j []) (Af p.2.2.1 l))=(Ab p).idxOf x:=by omega
 obtain ⟨b1,b2⟩:=hc.back _ (Jq j1) l hl
 rw [e,(ix hx).2] at n2
 refine ⟨-l,b1,?_⟩
 have e5:Aa x (Af p.2.2.1 (-l))=(Ab p).getD j []:=(congrArg (λz=>Aa z (Af p.2.2.1 (-l))) n2).trans b2
 rw [e5,Jc pj j1,j3]
end Go.Proofs.Ytjbdmibbbpdnnaa

namespace Go.Proofs.Ytjbdmibbbpdnnaa
open Go.RowKit
abbrev tGD:Ty:= .clo 120 (.pair (.ptr tL) (.pair (.ptr (.optr Wv)) .unit))
def IH (e:Option XP):Prop:= ∃e':XP,e=some e'/\rV e'
noncomputable def Nc (goal:List Int) (e:Option XP) (i:Int):Bool:=match e with|some e=>Wn goal ((Ab e.1).getD i.toNat [])|none=>false
def CY (goal:List Int) (e:Option XP):Prop:= ∃e':XP,e=some e'/\rV e'/\Fh e'.1.1 goal=true
def UD (e:Option XP):Nat:=match e with|some e=>e.2.1.length|none=>0
noncomputable abbrev nW:Spec:=Cu (.pair tI (.pair (.ptr tL) (.pair (.ptr (.optr Wv)) .unit))) .bool false true (λx=>CY x.2.1 x.2.2.1/\0<=x.1/\x.1<UD x.2.2.1) (λx=>Nc x.2.1 x.2.2.1 x.1)
noncomputable def cK (e:Option XP) (S:Nat->Bool):List Int:=match e with|some e=>lC (Fz e.1) S (Ab e.1).length|none=> []
noncomputable abbrev Vo:Spec:=Cu (.pair (.optr Wv) (.pair tGD .unit)) tL false true (λx=>IH x.1/\x.2.1.2.1=x.1/\CY x.2.1.1 x.1) (λx=>cK x.1 λi=>Nc x.2.1.1 x.1 (i:Int))
noncomputable abbrev Nu:Spec:=Cu (.pair (.optr Wv) (.pair tL .unit)) tL false true (λx=>CY x.2.1 x.1) (λx=>cK x.1 λi=>Nc x.2.1 x.1 (i:Int))
abbrev tDs:Ty:= .clo 119 (.pair (.ptr tL) (.pair (.ptr tI) .unit))
noncomputable abbrev rz:Spec:=Cu (.pair tI (.pair (.ptr tL) (.pair (.ptr tI) .unit))) .bool false true (λx=>(0<=x.1/\x.1<List.length x.2.1)/\0<=x.2.2.1/\x.2.2.1<List.length x.2.1) (λx=>decide (Cb x.2.1 x.1<Cb x.2.1 x.2.2.1))
noncomputable abbrev jV:Spec:=Cu (.pair tL (.pair tDs .unit)) tI false true (λx=>short x.1/\Hb (List.length x.2.1.1) x.1/\0<=x.2.1.2.1/\x.2.1.2.1<List.length x.2.1.1) (λx=>Bw (λy=>decide (Cb x.2.1.1 y<Cb x.2.1.1 x.2.1.2.1)) x.1 0)
def Us (N:Nat->List Int) (ls d:List Int):Nat->Int->List Int->List Int×Int
 |0,i,w=>(w,i)
 |f+1,i,w=>if 0<Cb d i then Us N ls d f ((N i.toNat).getD (Bw (λy=>decide (Cb d y<Cb d i)) (N i.toNat) 0).toNat 0) (w++ [ls.getD (Bw (λy=>decide (Cb d y<Cb d i)) (N i.toNat) 0).toNat 0]) else (w,i)
noncomputable def Tw (p:PP) (d:List Int) (i:Int):List Int×Int×Bool×Unit:=
 if Cb d i>200 then ([],0,false,()) else ((Us (Fz p) (Ag p.2.2.1.length) d (Cb d i).toNat i []).1,(Us (Fz p) (Ag p.2.2.1.length) d (Cb d i).toNat i []).2,true,())
noncomputable def tb (e:Option XP) (d:List Int) (i:Int):(List Int×Int×Bool×Unit)×Unit:=match e with|some e=>(Tw e.1 d i,())|none=>(([],0,false,()),())
structure xV (p:PP) (d:List Int):Prop where
 len:d.length=(Ab p).length
 nn: ∀i,i<d.length->0<=d.getD i 0
 dn: ∀i,i<d.length->0<d.getD i 0-> ∃t∈Fz p i,d.getD t.toNat 0<d.getD i 0
noncomputable abbrev Qv:MSpec:=xT [none,none,none] [(false, .Gt (.optr Wv)),(false, .Gt tL),(false, .Gt tI)] true [none,none,none] [rL, .Gt tI, .Gt .bool]
 (λx=> ∃e':XP,x.1=some e'/\rV e'/\xV e'.1 x.2.1/\0<=x.2.2.1/\x.2.2.1<List.length x.2.1) (λx=>tb x.1 x.2.1 x.2.2.1)
theorem Ad3 (i:Int) (goal:List Int) (e:Option XP) (P:Bool->Prop):(∃(y4:(Int×ByteArray×List (List Int)×PUnit)×List (List Int)×List Int×(ByteArray->Option Int)×List Int×List Int×List (List Int)×PUnit),e=some y4/\ ∃(y5:List Int),idx y4.2.1 i=some y5/\ ∃(y6:Bool),Oi.fn (goal,y5,())=some y6/\P y6)=fnW Co (look [(121,Oi)]) nW Try.f120 (i,goal,e,()) P:=by kernel_rfl
abbrev km:Type:=(Int×ByteArray×List (List Int)×PUnit)×List (List Int)×List Int×(ByteArray->Option Int)×List Int×List Int×List (List Int)×PUnit
theorem NJ (e:Option XP) (c:List Int×Option XP×Unit) (P:List Int->Prop):(∃(y3:km),e=some y3/\ ∃(y4:(List Int×PUnit)×PUnit),Za.fn (List.take 1 (List.drop 0 [(-1:Int)]),(↑y3.2.1.length:Int),())=some y4/\ ∃(y5:km),e=some y5/\ ∃(y6:Int),Nj.fn (y5.2.1,())=some y6/\0=0/\y4.1.1.length=y4.1.1.length/\0=0/\(List.take 0 (List.drop 0 ([]:List Int))).length=(List.take 0 (List.drop 0 ([]:List Int))).length/\Bn (λ(v7:Int×List Int×List Int×PUnit) (k8:Int×List Int×List Int×PUnit->Prop)=>Br (decide (v7.1<y6)) (∃(y9:Bool),nW.fn (v7.1,c.1,c.2.1,())=some y9/\Br y9 (((0:Int)<=v7.1/\v7.1<(↑v7.2.2.1.length:Int))/\0+v7.1.toNat<v7.2.2.1.length/\0=0/\v7.2.1.length=v7.2.1.length/\v7.2.1.length+(List.take 1 (List.drop 0 [v7.1])).length<=Bp/\0=0/\v7.2.2.1.length=(v7.2.2.1.set (0+v7.1.toNat) (0:Int)).length/\0=0/\(List.take (v7.2.1++List.take 1 (List.drop 0 [v7.1])).length (List.drop 0 (v7.2.1++List.take 1 (List.drop 0 [v7.1])))).length=(List.take (v7.2.1++List.take 1 (List.drop 0 [v7.1])).length (List.drop 0 (v7.2.1++List.take 1 (List.drop 0 [v7.1])))).length/\k8 (IntKind.i64.wrap (v7.1+(1:Int)),List.take (v7.2.1++List.take 1 (List.drop 0 [v7.1])).length (List.drop 0 (v7.2.1++List.take 1 (List.drop 0 [v7.1]))),v7.2.2.1.set (0+v7.1.toNat) (0:Int),())) (0=0/\v7.2.2.1.length=v7.2.2.1.length/\0=0/\(List.take v7.2.1.length (List.drop 0 v7.2.1)).length=(List.take v7.2.1.length (List.drop 0 v7.2.1)).length/\k8 (IntKind.i64.wrap (v7.1+(1:Int)),List.take v7.2.1.length (List.drop 0 v7.2.1),v7.2.2.1,()))) (0=0/\v7.2.2.1.length=v7.2.2.1.length/\0=0/\(List.take v7.2.1.length (List.drop 0 v7.2.1)).length=(List.take v7.2.1.length (List.drop 0 v7.2.1)).length/\Bn (λ(v9:List Int×List Int×PUnit) (k10:List Int×List Int×PUnit->Prop)=>Br (decide ((↑v9.1.length:Int)>(0:Int))) (∃(kr:km),e=some kr/\((0:Int)<=(0:Int)/\(0:Int)<(↑v9.1.length:Int))/\ ∃(dC:Int),v9.1[0+Int.toNat (0:Int)]?=some dC/\ ∃(fg:List Int),idx kr.2.2.2.2.2.2.1 dC=some fg/\0=0/\v9.2.1.length=v9.2.1.length/\0=0/\(List.take v9.1.length (List.drop 0 v9.1)).length=(List.take v9.1.length (List.drop 0 v9.1)).length/\Bn (λ(Vz:Int×List Int×List Int×PUnit) (k15:Int×List Int×List Int×PUnit->Prop)=>Br (decide (Vz.1<(↑fg.length:Int))) (∃(fh:Int),idx fg Vz.1=some fh/\((0:Int)<=fh/\fh<(↑Vz.2.2.1.length:Int))/\ ∃(CX:Int),Vz.2.2.1[0+fh.toNat]?=some CX/\Br (decide (CX<(0:Int))) (((0:Int)<=(0:Int)/\(0:Int)<(↑Vz.2.1.length:Int))/\ ∃(ID:Int),Vz.2.1[0+Int.toNat (0:Int)]?=some ID/\((0:Int)<=ID/\ID<(↑Vz.2.2.1.length:Int))/\ ∃(SG:Int),Vz.2.2.1[0+ID.toNat]?=some SG/\((0:Int)<=fh/\fh<(↑Vz.2.2.1.length:Int))/\0+fh.toNat<Vz.2.2.1.length/\0=0/\Vz.2.1.length=Vz.2.1.length/\Vz.2.1.length+(List.take 1 (List.drop 0 [fh])).length<=Bp/\0=0/\Vz.2.2.1.length=(Vz.2.2.1.set (0+fh.toNat) (IntKind.i64.wrap (SG+(1:Int)))).length/\0=0/\(List.take (Vz.2.1++List.take 1 (List.drop 0 [fh])).length (List.drop 0 (Vz.2.1++List.take 1 (List.drop 0 [fh])))).length=(List.take (Vz.2.1++List.take 1 (List.drop 0 [fh])).length (List.drop 0 (Vz.2.1++List.take 1 (List.drop 0 [fh])))).length/\k15 (IntKind.i64.wrap (Vz.1+(1:Int)),List.take (Vz.2.1++List.take 1 (List.drop 0 [fh])).length (List.drop 0 (Vz.2.1++List.take 1 (List.drop 0 [fh]))),Vz.2.2.1.set (0+fh.toNat) (IntKind.i64.wrap (SG+(1:Int))),())) (0=0/\Vz.2.2.1.length=Vz.2.2.1.length/\0=0/\(List.take Vz.2.1.length (List.drop 0 Vz.2.1)).length=(List.take Vz.2.1.length (List.drop 0 Vz.2.1)).length/\k15 (IntKind.i64.wrap (Vz.1+(1:Int)),List.take Vz.2.1.length (List.drop 0 Vz.2.1),Vz.2.2.1,()))) (((0:Int)<=(1:Int)/\(1:Int)<=(↑Vz.2.1.length:Int)/\(↑Vz.2.1.length:Int)<=(↑Vz.2.1.length:Int))/\0=0/\Vz.2.2.1.length=Vz.2.2.1.length/\0=0/\(List.take ((↑Vz.2.1.length:Int).toNat-Int.toNat (1:Int)) (List.drop (0+Int.toNat (1:Int)) Vz.2.1)).length=(List.take ((↑Vz.2.1.length:Int).toNat-Int.toNat (1:Int)) (List.drop (0+Int.toNat (1:Int)) Vz.2.1)).length/\k10 (List.take ((↑Vz.2.1.length:Int).toNat-Int.toNat (1:Int)) (List.drop (0+Int.toNat (1:Int)) Vz.2.1),Vz.2.2.1,()))) ((0:Int),List.take v9.1.length (List.drop 0 v9.1),v9.2.1,PUnit.unit)) (P (List.take v9.2.1.length (List.drop 0 v9.2.1)))) (List.take v7.2.1.length (List.drop 0 v7.2.1),v7.2.2.1,PUnit.unit))) ((0:Int),List.take 0 (List.drop 0 []),y4.1.1,PUnit.unit))=fnW (XX [Hr+6]) (look [(122,Za),(58,Nj),(120,nW)]) Vo Try.f71 (e,c,()) P:=by kernel_rfl
theorem AD (e:Option XP) (goal:List Int) (P:List Int->Prop):(∃(y3:List Int),Vo.fn (e,(goal,e,()),())=some y3/\P y3)=fnW Co (look [(71,Vo)]) Nu Try.f68 (e,goal,()) P:=by kernel_rfl
theorem Ad0 (y:Int) (d:List Int) (i:Int) (P:Bool->Prop):(∃(y4:Int),idx d y=some y4/\ ∃(y5:Int),idx d i=some y5/\P (decide (y4<y5)))=fnW Co (look []) rz Try.f119 (y,d,i,()) P:=by kernel_rfl
theorem YI (xs:List Int) (c:List Int×Int×Unit) (P:Int->Prop):(Bn (λ(v3:Int×PUnit) (k4:Int×PUnit->Prop)=>Br (decide (v3.1<(↑xs.length:Int))) (∃(y5:Int),idx xs v3.1=some y5/\ ∃(y6:Bool),rz.fn (y5,c.1,c.2.1,())=some y6/\Br y6 (P v3.1) (k4 (IntKind.i64.wrap (v3.1+(1:Int)),()))) (P (-1:Int))) ((0:Int),PUnit.unit))=fnW Co (look [(119,rz)]) jV Try.f118 (xs,c,()) P:=by kernel_rfl
abbrev gq:Type:=(Int×ByteArray×List (List Int)×PUnit)×List (List Int)×List Int×(ByteArray->Option Int)×List Int×List Int×List (List Int)×PUnit
theorem HF (e:Option XP) (d:List Int) (i:Int) (P:((List Int×Int×Bool×Unit)×Unit)->Prop):(∃(y4:Int),idx d i=some y4/\Br (decide (y4>(200:Int))) (P ((List.take 0 (List.drop 0 []),(0:Int),false,()),())) (∃(y5:gq),e=some y5/\ ∃(y6:List Int),Ih.fn ((↑y5.1.2.2.1.length:Int),())=some y6/\0=0/\0=([]:List Int).length/\Bn (λ(v7:List Int×Int×List Int×PUnit) (k8:List Int×Int×List Int×PUnit->Prop)=> ∃(y9:Int),idx v7.1 v7.2.1=some y9/\Br (decide (y9>(0:Int))) (∃(j4:gq),e=some j4/\ ∃(kr:List Int),idx j4.2.2.2.2.2.2.1 v7.2.1=some kr/\ ∃(dC:Int),jV.fn (kr,(v7.1,v7.2.1,()),())=some dC/\ ∃(fg:Int),idx y6 dC=some fg/\0=0/\v7.2.2.1.length=v7.2.2.1.length/\v7.2.2.1.length+(List.take 1 (List.drop 0 [fg])).length<=Bp/\ ∃(Zi:gq),e=some Zi/\ ∃(dD:List Int),idx Zi.2.2.2.2.2.2.1 v7.2.1=some dD/\ ∃(fh:Int),idx dD dC=some fh/\0=0/\(v7.2.2.1++List.take 1 (List.drop 0 [fg])).length=(v7.2.2.1++List.take 1 (List.drop 0 [fg])).length/\k8 (v7.1,fh,v7.2.2.1++List.take 1 (List.drop 0 [fg]),())) (P ((List.take v7.2.2.1.length (List.drop 0 v7.2.2.1),v7.2.1,true,()),()))) (d,i,[],PUnit.unit)))=fnMW um (look [(117,Ih),(118,jV)]) Qv Try.f67 (e,d,i,()) P:=by kernel_rfl
theorem SN {e:XP} (h:rV e):e.2.1=Ab e.1:=(congrArg (λz:XP=>z.2.1) h.2).trans (su h.1).1
theorem PB {e:XP} (h:rV e):e.2.2.2.2.2.2.1=(Ab e.1).map (qV e.1.2.2.1 (Ab e.1)):=(congrArg (λz:XP=>z.2.2.2.2.2.2.1) h.2).trans (DK h.1)
theorem JC {e:XP} (h:rV e) {i:Nat} (hi:i<(Ab e.1).length):idx e.2.2.2.2.2.2.1 (i:Int)=some (Fz e.1 i):=by
 rw [PB h,Ap (by rw [List.length_map];exact hi),List.getElem_map]
 unfold Fz
 rw [Cw hi]
theorem nA (p:PP) (i:Nat):(Fz p i).length=(Ag p.2.2.1.length).length:=by unfold Fz qV;rw [List.length_map]
theorem cG {p:PP} (hV:Valid p):(Ag p.2.2.1.length).length<=16:=by rw [Ks];have:=hV.oU;omega
theorem Acd (i:Int) (goal:List Int) (e:Option XP) (h:CY goal e/\0<=i/\i<UD e):fnW Co (look [(121,Oi)]) nW Try.f120 (i,goal,e,()) (λ(z:Bool)=>z=Nc goal e i):=by
 obtain ⟨⟨e',rfl,hx,hp⟩,h1,h2⟩:=h
 obtain ⟨k,rfl⟩:=Int.eq_ofNat_of_zero_le h1
 have Pc:=SN hx
 have h2:((k:Nat):Int)<(e'.2.1.length:Int):=h2
 rw [Pc] at h2
 have hk:k<(Ab e'.1).length:=by omega
 have hv:=(Cn hx.1).1
 have EC:=CQ hv (List.getElem_mem hk)
 have ht:=Fy (Kb.2 ⟨hv,hp⟩)
 refine Eq.mp (Ad3 _ _ _ _) ⟨e',rfl,(Ab e'.1)[k],by rw [Pc];exact Ap hk,_,if_pos ⟨by show goal.length<=4294967296;omega,x5 EC,PF hv EC hp⟩,?_⟩
 show Wn goal (Ab e'.1)[k]=Wn goal ((Ab e'.1).getD ((k:Nat):Int).toNat [])
 rw [Int.toNat_natCast,Cw hk]
theorem GI:Sound Try.prog 120 nW:=
 Sound.Cu Bj (Ah lI Aq) mixed Try.func120 (by kernel_rfl) (by kernel_rfl) λx h=>Acd x.1 x.2.1 x.2.2.1 h
def NW (S:Nat->Bool) (i:Nat):List Int:=((List.range i).filter S).map λ(k:Nat)=>(k:Int)
theorem vD (S:Nat->Bool) (i:Nat):NW S (i+1)=if S i=true then NW S i++ [(i:Int)] else NW S i:=by
 unfold NW
 rw [List.range_succ,List.filter_append]
 by_cases h:S i=true
 ·rw [if_pos h];simp [h]
 ·rw [if_neg h];simp [h]
theorem OY (S:Nat->Bool) (i:Nat):(NW S i).length<=i:=by
 unfold NW
 rw [List.length_map]
 exact Nat.le_trans (List.length_filter_le _ _) (by simp)
theorem RL {xs:List Int} {i:Nat} {v:Int} {m:Nat} (hl:xs.length=m) (hi:i<m) {f g:Nat->Int} (h: ∀k,k<m->xs.getD k 0=f k) (hg:g i=v) (Ex: ∀k,k≠i->g k=f k): ∀k,k<m->(xs.set i v).getD k 0=g k:= λk hk=>by
 rw [dL (by omega)]
 by_cases e:i=k
 ·subst e;rw [if_pos rfl,hg]
 ·rw [if_neg e,h k hk,Ex k λe'=>e e'.symm]
theorem EP {xs ys:List Int} (h1:xs.length=ys.length) (h: ∀k,k<xs.length->xs.getD k 0=ys.getD k 0):xs=ys:=
 List.ext_getElem h1 λk h2 h3=>by have:=h k h2;rwa [Cw h2,Cw h3] at this
theorem ZX {xs:List Int} {k:Nat} (h:k<xs.length):xs[0+((k:Nat):Int).toNat]?=some (xs.getD k 0):=by
 rw [Nat.zero_add,Int.toNat_natCast,List.getElem?_eq_getElem h,Cw h]
theorem LO (e:Option XP) (c:List Int×Option XP×Unit) (h:IH e/\c.2.1=e/\CY c.1 e):fnW (XX [Hr+6]) (look [(122,Za),(58,Nj),(120,nW)]) Vo Try.f71 (e,c,()) (λ(z:List Int)=>z=cK e λi=>Nc c.1 e (i:Int)):=by
 obtain ⟨⟨e',rfl,hx⟩,hce,OA⟩:=h
 obtain ⟨goal,ce,⟨⟩⟩:=c
 dsimp only at hce OA
 subst hce
 have Pc:=SN hx
 have hwv:=Cn hx.1
 have hm3:=oz hwv.1
 have TN:=MN hwv.1
 have hR:=iD hx.1
 have hV:=valid hwv.1
 have hlf:=cG hV
 obtain ⟨m,hm⟩: ∃m,(Ab e'.1).length=m:=⟨_,rfl⟩
 obtain ⟨S,hS⟩: ∃S:Nat->Bool,(λ(i:Nat)=>Nc goal (some e') (i:Int))=S:=⟨_,rfl⟩
 have hSi: ∀i:Nat,Nc goal (some e') (i:Int)=S i:= λi=>congrFun hS i
 show fnW _ _ Vo _ _ (λz=>z=lC (Fz e'.1) (λi=>Nc goal (some e') (i:Int)) (Ab e'.1).length)
 rw [hS]
 have Na: ∀i:Nat,i<m->nW.fn ((i:Int),goal,some e',())=some (S i):= λi hi=>by
  refine (if_pos ⟨OA,by show (0:Int)<=i;omega,?_⟩).trans (congrArg some (hSi i))
  show (i:Int)<((e'.2.1.length:Nat):Int)
  rw [Pc];omega
 rw [hm] at hm3 TN hR⊢
 refine Eq.mp (NJ _ _ _) ⟨e',rfl,((List.replicate m (-1),()),()),?_,e',rfl,(m:Int),?_,rfl,rfl,rfl,rfl,?_⟩
 ·rw [Pc,hm]
  refine (if_pos ⟨⟨-1,rfl⟩,by show (1:Int)<=m;omega,by show (m:Int)<=100000;omega⟩).trans ?_
  show some ((List.replicate ((m:Int)).toNat (-1),()),())=_
  rw [Int.toNat_natCast]
 ·exact (if_pos trivial).trans (congrArg some (by show ((e'.2.1.length:Nat):Int)=m;rw [Pc,hm]))
 refine Am m (λv=>v.1) (λj v=>v.2.1=NW S j/\v.2.2.1.length=m/\ ∀k,k<m->v.2.2.1.getD k 0=if k<j/\S k=true then 0 else-1) rfl ⟨rfl,by simp,λk hk=>?_⟩ ?_
 ·rw [if_neg (by omega),Cw (by simpa using hk),List.getElem_replicate]
 rintro j ⟨i,q,out,⟨⟩⟩ K hj hi ⟨h1,h2,h3⟩ hK
 dsimp only at hi h1 h2 h3⊢
 subst hi h1
 have hql:=OY S j
 refine Br.dec (λhl=>?_) λhl=>⟨rfl,rfl,rfl,rfl,?_⟩
 ·have hl:j<m:=by omega
  refine ⟨S j,Na j hl,Br.of (λhs=>?_) λhs=>?_⟩
  ·refine ⟨⟨by omega,by omega⟩,by rw [Int.toNat_natCast];omega,rfl,rfl,by show (NW S j).length+1<=4294967296;omega,rfl,by rw [List.length_set],rfl,rfl,?_⟩
   rw [Cc,Al (by omega),Int.toNat_natCast,Nat.zero_add]
   refine hK hl _ rfl ⟨?_,by rw [List.length_set];exact h2,?_⟩
   ·show NW S j++ [(j:Int)]=_
    rw [vD,if_pos hs]
   ·refine RL h2 hl h3 (by rw [if_pos ⟨by omega,hs⟩]) λk hk=>?_
    by_cases hc:k<j/\S k=true
    ·rw [if_pos hc,if_pos ⟨by omega,hc.2⟩]
    ·rw [if_neg hc,if_neg λh=>hc ⟨by omega,h.2⟩]
  ·refine ⟨rfl,rfl,rfl,rfl,?_⟩
   rw [Cc,Al (by omega)]
   refine hK hl _ rfl ⟨?_,h2,λk hk=>?_⟩
   ·show NW S j=_
    rw [vD,if_neg (by rw [hs];decide)]
   ·rw [h3 k hk]
    by_cases hc:k<j/\S k=true
    ·rw [if_pos hc,if_pos ⟨by omega,hc.2⟩]
    ·rw [if_neg hc,if_neg λh=>hc ⟨by
      by_cases e:k=j
      ·subst e;rw [hs] at h;exact absurd h.2 (by decide)
      ·omega,h.2⟩]
 ·have:j=m:=by omega
  subst this
  have sG:out=HV S j:=EP (by rw [h2];simp [HV]) λk hk=>by
   rw [h3 k (by omega),Ut (by omega)]
   by_cases hs:S k=true
   ·rw [if_pos ⟨by omega,hs⟩,if_pos hs]
   ·rw [if_neg λh=>hs h.2,if_neg hs]
  subst sG
  rw [Cc]
  show Bn _ (OX S j,HV S j,PUnit.unit)
  refine Bn.mk (λv=> ∃(q out:List Int) (f T:Nat),v=(q,out,())/\DQ (Fz e'.1) S j out q/\q.length+ar out<f/\DJ (Fz e'.1) f out q=lC (Fz e'.1) S j/\T+(q.length+ar out)<=j/\ ∀i,i<j->out.getD i 0<=T) (λv=>v.1.length+ar v.2.1)
   ⟨OX S j,HV S j,j+1,0,rfl,vC _ _ _,by rw [LG];omega,rfl,by rw [LG];omega,λi hi=>by rw [Ut hi];split<;>omega⟩ ?_
  rintro v ⟨q,out,f,T,rfl,g1,g2,g3,g4,g5⟩
  dsimp only
  have hol:=g1.base.len
  refine Br.dec (λhl=>?_) λhl=>?_
  ·obtain ⟨x,q',rfl⟩: ∃x q',q=x::q':=by
    cases q with
    |nil=>simp at hl
    |cons x q'=>exact ⟨x,q',rfl⟩
   obtain ⟨x1,x2,x3⟩:=g1.base.inq x (by simp)
   obtain ⟨xn,rfl⟩:=Int.eq_ofNat_of_zero_le x1
   have CC:xn<j:=by omega
   rw [Int.toNat_natCast] at x3
   obtain ⟨f,rfl⟩: ∃f',f=f'+1:=⟨f-1,by omega⟩
   simp only [DJ,Int.toNat_natCast] at g3
   simp only [List.length_cons] at g2 g4
   refine ⟨e',rfl,⟨by omega,by omega⟩,(xn:Int),by simp,Fz e'.1 xn,JC hx (by omega),rfl,rfl,rfl,rfl,?_⟩
   rw [Cc]
   obtain ⟨o1,o2⟩:=List.pairwise_cons.1 g1.base.ord
   simp only [Int.toNat_natCast] at o1
   have hX0:DX (Fz e'.1) S j xn (out.getD xn 0) out q':=by
    refine ⟨⟨g1.base.len,g1.base.ge,λy hy=>g1.base.inq y (List.mem_cons_of_mem _ hy),g1.base.src,g1.base.RM,g1.base.par,λi hi h0 hn hw=>g1.base.done i hi h0 (λhm=>?_) (λh=>h),o2⟩,CC,rfl,x3,o1,?_⟩
    ·rcases List.mem_cons.1 hm with e|hm
     ·exact hw (by omega)
     ·exact hn hm
    ·have:=g1.hi (xn:Int) q' rfl
     rwa [Int.toNat_natCast] at this
   have hnl:(Fz e'.1 xn).length<=16:=by rw [nA];exact hlf
   obtain ⟨d,hd⟩: ∃d,out.getD xn 0=d:=⟨_,rfl⟩
   rw [hd] at hX0
   have hdT:d<=T:=by rw [<-hd];exact g5 xn CC
   refine Am (Fz e'.1 xn).length (λv=>v.1) (λk v=> ∃(qq o:List Int),v=((k:Int),(xn:Int)::qq,o,())/\DX (Fz e'.1) S j xn d o qq/\qq.length+ar o=q'.length+ar out/\
     Tk (xn:Int) ((Fz e'.1 xn).drop k) (o,qq)=Tk (xn:Int) (Fz e'.1 xn) (out,q')) rfl ⟨q',out,rfl,hX0,rfl,by rw [List.drop_zero]⟩ ?_
   rintro k v K2 hk hki ⟨qq,o,rfl,hX,hc,Nq⟩ hK2
   dsimp only
   have hXb:=hX.base.len
   refine Br.dec (λJa=>?_) λJa=>?_
   ·have Ja:k<(Fz e'.1 xn).length:=by omega
    have ZK:=hR xn CC _ (List.getElem_mem Ja)
    obtain ⟨tn,WK⟩:=Int.eq_ofNat_of_zero_le ZK.1
    have htj:tn<j:=by omega
    rw [List.drop_eq_getElem_cons Ja] at Nq
    simp only [Tk] at Nq
    have ZE:o.getD ((xn:Nat):Int).toNat 0=d:=by rw [Int.toNat_natCast];exact hX.Rx
    refine ⟨_,Ap Ja,?_⟩
    rw [WK] at Nq⊢
    rw [Int.toNat_natCast] at Nq
    refine ⟨⟨by omega,by omega⟩,o.getD tn 0,ZX (by omega),Br.dec (λly=>?_) λly=>?_⟩
    ·rw [if_pos ly,ZE] at Nq
     have BZ:=BC hR hX (List.getElem_mem Ja) ZK (by rw [WK,Int.toNat_natCast];exact ly)
     rw [WK,Int.toNat_natCast] at BZ
     have ZC:=wI (xs:=o) (i:=tn) (v:=d+1) (by omega) ly (by have:=hX.d0;omega)
     have hd0:=hX.d0
     refine ⟨⟨by omega,by simp only [List.length_cons];omega⟩,(xn:Int),by simp,⟨by omega,by omega⟩,d,by rw [ZX (by omega),<-hX.Rx],⟨by omega,by omega⟩,by rw [Int.toNat_natCast];omega,rfl,rfl,?_,rfl,by rw [List.length_set],rfl,rfl,?_⟩
     ·show qq.length+1+1<=4294967296
      omega
     ·rw [Cc,Al (by omega),Int.toNat_natCast,Nat.zero_add,Bt (n:=d+1) (by omega) (by omega)]
      refine hK2 Ja _ rfl ⟨qq++ [(tn:Int)],o.set tn (d+1),rfl,BZ,?_,Nq⟩
      rw [List.length_append,List.length_singleton]
      omega
    ·rw [if_neg ly] at Nq
     refine ⟨rfl,rfl,rfl,rfl,?_⟩
     rw [Cc,Al (by omega)]
     exact hK2 Ja _ rfl ⟨qq,o,rfl,hX,hc,Nq⟩
   ·have Ja:k=(Fz e'.1 xn).length:=by omega
    subst Ja
    rw [List.drop_length,Tk] at Nq
    rw [<-Nq] at g3
    have Ab4:=(IZ hR g1).1
    rw [Int.toNat_natCast,<-Nq] at Ab4
    have ht:List.take ((((xn:Int)::qq).length:Int).toNat-Int.toNat (1:Int)) (List.drop (0+Int.toNat (1:Int)) ((xn:Int)::qq))=qq:=by
     rw [Int.toNat_natCast,List.length_cons]
     show List.take (qq.length+1-1) qq=qq
     rw [Nat.add_sub_cancel,List.take_length]
    rw [ht]
    refine ⟨⟨by omega,by simp only [List.length_cons];omega,by omega⟩,rfl,rfl,rfl,rfl,⟨qq,o,f,T+1,rfl,Ab4,by omega,g3,by omega,λi hi=>?_⟩,?_⟩
    ·have:=hX.hi i hi
     push_cast
     omega
    ·show qq.length+ar o<((xn:Int)::q').length+ar out
     simp only [List.length_cons]
     omega
  ·have:q= []:=by
    cases q with
    |nil=>rfl
    |cons x q'=>simp at hl
   subst this
   rw [Cc]
   cases f with
   |zero=>exact g3
   |succ f=>exact g3
theorem tX:Sound Try.prog 71 Vo:=
 Sound.Cu (XY [Hr+6]) (My u5 (Ah dj (Ah GI Aq))) mixed Try.func71 (by kernel_rfl) (by kernel_rfl) λx h=>LO x.1 x.2.1 h
theorem zk (e:Option XP) (goal:List Int) (h:CY goal e):fnW Co (look [(71,Vo)]) Nu Try.f68 (e,goal,()) (λ(z:List Int)=>z=cK e λi=>Nc goal e (i:Int)):=by
 obtain ⟨e',rfl,h1,h2⟩:=h
 exact Eq.mp (AD _ _ _) ⟨_,if_pos ⟨⟨e',rfl,h1⟩,rfl,e',rfl,h1,h2⟩,rfl⟩
theorem o9:Sound Try.prog 68 Nu:=
 Sound.Cu Bj (Ah tX Aq) mixed Try.func68 (by kernel_rfl) (by kernel_rfl) λx h=>zk x.1 x.2.1 h
theorem Ac9 (y:Int) (d:List Int) (i:Int) (h:(0<=y/\y<(List.length d:Int))/\0<=i/\i<(List.length d:Int)):fnW Co (look []) rz Try.f119 (y,d,i,()) (λ(z:Bool)=>z=decide (Cb d y<Cb d i)):=
 Eq.mp (Ad0 y d i _) ⟨_,Vb h.1.1 h.1.2,_,Vb h.2.1 h.2.2,rfl⟩
theorem GG:Sound Try.prog 119 rz:=
 Sound.Cu Bj Aq mixed Try.func119 (by kernel_rfl) (by kernel_rfl) λx h=>Ac9 x.1 x.2.1 x.2.2.1 h
theorem XH (xs:List Int) (c:List Int×Int×Unit) (h:short xs/\Hb (List.length c.1) xs/\0<=c.2.1/\c.2.1<(List.length c.1:Int)):fnW Co (look [(119,rz)]) jV Try.f118 (xs,c,()) (λ(z:Int)=>z=Bw (λy=>decide (Cb c.1 y<Cb c.1 c.2.1)) xs 0):=by
 obtain ⟨h,h5,h6⟩:=h
 unfold short at h
 refine Eq.mp (YI xs c _) ?_
 refine Am xs.length (λv=>v.1) (λj _=>Bw (λy=>decide (Cb c.1 y<Cb c.1 c.2.1)) (xs.drop j) j=Bw (λy=>decide (Cb c.1 y<Cb c.1 c.2.1)) xs 0) rfl (by simp) ?_
 rintro j ⟨i,⟨⟩⟩ K hj hi hR hK
 dsimp only at hi⊢
 subst hi
 refine Br.dec (λhl=>?_) λhl=>?_
 ·have hl:j<xs.length:=by omega
  rw [List.drop_eq_getElem_cons hl] at hR
  simp only [Bw] at hR
  refine ⟨_,Ap hl,_,if_pos ⟨h5 _ (List.getElem_mem hl),h6⟩,⟨λhe=>?_,λhe=>?_⟩⟩
  ·have he:decide (Cb c.1 xs[j]<Cb c.1 c.2.1)=true:=he
   rw [if_pos he] at hR
   exact hR
  ·have he:decide (Cb c.1 xs[j]<Cb c.1 c.2.1)=false:=he
   rw [if_neg (by rw [he];decide)] at hR
   rw [Al (by omega)]
   exact hK hl _ rfl (by push_cast;exact hR)
 ·have:j=xs.length:=by omega
  subst this
  rw [List.drop_length] at hR
  exact hR
theorem zP:Sound Try.prog 118 jV:=
 Sound.Cu Bj (Ah GG Aq) mixed Try.func118 (by kernel_rfl) (by kernel_rfl) λx h=>XH x.1 x.2.1 h
theorem jy {α:Type} {P:α->Bool} : ∀(l:List α) (i:Nat),l.any P=true-> ∃k,∃h:k<l.length,Bw P l (i:Int)=((i+k:Nat):Int)/\P l[k]=true/\ ∀j (h:j<k),P (l[j]'(by omega))=false
 | [],i,h=>by simp at h
 |y::r,i,h=>by
  simp only [Bw]
  by_cases hy:P y=true
  ·rw [if_pos hy]
   exact ⟨0,by simp,rfl,hy,λj hj=>absurd hj (Nat.not_lt_zero _)⟩
  ·rw [if_neg hy]
   have hr:r.any P=true:=by
    rw [List.any_cons,Bool.or_eq_true] at h
    exact h.resolve_left hy
   obtain ⟨k,hk,h1,h2,h3⟩:=jy r (i+1) hr
   refine ⟨k+1,by simpa using hk,?_,h2,λj hj=>?_⟩
   ·rw [show ((i:Int)+1)=((i+1:Nat):Int) by push_cast;rfl,h1]
    congr 1
    omega
   ·cases j with
    |zero=>exact Bool.not_eq_true _|>.mp hy
    |succ j=>exact h3 j (by omega)
theorem OW {p:PP} (hw:Bi p=true) {d:List Int} (h:xV p d) {i:Nat} (hi:i<d.length) (hp:0<d.getD i 0):
  ∃k,∃(h1:k<(Ag p.2.2.1.length).length) (h2:k<(Fz p i).length),Bw (λy=>decide (Cb d y<Cb d (i:Int))) (Fz p i) 0=(k:Int)/\
   ∃t:Nat,(Fz p i)[k]=(t:Int)/\t<d.length/\d.getD t 0<d.getD i 0:=by
 obtain ⟨t,ht,htl⟩:=h.dn i hi hp
 have VA:(Fz p i).any (λy=>decide (Cb d y<Cb d (i:Int)))=true:=List.any_eq_true.2 ⟨t,ht,decide_eq_true htl⟩
 obtain ⟨k,hk,h1,h2,_⟩:=jy (Fz p i) 0 VA
 have hl:=h.len
 obtain ⟨r1,r2⟩:=iD hw i (by omega) _ (List.getElem_mem hk)
 obtain ⟨tn,WK⟩:=Int.eq_ofNat_of_zero_le r1
 refine ⟨k,by rw [<-nA];exact hk,hk,by rw [Nat.zero_add] at h1;exact h1,tn,WK,by omega,?_⟩
 have h2:=of_decide_eq_true h2
 unfold Cb at h2
 rw [WK,Int.toNat_natCast,Int.toNat_natCast] at h2
 exact h2
theorem FD (e:Option XP) (d:List Int) (i:Int) (h: ∃e':XP,e=some e'/\rV e'/\xV e'.1 d/\0<=i/\i<(List.length d:Int)):
  fnMW um (look [(117,Ih),(118,jV)]) Qv Try.f67 (e,d,i,()) (λ(z:(List Int×Int×Bool×Unit)×Unit)=>z=tb e d i):=by
 obtain ⟨e',rfl,hx,hd,h1,h2⟩:=h
 have hwv:=Cn hx.1
 have hV:=valid hwv.1
 have hf:=hV.oU
 have hdl:=hd.len
 refine Eq.mp (HF _ _ _ _) ⟨_,Vb h1 h2,?_⟩
 show Br _ (_=(Tw e'.1 d i,())) _
 unfold tb Tw
 dsimp only
 refine Br.dec (λhb=>by rw [if_pos hb];rfl) λhb=>?_
 rw [if_neg hb]
 refine ⟨e',rfl,Ag e'.1.2.2.1.length,(if_pos ⟨by show (0:Int)<=((e'.1.2.2.1.length:Nat):Int);omega,by show ((e'.1.2.2.1.length:Nat):Int)<=8;omega⟩).trans (congrArg some (by show Ag (((e'.1.2.2.1.length:Nat):Int)).toNat=_;rw [Int.toNat_natCast])),rfl,rfl,?_⟩
 have hnn: ∀k:Nat,k<d.length->0<=Cb d (k:Int):= λk hk=>by unfold Cb;rw [Int.toNat_natCast];exact hd.nn k hk
 obtain ⟨R,hRR⟩: ∃R,Us (Fz e'.1) (Ag e'.1.2.2.1.length) d (Cb d i).toNat i []=R:=⟨_,rfl⟩
 rw [hRR]
 obtain ⟨i0,rfl⟩:=Int.eq_ofNat_of_zero_le h1
 refine Bn.mk (λv=> ∃(k:Nat) (w:List Int) (f:Nat),v=(d,(k:Int),w,())/\k<d.length/\Cb d (k:Int)<=f/\w.length+f<=200/\Us (Fz e'.1) (Ag e'.1.2.2.1.length) d f (k:Int) w=R) (λv=>(Cb d v.2.1).toNat)
  ⟨i0,[],(Cb d (i0:Int)).toNat,rfl,by omega,by omega,by have:=hnn i0 (by omega);simp only [List.length_nil];omega,hRR⟩ ?_
 rintro v ⟨k,w,f,rfl,k1,k2,k3,k4⟩
 dsimp only
 refine ⟨Cb d (k:Int),Vb (by omega) (by omega),Br.dec (λhl=>?_) λhl=>?_⟩
 ·have Gk:0<d.getD k 0:=by unfold Cb at hl;rwa [Int.toNat_natCast] at hl
  obtain ⟨f,rfl⟩: ∃f',f=f'+1:=⟨f-1,by omega⟩
  obtain ⟨n,n1,n2,n3,t,n4,n5,n6⟩:=OW hx.1 hd k1 Gk
  simp only [Us] at k4
  rw [if_pos hl,Int.toNat_natCast,n3,Int.toNat_natCast,Cw n2,n4,Cw n1] at k4
  have hnl:(Fz e'.1 k).length<=16:=by rw [nA];exact cG hV
  have Agb:Hb d.length (Fz e'.1 k):= λy hy=>by
   have:=iD hx.1 k (by omega) y hy
   omega
  refine ⟨e',rfl,Fz e'.1 k,JC hx (by omega),(n:Int),(if_pos ⟨by show (Fz e'.1 k).length<=4294967296;omega,Agb,by show (0:Int)<=(k:Int);omega,by show (k:Int)<(d.length:Int);omega⟩).trans (congrArg some n3),_,Ap n1,rfl,rfl,?_,e',rfl,Fz e'.1 k,JC hx (by omega),(t:Int),by rw [Ap n2,n4],rfl,rfl,?_⟩
  ·show w.length+1<=4294967296;omega
  ·have e6:Cb d (t:Int)<Cb d (k:Int):=by unfold Cb;rw [Int.toNat_natCast,Int.toNat_natCast];exact n6
   have h0:=hnn t n5
   refine ⟨⟨t,w++ [(Ag e'.1.2.2.1.length)[n]],f,rfl,n5,by omega,by rw [List.length_append,List.length_singleton];omega,k4⟩,?_⟩
   show (Cb d (t:Int)).toNat<(Cb d (k:Int)).toNat
   omega
 ·rw [Cc]
  have:Us (Fz e'.1) (Ag e'.1.2.2.1.length) d f (k:Int) w=(w,(k:Int)):=by
   cases f with
   |zero=>rfl
   |succ f=>simp only [Us];rw [if_neg (by omega)]
  rw [this] at k4
  subst k4
  rfl
theorem pR:Dp Try.prog 67 Qv:=
 Dp.xT oI (Ah Xq (Ah zP Aq)) mixed Try.func67 (by kernel_rfl) (by kernel_rfl) λx h=>FD x.1 x.2.1 x.2.2.1 h
end Go.Proofs.Ytjbdmibbbpdnnaa

namespace Go.Proofs.Ytjbdmibbbpdnnaa
open Go.RowKit
theorem Lr {s q t:List Int} (h:Hb s.length t):Cf (Aa s q) t=Aa (Cf s t) q:=by
 unfold Cf Aa
 rw [List.map_map]
 refine List.map_congr_left λy hy=>?_
 obtain ⟨h1,h2⟩:=h y hy
 have hy':y.toNat<s.length:=by omega
 show Cb (s.map (Cb q)) y=Cb q (Cb s y)
 unfold Cb
 rw [Cw (by rw [List.length_map];exact hy'),List.getElem_map,Cw hy']
 try rfl
theorem jO {n:Nat} {t:List Int} (h: ∀y∈t,0<=y/\y<(n:Int)):Cf (upto n) t=t:=by
 unfold Cf
 refine (List.map_congr_left λy hy=>?_).trans (List.map_id t)
 obtain ⟨h1,h2⟩:=h y hy
 obtain ⟨k,rfl⟩:=Int.eq_ofNat_of_zero_le h1
 have hk:k<n:=by omega
 show Cb (upto n) (k:Int)=(k:Int)
 unfold Cb
 rw [Int.toNat_natCast,List.getD_eq_getElem?_getD,oM hk]
 rfl
theorem sat_iff {goal s:List Int} :Wn goal s=true↔Cf s goal=goal:=by
 unfold Wn Cf
 rw [List.all_eq_true]
 constructor
 ·intro h
  exact (List.map_congr_left λy hy=>of_decide_eq_true (h y hy)).trans (List.map_id goal)
 ·intro h y hy
  obtain ⟨j,hj,rfl⟩:=List.mem_iff_getElem.1 hy
  have h2:(goal.map (Cb s))[j]?=goal[j]?:=congrArg (λz:List Int=>z[j]?) h
  rw [List.getElem?_map,List.getElem?_eq_getElem hj] at h2
  exact decide_eq_true (Option.some.inj h2)
theorem cm {p:PP} (hv:Ay p=true):(Ab p).getD 0 []=upto p.1.toNat/\upto p.1.toNat∈Ab p:=by
 obtain ⟨A,h⟩:=(Yw hv).first
 have h:Ab p=upto p.1.toNat::A:=h
 rw [h]
 exact ⟨rfl,by simp⟩
noncomputable def Xl (p:PP) (t:List Int):List (List Int):=(Dr p.2.2.1 t).1
noncomputable def tf (p:PP) (t:List Int):List Int:=(Dr p.2.2.1 t).2.1
noncomputable def Dy (p:PP) (t x:List Int):Int:=kR (Xl p t) (tf p t) x
theorem du {p:PP} {t:List Int} (ht:Dl p t=true): ∀y∈t,0<=y/\y<((p.1.toNat:Nat):Int):= λy hy=>by
 have h1:=(Fy ht).2 y hy
 have:=(valid (Kb.1 ht).1).n
 omega
theorem FO {p:PP} {t:List Int} (hw:Bi p=true) (ht:Dl p t=true):(Dr p.2.2.1 t).2.2=true:=by
 have hv:=(Cn hw).1
 have hV:=valid hv
 obtain ⟨t1,t2⟩:=Fy ht
 have Yn:=nL ht
 obtain ⟨a1,_,a3⟩:=AX hv t1 t2 (λx=> ∃s∈Ab p,x=Cf s t) ⟨_,(cm hv).2,(jO (du ht)).symm⟩ λx ⟨s,hs,hx⟩ l hl=>by
  refine ⟨_,(Ok hw).next s hs l hl,?_⟩
  rw [hx,Lr (dU hv hs ht)]
 refine Classical.byContradiction λhn=>?_
 obtain ⟨h1,z,⟨s,hs,hz⟩,h3⟩:=a3 (by simpa using hn)
 have h5:=cN (l1:=z::(Dr p.2.2.1 t).1) (l2:=(Ab p).map λs=>Cf s t) (List.nodup_cons.2 ⟨h3,Yn.ok.nodup⟩) λx hx=>by
  rcases List.mem_cons.1 hx with rfl|hx
  ·exact List.mem_map.2 ⟨s,hs,hz.symm⟩
  ·obtain ⟨s',qJ,e⟩:=a1 x hx
   exact List.mem_map.2 ⟨s',qJ,e.symm⟩
 have h6:=oz hv
 simp only [List.length_cons,List.length_map] at h5
 omega
theorem Iw.congr {g:List (List Int)} {ls:List Int} {L:List (List Int)} {S S':List Int->Prop} {d:List Int->Int} (h:Iw g ls L S d) (e: ∀x∈L,S x↔S' x):Iw g ls L S' d:=
 ⟨h.nn,λx hx=>(h.zero x hx).trans (e x hx),h.step,h.down⟩
theorem az {p:PP} {t:List Int} (hw:Bi p=true) (ht:Dl p t=true):j9 p.2.2.1 (Ag p.2.2.1.length) (Xl p t) (tf p t):=
 fw (Cn hw).1 (Fy ht).1 (Fy ht).2 (FO hw ht)
theorem re {p:PP} {t:List Int} (ht:Dl p t=true):(Xl p t).getD 0 []=t/\t∈Xl p t:=by
 obtain ⟨_,A,h⟩:=sd (Kb.1 ht).1 (Fy ht).1 (Fy ht).2
 have h:Xl p t=t::A:=h
 rw [h]
 exact ⟨rfl,by simp⟩
theorem tB {p:PP} {t:List Int} (hw:Bi p=true) (ht:Dl p t=true): ∀s∈Ab p,Cf s t∈Xl p t:=by
 have hv:=(Cn hw).1
 have hc:=Xk (valid hv) (nL ht) (az hw ht)
 refine iT hw (λs=>Cf s t∈Xl p t) (λx hx hq l hl=>?_) (cm hv).2 ?_
 ·rw [Lr (dU hv hx ht)]
  exact hc.next _ hq l hl
 ·rw [jO (du ht)]
  exact (re ht).2
theorem LZ {p:PP} {t:List Int} (hw:Bi p=true) (ht:Dl p t=true):
  Iw p.2.2.1 (Ag p.2.2.1.length) (Ab p) (λs=>Wn t s=true) (λs=>Dy p t (Cf s t)):=by
 have hv:=(Cn hw).1
 have hd:=cH (valid hv) (nL ht) (az hw ht)
 have Nq:=tB hw ht
 refine ⟨λx hx=>hd.nn _ (Nq x hx),λx hx=>(hd.zero _ (Nq x hx)).trans ?_,λx hx l hl=>?_,λx hx h0=>?_⟩
 ·rw [show (Dr p.2.2.1 t).1.getD 0 []=t from (re ht).1]
  exact sat_iff.symm
 ·rw [Lr (dU hv hx ht)]
  exact hd.step _ (Nq x hx) l hl
 ·obtain ⟨l,hl,h1⟩:=hd.down _ (Nq x hx) h0
  refine ⟨l,hl,?_⟩
  rw [Lr (dU hv hx ht)]
  exact h1
noncomputable def iw (p:PP) (goal:List Int):List Int:=lC (Fz p) (λi=>Wn goal ((Ab p).getD i [])) (Ab p).length
theorem ZV {p:PP} (hw:Bi p=true) (goal:List Int):cK (some (Ib p)) (λi=>Nc goal (some (Ib p)) (i:Int))=iw p goal:=by
 show lC (Fz p) (λi=>Wn goal ((Ab p).getD ((i:Nat):Int).toNat [])) (Ab p).length=_
 rfl
theorem WR {p:PP} {t:List Int} (ht:Dl p t=true):Wn t (upto p.1.toNat)=true:=sat_iff.2 (jO (du ht))
theorem lO {p:PP} {t:List Int} (hw:Bi p=true) (ht:Dl p t=true):
  Iw p.2.2.1 (Ag p.2.2.1.length) (Ab p) (λs=>Wn t s=true) (λx=>(iw p t).getD ((Ab p).idxOf x) 0):=by
 have hv:=(Cn hw).1
 have nc:=MN hv
 refine (PA hw (λi=>Wn t ((Ab p).getD i [])) (i0:=0) (by omega) (by rw [(cm hv).1];exact WR ht)).congr λx hx=>?_
 have h1:=List.idxOf_lt_length_of_mem hx
 rw [Cw h1,List.getElem_idxOf h1]
theorem SQ {p:PP} {t:List Int} (hw:Bi p=true) (ht:Dl p t=true) {x:List Int} (hx:x∈Ab p):(iw p t).getD ((Ab p).idxOf x) 0=Dy p t (Cf x t):=
 (lO hw ht).eq (Ok hw) (LZ hw ht) hx
theorem OU {p:PP} (hw:Bi p=true) {S:List Int->Prop} {d:List Int} (hl:d.length=(Ab p).length) (h:Iw p.2.2.1 (Ag p.2.2.1.length) (Ab p) S (λx=>d.getD ((Ab p).idxOf x) 0)):xV p d:=by
 have pj:=(CP hw).nodup
 refine ⟨hl,λi hi=>?_,λi hi h0=>?_⟩
 ·have:=h.nn _ (Jq (show i<(Ab p).length by omega))
  rwa [Jc pj (by omega)] at this
 ·have eH:i<(Ab p).length:=by omega
  obtain ⟨l,h1,h2⟩:=h.down _ (Jq eH) (by rw [Jc pj eH];exact h0)
  rw [Jc pj eH] at h2
  refine ⟨_,List.mem_map.2 ⟨l,h1,rfl⟩,?_⟩
  rw [Int.toNat_natCast,h2]
  omega
theorem JE {p:PP} (hw:Bi p=true) (t:List Int):(iw p t).length=(Ab p).length:=(SM (iD hw)).len
theorem JD {p:PP} {t:List Int} (hw:Bi p=true) (ht:Dl p t=true):xV p (iw p t):=OU hw (JE hw t) (lO hw ht)
def gi (g:List (List Int)) (dep:List Int->Int) (ls:List Int):Nat->List Int->List Int->List Int×List Int
 |0,x,w=>(w,x)
 |n+1,x,w=>match ls.find? (λl=>decide (dep (Aa x (Af g l))=n)) with
  |some l=>gi g dep ls n (Aa x (Af g l)) (w++ [l])
  |none=>gi g dep ls n x w
theorem BF {α:Type} {P:α->Bool} : ∀(l:List α) (k:Nat) (h:k<l.length),P l[k]=true->(∀j (hj:j<k),P (l[j]'(by omega))=false)->l.find? P=some l[k]
 | [],k,h,_,_=>by simp at h
 |y::r,0,_,h1,_=>by rw [List.find?_cons_of_pos (show P y=true from h1)];rfl
 |y::r,k+1,h,h1,h2=>by
  rw [List.find?_cons_of_neg (by have:=h2 0 (by omega);simp at this;simp [this])]
  exact BF r k (by simpa using h) h1 λj hj=>h2 (j+1) (by omega)
theorem yt {p:PP} (hw:Bi p=true) {S:List Int->Prop} {d:List Int} (PT:xV p d) (hd:Iw p.2.2.1 (Ag p.2.2.1.length) (Ab p) S (λx=>d.getD ((Ab p).idxOf x) 0))
  {see:List Int->List Int} {dep:List Int->Int} (hs: ∀x∈Ab p,∀l∈Ag p.2.2.1.length,see (Aa x (Af p.2.2.1 l))=Aa (see x) (Af p.2.2.1 l))
  (he: ∀x∈Ab p,d.getD ((Ab p).idxOf x) 0=dep (see x)):
  ∀(n i:Nat) (w:List Int),i<(Ab p).length->d.getD i 0=n->
   (Us (Fz p) (Ag p.2.2.1.length) d n (i:Int) w).1=(gi p.2.2.1 dep (Ag p.2.2.1.length) n (see ((Ab p).getD i [])) w).1/\
   (Us (Fz p) (Ag p.2.2.1.length) d n (i:Int) w).1.length=w.length+n/\
   ∃j:Nat,(Us (Fz p) (Ag p.2.2.1.length) d n (i:Int) w).2=(j:Int)/\j<(Ab p).length/\d.getD j 0=0/\see ((Ab p).getD j [])=(gi p.2.2.1 dep (Ag p.2.2.1.length) n (see ((Ab p).getD i [])) w).2
 |0,i,w,hi,e=>⟨rfl,rfl,i,rfl,hi,e,rfl⟩
 |n+1,i,w,hi,e=>by
  have pj:=(CP hw).nodup
  have hl:=PT.len
  have nc:0<d.getD i 0:=by omega
  have hg:Cb d (i:Int)=d.getD i 0:=by unfold Cb;rw [Int.toNat_natCast]
  obtain ⟨t0,QH,htl⟩:=PT.dn i (by omega) nc
  have VA:(Fz p i).any (λy=>decide (Cb d y<Cb d (i:Int)))=true:=List.any_eq_true.2 ⟨t0,QH,decide_eq_true htl⟩
  obtain ⟨k,hk,k1,k2,k3⟩:=jy (Fz p i) 0 VA
  have k1:Bw (λy=>decide (Cb d y<Cb d (i:Int))) (Fz p i) 0=(k:Int):=by rw [Nat.zero_add] at k1;exact k1
  have Ja:k<(Ag p.2.2.1.length).length:=by rw [<-nA p i];exact hk
  have hx:=Jq (L:=Ab p) hi
  have YV: ∀j (hj:j<(Ag p.2.2.1.length).length),∃h2:j<(Fz p i).length,(Fz p i)[j]=(((Ab p).idxOf (Aa ((Ab p).getD i []) (Af p.2.2.1 (Ag p.2.2.1.length)[j])):Nat):Int):= λj hj=>
   ⟨by rw [nA];exact hj,by simp only [Fz,qV,List.getElem_map]⟩
  have lB: ∀j (hj:j<(Ag p.2.2.1.length).length) (h2:j<(Fz p i).length),decide (Cb d (Fz p i)[j]<Cb d (i:Int))=decide (dep (Aa (see ((Ab p).getD i [])) (Af p.2.2.1 (Ag p.2.2.1.length)[j]))=n):= λj hj h2=>by
   obtain ⟨_,h3⟩:=YV j hj
   have yI:=List.getElem_mem hj
   have h4:=hd.ET (Ok hw) hx yI
   rw [Jc pj hi] at h4
   have h5:=he _ ((Ok hw).next _ hx _ yI)
   rw [hs _ hx _ yI] at h5
   rw [h3,hg,<-h5]
   unfold Cb
   rw [Int.toNat_natCast,Bool.eq_iff_iff,decide_eq_true_iff,decide_eq_true_iff]
   omega
  have BQ:(Ag p.2.2.1.length).find? (λl=>decide (dep (Aa (see ((Ab p).getD i [])) (Af p.2.2.1 l))=n))=some (Ag p.2.2.1.length)[k]:=by
   refine BF _ k Ja ?_ λj hj=>?_
   ·rw [<-lB k Ja hk];exact k2
   ·rw [<-lB j (by omega) (by omega)];exact k3 j hj
  obtain ⟨_,hkn⟩:=YV k Ja
  have yI:=List.getElem_mem Ja
  obtain ⟨n1,n2⟩:=zc hw hi yI
  have fM:Cb d (i:Int)>0:=by rw [hg];exact nc
  simp only [Us,gi]
  rw [if_pos fM,Int.toNat_natCast,k1,Int.toNat_natCast,Cw hk,hkn,Cw Ja,BQ]
  dsimp only
  have hdk:d.getD ((Ab p).idxOf (Aa ((Ab p).getD i []) (Af p.2.2.1 (Ag p.2.2.1.length)[k]))) 0=n:=by
   have h6:=of_decide_eq_true ((lB k Ja hk).symm.trans k2)
   rw [he _ ((Ok hw).next _ hx _ yI),hs _ hx _ yI]
   exact h6
  obtain ⟨r1,r2,r3⟩:=yt hw PT hd hs he n _ (w++ [(Ag p.2.2.1.length)[k]]) n1 hdk
  rw [n2,hs _ hx _ yI] at r1 r3
  refine ⟨r1,?_,r3⟩
  rw [r2,List.length_append,List.length_singleton]
  omega
end Go.Proofs.Ytjbdmibbbpdnnaa

namespace Go.Proofs.Ytjbdmibbbpdnnaa
open Go.RowKit
noncomputable abbrev Of:Spec:=Cu (.pair Ww (.pair tL .unit)) tI false true (λx=>Cv (List.length x.2.1) x.1.1 x.1.2.2.1/\List.length x.1.2.1=List.length x.1.1) (λx=>kR x.1.1 x.1.2.1 x.2.1)
noncomputable def Ft (p:PP) (goal s:List Int):List Int:=(gi p.2.2.1 (Dy p goal) (Ag p.2.2.1.length) (Dy p goal (Cf s goal)).toNat (Cf s goal) []).1
noncomputable abbrev Vp:Spec:=Cu (.pair Dc (.pair tL (.pair tL .unit))) tL false true (λx=>Dg x.1/\Dl x.1 x.2.1=true/\Bi x.1=true/\x.2.2.1∈Ab x.1) (λx=>Ft x.1 x.2.1 x.2.2.1)
theorem HE (f:List (List Int)×List Int×List Int×Bool×Unit) (s:List Int) (P:Int->Prop):(∃(y3:Int),Ko.fn ((f.1,f.2.1,f.2.2.1,f.2.2.2.1,()),s,())=some y3/\Br (decide (y3<(0:Int))) (P (-1:Int)) (∃(y4:Int),idx f.2.1 y3=some y4/\P y4))=fnW Co (look [(54,Ko)]) Of Try.f114 (f,s,()) P:=by kernel_rfl
abbrev ed:Type:=List Int×Int×Int×ByteArray×List (List Int)×List (List Int)×List Int×List Int×Bool×List Int×PUnit
theorem NO (p:Int×ByteArray×List (List Int)×Unit) (goal s:List Int) (P:List Int->Prop):(∃(y4:List (List Int)×List Int×List Int×Bool×PUnit),Db.fn ((p.1,p.2.1,p.2.2.1,()),goal,())=some y4/\ ∃(y5:List Int),Iu.fn ((p.1,p.2.1,p.2.2.1,()),())=some y5/\ ∃(y6:List Int),Uh.fn (goal,s,())=some y6/\ ∃(y7:Int),Of.fn ((y4.1,y4.2.1,y4.2.2.1,y4.2.2.2.1,()),y6,())=some y7/\0=0/\0=([]:List Int).length/\Bn (λ(v8:ed) (k9:ed->Prop)=>Br (decide (v8.2.1>(0:Int))) (0=0/\v8.2.2.2.2.2.2.2.2.2.1.length=v8.2.2.2.2.2.2.2.2.2.1.length/\Bn (λ(v10:ed) (k11:ed->Prop)=>Br (decide (v10.2.1<(↑y5.length:Int))) (∃(dC:Int),idx y5 v10.2.1=some dC/\ ∃(fg:List Int),Km.fn ((v10.2.2.1,v10.2.2.2.1,v10.2.2.2.2.1,()),v10.1,dC,())=some fg/\ ∃(Zi:Int),Of.fn ((v10.2.2.2.2.2.1,v10.2.2.2.2.2.2.1,v10.2.2.2.2.2.2.2.1,v10.2.2.2.2.2.2.2.2.1,()),fg,())=some Zi/\Br (Zi==IntKind.i64.wrap (v8.2.1-(1:Int))) (∃(dD:Int),idx y5 v10.2.1=some dD/\0=0/\v10.2.2.2.2.2.2.2.2.2.1.length=v10.2.2.2.2.2.2.2.2.2.1.length/\v10.2.2.2.2.2.2.2.2.2.1.length+(List.take 1 (List.drop 0 [dD])).length<=Bp/\0=0/\(v10.2.2.2.2.2.2.2.2.2.1++List.take 1 (List.drop 0 [dD])).length=(v10.2.2.2.2.2.2.2.2.2.1++List.take 1 (List.drop 0 [dD])).length/\k9 (fg,IntKind.i64.wrap (v8.2.1-(1:Int)),v10.2.2.1,v10.2.2.2.1,v10.2.2.2.2.1,v10.2.2.2.2.2.1,v10.2.2.2.2.2.2.1,v10.2.2.2.2.2.2.2.1,v10.2.2.2.2.2.2.2.2.1,v10.2.2.2.2.2.2.2.2.2.1++List.take 1 (List.drop 0 [dD]),())) (0=0/\v10.2.2.2.2.2.2.2.2.2.1.length=v10.2.2.2.2.2.2.2.2.2.1.length/\k11 (v10.1,IntKind.i64.wrap (v10.2.1+(1:Int)),v10.2.2.1,v10.2.2.2.1,v10.2.2.2.2.1,v10.2.2.2.2.2.1,v10.2.2.2.2.2.2.1,v10.2.2.2.2.2.2.2.1,v10.2.2.2.2.2.2.2.2.1,v10.2.2.2.2.2.2.2.2.2.1,()))) (0=0/\v10.2.2.2.2.2.2.2.2.2.1.length=v10.2.2.2.2.2.2.2.2.2.1.length/\k9 (v10.1,IntKind.i64.wrap (v8.2.1-(1:Int)),v10.2.2.1,v10.2.2.2.1,v10.2.2.2.2.1,v10.2.2.2.2.2.1,v10.2.2.2.2.2.2.1,v10.2.2.2.2.2.2.2.1,v10.2.2.2.2.2.2.2.2.1,v10.2.2.2.2.2.2.2.2.2.1,()))) (v8.1,(0:Int),v8.2.2.1,v8.2.2.2.1,v8.2.2.2.2.1,v8.2.2.2.2.2.1,v8.2.2.2.2.2.2.1,v8.2.2.2.2.2.2.2.1,v8.2.2.2.2.2.2.2.2.1,v8.2.2.2.2.2.2.2.2.2.1,PUnit.unit)) (P (List.take v8.2.2.2.2.2.2.2.2.2.1.length (List.drop 0 v8.2.2.2.2.2.2.2.2.2.1)))) (y6,y7,p.1,p.2.1,p.2.2.1,y4.1,y4.2.1,y4.2.2.1,y4.2.2.2.1,[],PUnit.unit))=fnW Co (look [(112,Db),(96,Iu),(113,Uh),(114,Of),(115,Km)]) Vp Try.f64 (p,goal,s,()) P:=by kernel_rfl
theorem FC (f:SS) (s:List Int) (h:Cv (List.length s) f.1 f.2.2.1/\List.length f.2.1=List.length f.1):fnW Co (look [(54,Ko)]) Of Try.f114 (f,s,()) (λ(z:Int)=>z=kR f.1 f.2.1 s):=by
 obtain ⟨h1,h2⟩:=h
 refine Eq.mp (HE f s _) ⟨_,if_pos h1,?_⟩
 show Br (decide (bn f.1 s<0)) _ _
 unfold bn kR
 by_cases hm:s∈f.1
 ·have hl:=List.idxOf_lt_length_of_mem hm
  rw [if_pos hm,if_pos hm]
  refine Br.dec (λhn=>absurd hn (by omega)) λ_=>?_
  have IA:List.idxOf s f.1<f.2.1.length:=by omega
  refine ⟨f.2.1[List.idxOf s f.1],?_,by rw [Cw IA]⟩
  show idx f.2.1 (if s∈f.1 then ((List.idxOf s f.1:Nat):Int) else-1)=_
  rw [if_pos hm]
  exact Ap IA
 ·rw [if_neg hm,if_neg hm]
  exact ⟨λ_=>rfl,λhn=>by simp at hn⟩
theorem pQ:Sound Try.prog 114 Of:=
 Sound.Cu Bj (Ah aO Aq) mixed Try.func114 (by kernel_rfl) (by kernel_rfl) λx h=>FC x.1 x.2.1 h
theorem jN {p:PP} {goal:List Int} (hw:Bi p=true) (ht:Dl p goal=true) {x:List Int} (hx:x∈Xl p goal):0<=Dy p goal x/\Dy p goal x<=3000:=by
 have Yn:=nL ht
 have vW:=Yn.ok.oU
 refine ⟨(cH (valid (Cn hw).1) Yn (az hw ht)).nn x hx,?_⟩
 obtain ⟨i,hi,rfl⟩:=List.mem_iff_getElem.1 hx
 have hiD:i<(Dr p.2.2.1 goal).2.1.length:=by rw [Yn.len];exact hi
 have h1:=Yn.dep i hiD
 have h2:Dy p goal ((Xl p goal)[i])=(tf p goal).getD i 0:=by
  rw [<-Cw (d:= []) hi];exact fE Yn.ok.nodup hi
 have h3:(tf p goal).getD i 0=(Dr p.2.2.1 goal).2.1[i]:=Cw hiD
 rw [h2,h3]
 have:i<(Dr p.2.2.1 goal).1.length:=hi
 omega
theorem LU (p:PP) (goal s:List Int) (h:Dg p/\Dl p goal=true/\Bi p=true/\s∈Ab p):fnW Co (look [(112,Db),(96,Iu),(113,Uh),(114,Of),(115,Km)]) Vp Try.f64 (p,goal,s,()) (λ(z:List Int)=>z=Ft p goal s):=by
 obtain ⟨hp,ht,hw,hs⟩:=h
 have hv:=(Cn hw).1
 have hV:=valid hv
 have hn:=hV.n
 obtain ⟨t1,t2⟩:=Fy ht
 have Yn:=nL ht
 have vW:=Yn.ok.oU
 have Aar:=az hw ht
 have hc:=Xk hV Yn Aar
 have hd:=cH hV Yn Aar
 have QK:=tB hw ht s hs
 obtain ⟨ls,kL⟩: ∃ls,Ag p.2.2.1.length=ls:=⟨_,rfl⟩
 have jw: ∀l∈ls,Er (List.length p.2.2.1) l:= λl hl=>Ir (kL▸hl)
 have HX: ∀x,kR (Dr p.2.2.1 goal).1 (Dr p.2.2.1 goal).2.1 x=Dy p goal x:= λx=>rfl
 rw [kL] at hc hd
 have hdo: ∀x:List Int,x.length=goal.length->Of.fn (((Df p.2.2.1 goal).1,(Df p.2.2.1 goal).2.1,(Df p.2.2.1 goal).2.2.1,(Df p.2.2.1 goal).2.2.2.1,()),x,())=some (Dy p goal x):= λx hx=>
  if_pos ⟨by show Cv x.length (Dr p.2.2.1 goal).1 (Td (Dr p.2.2.1 goal).1);rw [hx];exact Yn.ok,Yn.len⟩
 have bN:(Cf s goal).length=goal.length:=x4 _ _
 have hlf:=cG hV
 rw [kL] at hlf
 have Afz:= λx hx=>jN hw ht (x:=x) hx
 unfold Ft
 rw [kL]
 refine Eq.mp (NO p goal s _) ⟨Df p.2.2.1 goal,if_pos ⟨hv,t1,t2⟩,ls,(if_pos hV.oU.2).trans (congrArg some kL),Cf s goal,if_pos ⟨by show short goal;unfold short;omega,dU hv hs ht⟩,_,hdo _ bN,rfl,rfl,?_⟩
 obtain ⟨R,hR⟩: ∃R,gi p.2.2.1 (Dy p goal) ls (Dy p goal (Cf s goal)).toNat (Cf s goal) []=R:=⟨_,rfl⟩
 rw [hR]
 have hd0:=Afz _ QK
 obtain ⟨n0,ZB⟩:=Int.eq_ofNat_of_zero_le hd0.1
 rw [ZB] at hR hd0⊢
 rw [Int.toNat_natCast] at hR
 refine Bn.mk (λv=> ∃(x:List Int) (n:Nat) (w:List Int),v=(x,(n:Int),p.1,p.2.1,p.2.2.1,(Df p.2.2.1 goal).1,(Df p.2.2.1 goal).2.1,(Df p.2.2.1 goal).2.2.1,(Df p.2.2.1 goal).2.2.2.1,w,())/\x∈Xl p goal/\Dy p goal x=n/\w.length+n<=3000/\gi p.2.2.1 (Dy p goal) ls n x w=R) (λv=>v.2.1.toNat)
  ⟨Cf s goal,n0,[],rfl,QK,ZB,by simp only [List.length_nil];omega,hR⟩ ?_
 rintro v ⟨x,n,w,rfl,g1,g2,g3,g4⟩
 dsimp only
 refine Br.dec (λhl=>⟨rfl,rfl,?_⟩) λhl=>?_
 ·obtain ⟨n,rfl⟩: ∃n',n=n'+1:=⟨n-1,by omega⟩
  simp only [gi] at g4
  have QL:x.length=goal.length:=Yn.ok.len x g1
  have OL: ∀y∈x,0<=y/\y<p.1:=Yn.row x g1
  have hwr:IntKind.i64.wrap (((n+1:Nat):Int)-1)=(n:Int):=by rw [Bt (by omega) (by omega)];omega
  rw [hwr]
  refine Am ls.length (λv=>v.2.1) (λi v=>v=(x,(i:Int),p.1,p.2.1,p.2.2.1,(Df p.2.2.1 goal).1,(Df p.2.2.1 goal).2.1,(Df p.2.2.1 goal).2.2.1,(Df p.2.2.1 goal).2.2.2.1,w,())/\
   (ls.drop i).find? (λl=>decide (Dy p goal (Aa x (Af p.2.2.1 l))=n))=ls.find? (λl=>decide (Dy p goal (Aa x (Af p.2.2.1 l))=n))) rfl ⟨rfl,by rw [List.drop_zero]⟩ ?_
  rintro i v K hi hii ⟨rfl,hf⟩ hK
  dsimp only
  refine Br.dec (λOD=>?_) λOD=>?_
  ·have OD:i<ls.length:=by omega
   have yI:=List.getElem_mem OD
   have sE:=jw _ yI
   obtain ⟨nl,nr⟩:=lY hV OL sE
   have hnx:=hc.next x g1 _ yI
   rw [List.drop_eq_getElem_cons OD] at hf
   refine ⟨_,Ap OD,_,if_pos ⟨hv,by show x.length<=20;omega,OL,sE⟩,_,hdo _ (by rw [<-QL];exact nl),Br.of (λhb=>?_) λhb=>?_⟩
   ·have hb:Dy p goal (Aa x (Af p.2.2.1 ls[i]))=n:=by simpa using hb
    rw [List.find?_cons_of_pos (by simpa using hb)] at hf
    rw [<-hf] at g4
    refine ⟨_,Ap OD,rfl,rfl,?_,rfl,rfl,⟨_,n,w++ [ls[i]],rfl,hnx,hb,by rw [List.length_append,List.length_singleton];omega,g4⟩,?_⟩
    ·show w.length+1<=4294967296;omega
    ·show ((n:Int)).toNat<(((n+1:Nat):Int)).toNat
     omega
   ·have hb: ¬Dy p goal (Aa x (Af p.2.2.1 ls[i]))=n:=by simpa using hb
    rw [List.find?_cons_of_neg (by simpa using hb)] at hf
    refine ⟨rfl,rfl,?_⟩
    rw [Al (by omega)]
    exact hK OD _ rfl ⟨rfl,hf⟩
  ·have:i=ls.length:=by omega
   subst this
   rw [List.drop_length,List.find?_nil] at hf
   obtain ⟨l,yI,hle⟩:=hd.down x g1 (by rw [HX,g2];omega)
   have:=List.find?_eq_none.1 hf.symm l yI
   rw [HX,HX,g2] at hle
   exact absurd (decide_eq_true (by rw [hle];omega)) this
 ·rw [Cc]
  have:n=0:=by omega
  subst this
  rw [<-g4]
  rfl
theorem u6:Sound Try.prog 64 Vp:=
 Sound.Cu Bj (Ah l9 (Ah bw (Ah pX (Ah pQ (Ah aN Aq))))) mixed Try.func64 (by kernel_rfl) (by kernel_rfl) λx h=>LU x.1 x.2.1 x.2.2.1 h
theorem kf {p:PP} {goal s:List Int} (hw:Bi p=true) (ht:Dl p goal=true) (hs:s∈Ab p):
  (Ft p goal s).length=(Dy p goal (Cf s goal)).toNat/\(Ft p goal s).length<=3000/\
  (Cb (iw p goal) (Pv p s).1=Dy p goal (Cf s goal))/\(Us (Fz p) (Ag p.2.2.1.length) (iw p goal) (Dy p goal (Cf s goal)).toNat (Pv p s).1 []).1=Ft p goal s:=by
 have hv:=(Cn hw).1
 have hb:=jN hw ht (tB hw ht s hs)
 have he:=SQ hw ht hs
 have hi:=List.idxOf_lt_length_of_mem hs
 have PX:(Pv p s).1=(((Ab p).idxOf s:Nat):Int):=by unfold Pv;rw [if_pos hs]
 have hsi:(Ab p).getD ((Ab p).idxOf s) []=s:=by rw [Cw hi];exact List.getElem_idxOf hi
 obtain ⟨r1,r2,_⟩:=yt hw (JD hw ht) (lO hw ht) (see:= λx=>Cf x goal) (dep:=Dy p goal) (λx hx l _=>Lr (dU hv hx ht)) (λx hx=>SQ hw ht hx)
  (Dy p goal (Cf s goal)).toNat ((Ab p).idxOf s) [] hi (by rw [he];omega)
 rw [hsi] at r1
 have r1:_=Ft p goal s:=r1
 rw [r1] at r2
 simp only [List.length_nil,Nat.zero_add] at r2
 refine ⟨r2,by omega,?_,by rw [PX];exact r1⟩
 rw [PX,<-he]
 unfold Cb
 rw [Int.toNat_natCast]
end Go.Proofs.Ytjbdmibbbpdnnaa

namespace Go.Proofs.Ytjbdmibbbpdnnaa
open Go.RowKit
theorem gk {g:List (List Int)} {dep:List Int->Int} {ls:List Int} : ∀(n:Nat) (x w:List Int),(∀l∈w,l∈ls)-> ∀l∈(gi g dep ls n x w).1,l∈ls
 |0,x,w,h=>h
 |n+1,x,w,h=>by
  simp only [gi]
  split
  ·rename_i l hf
   refine gk n _ _ λl' hl=>?_
   rcases List.mem_append.1 hl with h2|h2
   ·exact h l' h2
   ·rw [List.mem_singleton.1 h2];exact List.mem_of_find?_eq_some hf
  ·exact gk n x w h
end Go.Proofs.Ytjbdmibbbpdnnaa

namespace Go.Proofs.Ytjbdmibbbpdnnaa
open Go.RowKit
noncomputable abbrev Ua:Spec:=Cu (.pair Dc (.pair tL (.pair tL .unit))) tL false false (λx=>Ay x.1=true/\Pm x.1.1.toNat x.2.1/\short x.2.2.1/\ ∀l∈x.2.2.1,Er (List.length x.1.2.2.1) l) (λx=>Ip x.1.2.2.1 x.2.1 x.2.2.1)
noncomputable def Es (p:PP):List (List Int)->List Int->List (List Int)
 | [],_=> []
 |goal::gs,s=>Ft p goal s::Es p gs (Ip p.2.2.1 s (Ft p goal s))
def Zm (p:PP) (gs:List (List Int)):Prop:=gs.length<=5/\ ∀g∈gs,Dl p g=true
noncomputable abbrev Vq:Spec:=Cu (.pair Dc (.pair bC (.pair tL .unit))) bC false true (λx=>Dg x.1/\Zm x.1 x.2.1/\Bi x.1=true/\x.2.2.1∈Ab x.1) (λx=>Es x.1 x.2.1 x.2.2.1)
def cL (ws:List (List Int)):Bool:=List.all ws λw=>decide (w.length<=200)
noncomputable abbrev jU:Spec:=Cu (.pair bC .unit) .bool false true (λx=>Cs x.1) (λx=>cL x.1)
noncomputable def Fg (p:PP) (gs:List (List Int)) (s:List Int):List (List Int)×Bool×Unit:=
 if (Nh p s&&Je p gs)=true then (if cL (Es p gs s)=true then (Es p gs s,true,()) else ([],false,())) else ([],false,())
noncomputable abbrev Rb:Spec:=Cu (.pair Dc (.pair bC (.pair tL .unit))) (.pair bC (.pair .bool .unit)) true false (λx=>Dg x.1/\Cs x.2.1/\short x.2.2.1) (λx=>Fg x.1 x.2.1 x.2.2.1)
def Fk (ws:List (List Int)):Int:=((ws.map List.length).sum:Nat)
noncomputable abbrev Zb:Spec:=Cu (.pair bC .unit) tI false true (λx=>List.length x.1<=5/\Cs x.1) (λx=>Fk x.1)
noncomputable def Tx (p:PP) (gs:List (List Int)) (s:List Int):Int:=if (Fg p gs s).2.1=true then Fk (Fg p gs s).1 else-1
noncomputable abbrev Ii:Spec:=Cu (.pair Dc (.pair bC (.pair tL .unit))) tI false true (λx=>Dg x.1/\Cs x.2.1/\short x.2.2.1) (λx=>Tx x.1 x.2.1 x.2.2.1)
abbrev oF:Type:=List Int×Int×Int×ByteArray×List (List Int)×PUnit
theorem HD (p:Int×ByteArray×List (List Int)×Unit) (s w:List Int) (P:List Int->Prop):(∃(y4:List Int),Ki.fn (s,())=some y4/\Bn (λ(v5:oF) (k6:oF->Prop)=>Br (decide (v5.2.1<(↑w.length:Int))) (∃(y7:Int),idx w v5.2.1=some y7/\ ∃(y8:List Int),Km.fn ((v5.2.2.1,v5.2.2.2.1,v5.2.2.2.2.1,()),v5.1,y7,())=some y8/\k6 (y8,IntKind.i64.wrap (v5.2.1+(1:Int)),v5.2.2.1,v5.2.2.2.1,v5.2.2.2.2.1,())) (P v5.1)) (y4,(0:Int),p.1,p.2.1,p.2.2.1,PUnit.unit))=fnW Co (look [(123,Ki),(115,Km)]) Ua Try.f73 (p,s,w,()) P:=by kernel_rfl
abbrev rR:Type:=List Int×Int×Int×ByteArray×List (List Int)×List (List Int)×PUnit
theorem NP (p:Int×ByteArray×List (List Int)×Unit) (gs:List (List Int)) (s:List Int) (P:List (List Int)->Prop):(0=0/\0=([]:List Int).length/\Bn (λ(v4:rR) (k5:rR->Prop)=>Br (decide (v4.2.1<(↑gs.length:Int))) (∃(y6:List Int),idx gs v4.2.1=some y6/\ ∃(y7:List Int),Vp.fn ((v4.2.2.1,v4.2.2.2.1,v4.2.2.2.2.1,()),y6,v4.1,())=some y7/\0=0/\v4.2.2.2.2.2.1.length=v4.2.2.2.2.2.1.length/\v4.2.2.2.2.2.1.length+(List.take 1 (List.drop 0 [y7])).length<=Bp/\ ∃(y8:List Int),Ua.fn ((v4.2.2.1,v4.2.2.2.1,v4.2.2.2.2.1,()),v4.1,y7,())=some y8/\0=0/\(v4.2.2.2.2.2.1++List.take 1 (List.drop 0 [y7])).length=(v4.2.2.2.2.2.1++List.take 1 (List.drop 0 [y7])).length/\k5 (y8,IntKind.i64.wrap (v4.2.1+(1:Int)),v4.2.2.1,v4.2.2.2.1,v4.2.2.2.2.1,v4.2.2.2.2.2.1++List.take 1 (List.drop 0 [y7]),())) (P (List.take v4.2.2.2.2.2.1.length (List.drop 0 v4.2.2.2.2.2.1)))) (s,(0:Int),p.1,p.2.1,p.2.2.1,[],PUnit.unit))=fnW Co (look [(64,Vp),(73,Ua)]) Vq Try.f77 (p,gs,s,()) P:=by kernel_rfl
theorem YH (ws:List (List Int)) (P:Bool->Prop):(Bn (λ(v2:Int×PUnit) (k3:Int×PUnit->Prop)=>Br (decide (v2.1<(↑ws.length:Int))) (∃(y4:List Int),idx ws v2.1=some y4/\Br (decide ((↑y4.length:Int)>(200:Int))) (P false) (k3 (IntKind.i64.wrap (v2.1+(1:Int)),()))) (P true)) ((0:Int),PUnit.unit))=fnW Co (look []) jU Try.f78 (ws,()) P:=by kernel_rfl
theorem AI (p:Int×ByteArray×List (List Int)×Unit) (gs:List (List Int)) (s:List Int) (P:(List (List Int)×Bool×Unit)->Prop):(∃(y4:Bool),Gy.fn ((p.1,p.2.1,p.2.2.1,()),gs,())=some y4/\Br (!y4) (P (List.take 0 (List.drop 0 []),false,())) (∃(y5:Bool),Md.fn ((p.1,p.2.1,p.2.2.1,()),s,())=some y5/\Br (!y5) (P (List.take 0 (List.drop 0 []),false,())) (∃(y6:List (List Int)),Vq.fn ((p.1,p.2.1,p.2.2.1,()),gs,s,())=some y6/\ ∃(y7:Bool),jU.fn (y6,())=some y7/\Br (!y7) (P (List.take 0 (List.drop 0 []),false,())) (P (y6,true,())))))=fnW Co (look [(76,Gy),(63,Md),(77,Vq),(78,jU)]) Rb Try.f39 (p,gs,s,()) P:=by kernel_rfl
theorem NQ (ws:List (List Int)) (P:Int->Prop):(Bn (λ(v2:Int×Int×PUnit) (k3:Int×Int×PUnit->Prop)=>Br (decide (v2.2.1<(↑ws.length:Int))) (∃(y4:List Int),idx ws v2.2.1=some y4/\k3 (IntKind.i64.wrap (v2.1+(↑y4.length:Int)),IntKind.i64.wrap (v2.2.1+(1:Int)),())) (P v2.1)) ((0:Int),(0:Int),PUnit.unit))=fnW Co (look []) Zb Try.f79 (ws,()) P:=by kernel_rfl
theorem qi (p:Int×ByteArray×List (List Int)×Unit) (gs:List (List Int)) (s:List Int) (P:Int->Prop):(∃(y4:List (List Int)×Bool×PUnit),Rb.fn ((p.1,p.2.1,p.2.2.1,()),gs,s,())=some y4/\Br (!y4.2.1) (P (-1:Int)) (∃(y5:Int),Zb.fn (y4.1,())=some y5/\P y5))=fnW Co (look [(39,Rb),(79,Zb)]) Ii Try.f43 (p,gs,s,()) P:=by kernel_rfl
theorem FB (p:PP) (s w:List Int) (h:Ay p=true/\Pm p.1.toNat s/\short w/\ ∀l∈w,Er (List.length p.2.2.1) l):fnW Co (look [(123,Ki),(115,Km)]) Ua Try.f73 (p,s,w,()) (λ(z:List Int)=>z=Ip p.2.2.1 s w):=by
 obtain ⟨hv,hs,w1,w2⟩:=h
 have hV:=valid hv
 have w1:w.length<=4294967296:=w1
 refine Eq.mp (HD p s w _) ⟨_,if_pos (x5 hs),?_⟩
 refine Am w.length (λv=>v.2.1) (λj v=>v=(Ip p.2.2.1 s (w.take j),(j:Int),p.1,p.2.1,p.2.2.1,())) rfl rfl ?_
 rintro j v K hj hi hR hK
 subst hR
 dsimp only
 have hq:=uW hV (w.take j) _ (λl hl=>w2 l (List.mem_of_mem_take hl)) hs
 refine Br.dec (λhl=>?_) λhl=>?_
 ·have hl:j<w.length:=by omega
  have sE:=w2 _ (List.getElem_mem hl)
  refine ⟨_,Ap hl,_,if_pos ⟨hv,XR hq,MA hV hq,sE⟩,?_⟩
  rw [Al (by omega)]
  refine hK hl _ rfl ?_
  rw [ya hl]
 ·have:j=w.length:=by omega
  subst this
  rw [List.take_length]
theorem pP:Sound Try.prog 73 Ua:=
 Sound.Cu Bj (Ah di (Ah aN Aq)) mixed Try.func73 (by kernel_rfl) (by kernel_rfl) λx h=>FB x.1 x.2.1 x.2.2.1 h
theorem ow {g:List (List Int)} {dep:List Int->Int} {ls:List Int} : ∀(n:Nat) (x w:List Int),∃u,(gi g dep ls n x w).1=w++u/\(gi g dep ls n x w).2=Ip g x u
 |0,x,w=>⟨[],by simp [gi],rfl⟩
 |n+1,x,w=>by
  simp only [gi]
  split
  ·rename_i l _
   obtain ⟨u,h1,h2⟩:=ow (g:=g) (dep:=dep) (ls:=ls) n (Aa x (Af g l)) (w++ [l])
   exact ⟨l::u,by rw [h1,List.append_assoc];rfl,h2⟩
  ·exact ow n x w
theorem mN {p:PP} {gs:List (List Int)} (h:Je p gs=true):Zm p gs:=by
 obtain ⟨h1,h2,_,_⟩:=Fp.1 h
 refine ⟨h2.2,λg hg=>?_⟩
 obtain ⟨j,hj,rfl⟩:=List.mem_iff_getElem.1 hg
 exact Kb.2 ⟨h1,wG h hj⟩
theorem Zm.take {p:PP} {gs:List (List Int)} (h:Zm p gs) (j:Nat):Zm p (gs.take j):=⟨by rw [List.length_take];have:=h.1;omega,λg hg=>h.2 g (List.mem_of_mem_take hg)⟩
theorem OZ {p:PP} (hw:Bi p=true) {S:List Int->Prop} {d:List Int} (PT:xV p d) (hd:Iw p.2.2.1 (Ag p.2.2.1.length) (Ab p) S (λx=>d.getD ((Ab p).idxOf x) 0)) {i n:Nat} (hi:i<(Ab p).length) (hn:d.getD i 0=n):
  ∃j:Nat,(Us (Fz p) (Ag p.2.2.1.length) d n (i:Int) []).2=(j:Int)/\j<(Ab p).length/\(Ab p).getD j []=Ip p.2.2.1 ((Ab p).getD i []) (Us (Fz p) (Ag p.2.2.1.length) d n (i:Int) []).1:=by
 obtain ⟨e1,_,j,e3,e4,_,e6⟩:=yt hw PT hd (see:= λx=>x) (dep:= λx=>d.getD ((Ab p).idxOf x) 0) (λ_ _ _ _=>rfl) (λ_ _=>rfl) n i [] hi hn
 obtain ⟨u,u1,u2⟩:=ow (g:=p.2.2.1) (dep:= λx=>d.getD ((Ab p).idxOf x) 0) (ls:=Ag p.2.2.1.length) n ((Ab p).getD i []) []
 refine ⟨j,e3,e4,?_⟩
 rw [e1,u1]
 exact e6.trans u2
theorem kh {p:PP} {goal s:List Int} (hw:Bi p=true) (ht:Dl p goal=true) (hs:s∈Ab p):
  Ip p.2.2.1 s (Ft p goal s)∈Ab p/\(∀l∈Ft p goal s,Er (List.length p.2.2.1) l)/\
  Tw p (iw p goal) (Pv p s).1=(if (Ft p goal s).length>200 then ([],0,false,()) else (Ft p goal s,(Pv p (Ip p.2.2.1 s (Ft p goal s))).1,true,())):=by
 obtain ⟨a1,a2,a3,a4⟩:=kf hw ht hs
 have hb:=jN hw ht (tB hw ht s hs)
 obtain ⟨n,hn⟩:=Int.eq_ofNat_of_zero_le hb.1
 have hi:=List.idxOf_lt_length_of_mem hs
 have PX:(Pv p s).1=(((Ab p).idxOf s:Nat):Int):=by unfold Pv;rw [if_pos hs]
 rw [hn] at a1 a3 a4
 rw [PX] at a3 a4
 rw [Int.toNat_natCast] at a1 a4
 have a3':(iw p goal).getD ((Ab p).idxOf s) 0=n:=by
  have h:=a3
  unfold Cb at h
  rwa [Int.toNat_natCast] at h
 obtain ⟨j,e1,e2,e3⟩:=OZ hw (JD hw ht) (lO hw ht) hi a3'
 rw [a4,Cw hi,List.getElem_idxOf hi] at e3
 have hm:Ip p.2.2.1 s (Ft p goal s)∈Ab p:=by rw [<-e3];exact Jq e2
 have hj:(Pv p (Ip p.2.2.1 s (Ft p goal s))).1=(j:Int):=by
  unfold Pv
  rw [if_pos hm,<-e3]
  show ((List.idxOf ((Ab p).getD j []) (Ab p):Nat):Int)=j
  rw [Jc (CP hw).nodup e2]
 refine ⟨hm,λl hl=>?_,?_⟩
 ·refine Ir (gk (g:=p.2.2.1) (dep:=Dy p goal) (ls:=Ag p.2.2.1.length) (Dy p goal (Cf s goal)).toNat (Cf s goal) [] (by simp) l ?_)
  exact hl
 ·unfold Tw
  rw [PX,a3,Int.toNat_natCast,a4,e1,hj,a1]
  by_cases hc:n>200
  ·rw [if_pos (by omega),if_pos hc]
  ·rw [if_neg (by omega),if_neg hc]
theorem gl {p:PP} (hw:Bi p=true): ∀(gs:List (List Int)) (s:List Int),(∀g∈gs,Dl p g=true)->s∈Ab p->(Es p gs s).length=gs.length/\ ∀w∈Es p gs s,w.length<=3000
 | [],_,_,_=>⟨rfl,λw hw=>by cases hw⟩
 |g::gs,s,hg,hs=>by
  have ht:=hg g (by simp)
  obtain ⟨h1,h2⟩:=gl hw gs _ (λg' h=>hg g' (List.mem_cons_of_mem _ h)) (kh hw ht hs).1
  refine ⟨by simp only [Es,List.length_cons,h1],λw KB=>?_⟩
  simp only [Es,List.mem_cons] at KB
  rcases KB with rfl|KB
  ·exact (kf hw ht hs).2.1
  ·exact h2 w KB
theorem iU {p:PP} {gs:List (List Int)} {s:List Int} (hg:Zm p gs) (hw:Bi p=true) (hs:s∈Ab p):Cs (Es p gs s):=by
 obtain ⟨h1,h2⟩:=gl hw gs s hg.2 hs
 have:=hg.1
 exact ⟨by omega,λr hr=>by have:=h2 r hr;unfold short;omega⟩
theorem LV (p:PP) (gs:List (List Int)) (s:List Int) (h:Dg p/\Zm p gs/\Bi p=true/\s∈Ab p):fnW Co (look [(64,Vp),(73,Ua)]) Vq Try.f77 (p,gs,s,()) (λ(z:List (List Int))=>z=Es p gs s):=by
 obtain ⟨hp,hg,hw,hs⟩:=h
 have hv:=(Cn hw).1
 have hl5:=hg.1
 obtain ⟨R,hR⟩: ∃R,Es p gs s=R:=⟨_,rfl⟩
 rw [hR]
 refine Eq.mp (NP p gs s _) ⟨rfl,rfl,?_⟩
 refine Am gs.length (λv=>v.2.1) (λj v=> ∃x out,v=(x,(j:Int),p.1,p.2.1,p.2.2.1,out,())/\x∈Ab p/\out.length=j/\out++Es p (gs.drop j) x=R) rfl ⟨s,[],rfl,hs,rfl,by rw [List.drop_zero];exact hR⟩ ?_
 rintro j v K hj hi ⟨x,out,rfl,hx,ho,he⟩ hK
 dsimp only
 refine Br.dec (λhl=>?_) λhl=>?_
 ·have hl:j<gs.length:=by omega
  have ht:=hg.2 _ (List.getElem_mem hl)
  obtain ⟨e1,e2,e3⟩:=kh hw ht hx
  have e4:=(kf hw ht hx).2.1
  rw [List.drop_eq_getElem_cons hl] at he
  simp only [Es] at he
  have Pc:Vp.fn (p,gs[j],x,())=some (Ft p gs[j] x):=if_pos ⟨hp,ht,hw,hx⟩
  generalize Ft p gs[j] x=w at*
  refine ⟨_,Ap hl,w,Pc,rfl,rfl,by show out.length+1<=4294967296;omega,_,if_pos ⟨hv,CQ hv hx,by show w.length<=4294967296;omega,e2⟩,rfl,rfl,?_⟩
  rw [Al (by omega)]
  exact hK hl _ rfl ⟨_,_,rfl,e1,by show (out++ [w]).length=_;rw [List.length_append,List.length_singleton,ho],by show (out++ [w])++_=_;rw [List.append_assoc];exact he⟩
 ·have:j=gs.length:=by omega
  subst this
  rw [List.drop_length] at he
  rw [Cc,<-he]
  simp only [Es,List.append_nil]
theorem u7:Sound Try.prog 77 Vq:=
 Sound.Cu Bj (Ah u6 (Ah pP Aq)) mixed Try.func77 (by kernel_rfl) (by kernel_rfl) λx h=>LV x.1 x.2.1 x.2.2.1 h
theorem cn {ws:List (List Int)} :cL ws=true↔ ∀w∈ws,w.length<=200:=by
 unfold cL
 rw [List.all_eq_true]
 exact ⟨λh w hw=>of_decide_eq_true (h w hw),λh w hw=>decide_eq_true (h w hw)⟩
theorem XG (ws:List (List Int)) (h:Cs ws):fnW Co (look []) jU Try.f78 (ws,()) (λ(z:Bool)=>z=cL ws):=by
 have h1:ws.length<=4294967296:=h.1
 refine Eq.mp (YH ws _) ?_
 refine Am ws.length (λv=>v.1) (λj _=> ∀w∈ws.take j,w.length<=200) rfl (by simp) ?_
 rintro j ⟨i,⟨⟩⟩ K hj hi hR hK
 dsimp only at hi⊢
 subst hi
 refine Br.dec (λhl=>?_) λhl=>?_
 ·have hl:j<ws.length:=by omega
  refine ⟨_,Ap hl,Br.dec (λhb=>?_) λhb=>?_⟩
  ·cases hf:cL ws with
   |false=>rfl
   |true=>exact absurd (cn.1 hf _ (List.getElem_mem hl)) (by omega)
  ·rw [Al (by omega)]
   refine hK hl _ rfl λw hw=>?_
   rw [List.take_add_one,List.getElem?_eq_getElem hl,Option.toList_some,List.mem_append,List.mem_singleton] at hw
   rcases hw with hw|rfl
   ·exact hR w hw
   ·omega
 ·have:j=ws.length:=by omega
  subst this
  rw [List.take_length] at hR
  exact (cn.2 hR).symm
theorem zN:Sound Try.prog 78 jU:=
 Sound.Cu Bj Aq mixed Try.func78 (by kernel_rfl) (by kernel_rfl) λx h=>XG x.1 h
theorem zq (p:PP) (gs:List (List Int)) (s:List Int) (h:Dg p/\Cs gs/\short s):fnW Co (look [(76,Gy),(63,Md),(77,Vq),(78,jU)]) Rb Try.f39 (p,gs,s,()) (λ(z:List (List Int)×Bool×Unit)=>z=Fg p gs s):=by
 obtain ⟨hp,hg,hs⟩:=h
 unfold Fg
 refine Eq.mp (AI p gs s _) ⟨_,if_pos ⟨hp,hg⟩,Br.of (λhm=>?_) λhm=>?_⟩
 ·have hm:Je p gs=false:=sf hm
  rw [hm,Bool.and_false,if_neg (by decide)];rfl
 have hm:Je p gs=true:=by simpa using hm
 refine ⟨_,if_pos ⟨hp,hs⟩,Br.of (λhf=>?_) λhf=>?_⟩
 ·have hf:Nh p s=false:=sf hf
  rw [hf,Bool.false_and,if_neg (by decide)];rfl
 have hf:Nh p s=true:=by simpa using hf
 obtain ⟨hw,Nq⟩:=jr.1 hf
 rw [hf,hm,Bool.and_self,if_pos rfl]
 have yG:=mN hm
 have hsl:=iU yG hw Nq
 have e1:Vq.fn (p,gs,s,())=some (Es p gs s):=if_pos ⟨hp,yG,hw,Nq⟩
 generalize Es p gs s=ws at*
 refine ⟨ws,e1,_,if_pos hsl,Br.of (λhb=>?_) λhb=>?_⟩
 ·rw [if_neg (Ci hb)];rfl
 ·have hb:cL ws=true:=by simpa using hb
  rw [if_pos hb]
theorem om:Sound Try.prog 39 Rb:=
 Sound.Cu Bj (Ah gh (Ah kc (Ah u7 (Ah zN Aq)))) mixed Try.func39 (by kernel_rfl) (by kernel_rfl) λx h=>zq x.1 x.2.1 x.2.2.1 h
theorem gn (a b:List (List Int)):Fk (a++b)=Fk a+Fk b:=by
 unfold Fk
 rw [List.map_append,List.sum_append];omega
theorem gp (w:List Int):Fk [w]=w.length:=by simp [Fk]
theorem rP (a:List (List Int)):0<=Fk a:=by unfold Fk;omega
theorem kl {n:Nat} : ∀(xs:List (List Int)),(∀w∈xs,w.length<=n)->Fk xs<=xs.length*n
 | [],_=>by simp [Fk]
 |w::xs,h=>by
  have h1:=kl xs λw' hw=>h w' (List.mem_cons_of_mem _ hw)
  have h2:=h w (by simp)
  rw [show w::xs= [w]++xs from rfl,gn,gp,List.length_append,List.length_singleton,Int.natCast_add,Int.add_mul]
  omega
theorem LW (ws:List (List Int)) (h:ws.length<=5/\Cs ws):fnW Co (look []) Zb Try.f79 (ws,()) (λ(z:Int)=>z=Fk ws):=by
 obtain ⟨h1,h2⟩:=h
 refine Eq.mp (NQ ws _) ?_
 refine Am ws.length (λv=>v.2.1) (λj v=>v=(Fk (ws.take j),(j:Int),())) rfl rfl ?_
 rintro j v K hj hi rfl hK
 dsimp only
 refine Br.dec (λhl=>?_) λhl=>?_
 ·have hl:j<ws.length:=by omega
  refine ⟨_,Ap hl,?_⟩
  have hs:(ws[j]).length<=4294967296:=h2.2 _ (List.getElem_mem hl)
  have h3:=rP (ws.take j)
  have h4:=kl (n:=4294967296) (ws.take j) λw hw=>h2.2 w (List.mem_of_mem_take hw)
  rw [List.length_take,Nat.min_eq_left (by omega)] at h4
  have h5:(j:Int)*4294967296<=5*4294967296:=by omega
  rw [Al (by omega),Bt (by omega) (by omega)]
  refine hK hl _ rfl ?_
  rw [List.take_add_one,List.getElem?_eq_getElem hl,Option.toList_some,gn,gp]
 ·have:j=ws.length:=by omega
  subst this
  rw [List.take_length]
theorem u9:Sound Try.prog 79 Zb:=
 Sound.Cu Bj Aq mixed Try.func79 (by kernel_rfl) (by kernel_rfl) λx h=>LW x.1 h
theorem mw {p:PP} {gs:List (List Int)} {s:List Int} :((Fg p gs s).1.length<=5/\Cs (Fg p gs s).1)/\ ∀w∈(Fg p gs s).1,w.length<=200:=by
 unfold Fg
 split
 ·rename_i h
  obtain ⟨hf,hm⟩:=Bool.and_eq_true_iff.1 h
  obtain ⟨hw,Nq⟩:=jr.1 hf
  have yG:=mN hm
  split
  ·rename_i Oz
   have h1:=(gl hw gs s yG.2 Nq).1
   have h2:=yG.1
   exact ⟨⟨by show (Es p gs s).length<=5;omega,iU yG hw Nq⟩,cn.1 Oz⟩
  ·exact ⟨⟨by simp,by simp [Cs]⟩,by simp⟩
 ·exact ⟨⟨by simp,by simp [Cs]⟩,by simp⟩
theorem pI (p:PP) (gs:List (List Int)) (s:List Int) (h:Dg p/\Cs gs/\short s):fnW Co (look [(39,Rb),(79,Zb)]) Ii Try.f43 (p,gs,s,()) (λ(z:Int)=>z=Tx p gs s):=by
 refine Eq.mp (qi p gs s _) ⟨_,if_pos h,?_⟩
 show Br (!(Fg p gs s).2.1) _ _
 unfold Tx
 refine Br.of (λhb=>?_) λhb=>?_
 ·rw [if_neg (Ci hb)]
 ·have hb:(Fg p gs s).2.1=true:=by simpa using hb
  rw [if_pos hb]
  exact ⟨_,if_pos (mw (p:=p) (gs:=gs) (s:=s)).1,rfl⟩
theorem iS:Sound Try.prog 43 Ii:=
 Sound.Cu Bj (Ah om (Ah u9 Aq)) mixed Try.func43 (by kernel_rfl) (by kernel_rfl) λx h=>pI x.1 x.2.1 x.2.2.1 h
end Go.Proofs.Ytjbdmibbbpdnnaa

namespace Go.Proofs.Ytjbdmibbbpdnnaa
open Go.RowKit
noncomputable abbrev Qw:MSpec:=xT [some 3,none,none] [(false, .Gt tI),(false, .Gt .str),(false, .Gt bC),(false, .Gt bC),(false, .Gt tL)] true [none,none] [.Dx tL 25, .Gt .bool]
 (λx=>Dg (x.1,x.2.1,x.2.2.1,())/\Cs x.2.2.2.1/\short x.2.2.2.2.1) (λx=>(((Fg (x.1,x.2.1,x.2.2.1,()) x.2.2.2.1 x.2.2.2.2.1).1,(Fg (x.1,x.2.1,x.2.2.1,()) x.2.2.2.1 x.2.2.2.2.1).2.1,()),()))
theorem AF (n:Int) (str:ByteArray) (g:List (List Int)) (gs:List (List Int)) (s:List Int) (P:((List (List Int)×Bool×Unit)×Unit)->Prop):(∃(y6:Option ((Int×ByteArray×List (List Int)×PUnit)×List (List Int)×List Int×(ByteArray->Option Int)×List Int×List Int×List (List Int)×PUnit)×Int×Bool×PUnit),Uc.fn ((n,str,g,()),s,())=some y6/\Br (!y6.2.2.1) (P ((List.take 0 (List.drop 0 []),false,()),())) (∃(y7:Bool),Gy.fn ((n,str,g,()),gs,())=some y7/\Br (!y7) (P ((List.take 0 (List.drop 0 []),false,()),())) (0=0/\0=([]:List Int).length/\Bn (λ(v8:Int×Int×List (List Int)×PUnit) (k9:Int×Int×List (List Int)×PUnit->Prop)=>Br (decide (v8.2.1<(↑gs.length:Int))) (∃(j4:List Int),idx gs v8.2.1=some j4/\ ∃(kr:List Int),Nu.fn (y6.1,j4,())=some kr/\ ∃(dC:(List Int×Int×Bool×PUnit)×PUnit),Qv.fn (y6.1,kr,v8.1,())=some dC/\Br (!dC.1.2.2.1) (P ((List.take 0 (List.drop 0 []),false,()),())) (0=0/\v8.2.2.1.length=v8.2.2.1.length/\v8.2.2.1.length+(List.take 1 (List.drop 0 [List.take dC.1.1.length (List.drop 0 dC.1.1)])).length<=Bp/\0=0/\(v8.2.2.1++List.take 1 (List.drop 0 [List.take dC.1.1.length (List.drop 0 dC.1.1)])).length=(v8.2.2.1++List.take 1 (List.drop 0 [List.take dC.1.1.length (List.drop 0 dC.1.1)])).length/\k9 (dC.1.2.1,IntKind.i64.wrap (v8.2.1+(1:Int)),v8.2.2.1++List.take 1 (List.drop 0 [List.take dC.1.1.length (List.drop 0 dC.1.1)]),()))) (P ((List.take v8.2.2.1.length (List.drop 0 v8.2.2.1),true,()),()))) (y6.2.1,(0:Int),[],PUnit.unit))))=fnMW um (look [(65,Uc),(81,Gy),(68,Nu),(67,Qv)]) Qw Try.f40 (n,str,g,gs,s,()) P:=by kernel_rfl
theorem zm (n:Int) (str:ByteArray) (g gs:List (List Int)) (s:List Int) (h:Dg (n,str,g,())/\Cs gs/\short s):
  fnMW um (look [(65,Uc),(81,Gy),(68,Nu),(67,Qv)]) Qw Try.f40 (n,str,g,gs,s,()) (λ(z:(List (List Int)×Bool×Unit)×Unit)=>z=(((Fg (n,str,g,()) gs s).1,(Fg (n,str,g,()) gs s).2.1,()),())):=by
 obtain ⟨p,hpe⟩: ∃p:PP,p=(n,str,g,()):=⟨_,rfl⟩
 refine Eq.mp (AF n str g gs s _) ?_
 rw [<-hpe] at h⊢
 obtain ⟨hp,hg,hs⟩:=h
 refine ⟨_,if_pos ⟨hp,hs⟩,?_⟩
 show Br (!(Qq p s).2.2.1) _ _
 rw [yz]
 unfold Fg
 refine Br.of (λhf=>?_) λhf=>?_
 ·have hf:Nh p s=false:=sf hf
  rw [hf,Bool.false_and,if_neg (by decide)];rfl
 have hf:Nh p s=true:=by simpa using hf
 refine ⟨_,if_pos ⟨hp,hg⟩,Br.of (λhm=>?_) λhm=>?_⟩
 ·have hm:Je p gs=false:=sf hm
  rw [hm,Bool.and_false,if_neg (by decide)];rfl
 have hm:Je p gs=true:=by simpa using hm
 obtain ⟨hw,Nq⟩:=jr.1 hf
 rw [hf,hm,Bool.and_self,if_pos rfl]
 have yG:=mN hm
 have hl5:=yG.1
 have hv:=(Cn hw).1
 have hex:Qq p s=(some (Ib p),(Pv p s).1,(Pv p s).2.1,()):=if_pos hw
 dsimp only
 rw [hex]
 obtain ⟨R,hR⟩: ∃R,Es p gs s=R:=⟨_,rfl⟩
 rw [hR]
 refine ⟨rfl,rfl,?_⟩
 dsimp only
 refine Am gs.length (λv=>v.2.1) (λj v=> ∃x out,v=((Pv p x).1,(j:Int),out,())/\x∈Ab p/\out.length=j/\out++Es p (gs.drop j) x=R/\ ∀w∈out,w.length<=200) rfl ⟨s,[],rfl,Nq,rfl,by rw [List.drop_zero];exact hR,by simp⟩ ?_
 rintro j v K hj hi ⟨x,out,rfl,hx,ho,he,hfo⟩ hK
 dsimp only
 refine Br.dec (λhl=>?_) λhl=>?_
 ·have hl:j<gs.length:=by omega
  have ht:=yG.2 _ (List.getElem_mem hl)
  obtain ⟨e1,e2,e3⟩:=kh hw ht hx
  obtain ⟨i1,i2,i3⟩:=Abz hx
  rw [List.drop_eq_getElem_cons hl] at he
  simp only [Es] at he
  have OA:Nu.fn (some (Ib p),gs[j],())=some (iw p gs[j]):=(if_pos ⟨Ib p,rfl,⟨hw,rfl⟩,(Kb.1 ht).2⟩).trans (congrArg some (ZV hw gs[j]))
  have hds:Qv.fn (some (Ib p),iw p gs[j],(Pv p x).1,())=some (Tw p (iw p gs[j]) (Pv p x).1,()):=
   if_pos ⟨Ib p,rfl,⟨hw,rfl⟩,JD hw ht,i1,by show (Pv p x).1<((iw p gs[j]).length:Int);rw [JE hw];exact i2⟩
  rw [e3] at hds
  generalize Ft p gs[j] x=w at*
  generalize iw p gs[j]=gd at*
  refine ⟨_,Ap hl,gd,OA,_,hds,?_⟩
  by_cases hc:w.length>200
  ·rw [if_pos hc]
   have hnf: ¬cL R=true:= λhf=>by
    have:=cn.1 hf w (by rw [<-he];simp)
    omega
   rw [if_neg hnf]
   exact ⟨λ_=>rfl,λhb=>by simp at hb⟩
  ·rw [if_neg hc]
   refine ⟨λhb=>by simp at hb,λ_=>⟨rfl,rfl,by show out.length+1<=4294967296;omega,rfl,rfl,?_⟩⟩
   rw [Al (by omega)]
   dsimp only
   rw [Cc]
   refine hK hl _ rfl ⟨_,_,rfl,e1,by show (out++ [w]).length=_;rw [List.length_append,List.length_singleton,ho],by show (out++ [w])++_=_;rw [List.append_assoc];exact he,λw' KB=>?_⟩
   have KB:w'∈out++ [w]:=KB
   rw [List.mem_append,List.mem_singleton] at KB
   rcases KB with KB|rfl
   ·exact hfo w' KB
   ·omega
 ·have:j=gs.length:=by omega
  subst this
  rw [List.drop_length] at he
  simp only [Es,List.append_nil] at he
  subst he
  rw [Cc,if_pos (cn.2 hfo)]
theorem oc:Dp Try.prog 40 Qw:=
 Dp.xT oI (Ah pS (Ah gf (Ah o9 (My pR Aq)))) mixed Try.func40 (by kernel_rfl) (by kernel_rfl) λx h=>zm x.1 x.2.1 x.2.2.1 x.2.2.2.1 x.2.2.2.2.1 h
end Go.Proofs.Ytjbdmibbbpdnnaa

namespace Go.Proofs.Ytjbdmibbbpdnnaa
open Go.RowKit Go.Lib
noncomputable abbrev Gx:MSpec:=xT [none,none] [(false,rL),(false, .Gt tI)] false [none] [rL] (λx=>x.1= []/\0<=x.2.1/\x.2.1<=100000) (λ_=>(([],()),()))
noncomputable abbrev Vn:Spec:=Cu (.pair bC .unit) tL false true (λx=>List.length x.1<=5/\ ∀w∈x.1,w.length<=200) (λx=>List.flatten x.1)
theorem NI (ws:List (List Int)) (P:List Int->Prop):(Bn (λ(v2:Int×Int×PUnit) (k3:Int×Int×PUnit->Prop)=>Br (decide (v2.2.1<(↑ws.length:Int))) (∃(y4:List Int),idx ws v2.2.1=some y4/\Br (decide (IntKind.i64.wrap (v2.1+(↑y4.length:Int))<(0:Int))) False (k3 (IntKind.i64.wrap (v2.1+(↑y4.length:Int)),IntKind.i64.wrap (v2.2.1+(1:Int)),()))) (∃(y4:(List Int×PUnit)×PUnit),Gx.fn ([],v2.1,())=some y4/\0=0/\y4.1.1.length=y4.1.1.length/\Bn (λ(v5:Int×List Int×PUnit) (k6:Int×List Int×PUnit->Prop)=>Br (decide (v5.1<(↑ws.length:Int))) (∃(y7:List Int),idx ws v5.1=some y7/\0=0/\v5.2.1.length=v5.2.1.length/\v5.2.1.length+y7.length<=Bp/\0=0/\(v5.2.1++y7).length=(v5.2.1++y7).length/\k6 (IntKind.i64.wrap (v5.1+(1:Int)),v5.2.1++y7,())) (P (List.take v5.2.1.length (List.drop 0 v5.2.1)))) ((0:Int),y4.1.1,PUnit.unit))) ((0:Int),(0:Int),PUnit.unit))=fnW Co (look [(134,Gx)]) Vn Try.f84 (ws,()) P:=by kernel_rfl
theorem qe (p:Int×ByteArray×List (List Int)×Unit) (gs:List (List Int)) (s:List Int) (P:Int->Prop):(∃(y4:(List (List Int)×Bool×PUnit)×PUnit),Qw.fn (p.1,p.2.1,p.2.2.1,gs,s,())=some y4/\Br (!y4.1.2.1) (P (-1:Int)) (∃(y5:List Int),Vn.fn (List.take y4.1.1.length (List.drop 0 y4.1.1),())=some y5/\ ∃(y6:Int),Ic.fn (y5,())=some y6/\P y6))=fnW Co (look [(40,Qw),(84,Vn),(82,Ic)]) Ii Try.f44 (p,gs,s,()) P:=by kernel_rfl
abbrev Xt:Type:=Int×ByteArray×List (List Int)×PUnit
theorem uE (p:Int×ByteArray×List (List Int)×Unit) (a:List (List Int)) (b:List Int) (P:Bool->Prop):(Br (decide ((↑b.length:Int)>(1048576:Int))) (P true) (∃(y4:Int),rI.fn ((p.1,p.2.1,p.2.2.1,()),(1048576:Int),())=some y4/\Br (decide (y4<(0:Int))) (P true) (∃(y5:Int),aM.fn (a,y4,())=some y5/\Br (decide (y5<(0:Int))) (P true) (∃(y6:Xt),l7.fn ((p.1,p.2.1,p.2.2.1,()),())=some y6/\ ∃(y7:List (List Int)),Vr.fn (a,())=some y7/\ ∃(y8:List Int),dg.fn (b,())=some y8/\ ∃(y9:Int),Ii.fn (y6,y7,y8,())=some y9/\ ∃(j4:Xt),l7.fn ((p.1,p.2.1,p.2.2.1,()),())=some j4/\ ∃(kr:List (List Int)),Vr.fn (a,())=some kr/\ ∃(dC:List Int),dg.fn (b,())=some dC/\ ∃(fg:Int),Ii.fn ((j4.1,j4.2.1,j4.2.2.1,()),kr,dC,())=some fg/\Br (fg !=y9) (P false) (∃(Zi:Xt),l7.fn ((p.1,p.2.1,p.2.2.1,()),())=some Zi/\ ∃(dD:Bool),rC.fn ((j4.1,j4.2.1,j4.2.2.1,()),Zi,())=some dD/\Br (!dD) (P false) (∃(fh:List (List Int)),Vr.fn (a,())=some fh/\ ∃(CX:Bool),aK.fn (kr,fh,())=some CX/\Br (!CX) (P false) (∃(ID:List Int),dg.fn (b,())=some ID/\ ∃(SG:Bool),Ef.fn (dC,ID,())=some SG/\Br (!SG) (P false) (P true))))))))=fnW Co (look [(14,rI),(34,aM),(43,Ii),(44,Ii),(16,l7),(36,Vr),(17,dg),(19,rC),(38,aK),(20,Ef)]) jW Try.f11 (p,a,b,()) P:=by kernel_rfl
theorem lX:Try.prog.follows .mixedOrders=true:=by kernel_rfl
set_option maxHeartbeats 4000000 in
set_option maxRecDepth 100000 in
theorem HP (n:Nat) (w:World) (hn:0<n) (h:n<=100000):
  Calls Try.prog 134 #[.slice none 0 0, .int .i64 n] w λe w'=>e= .returned (.slice (some ⟨w.heap.size,0,none⟩) 0 (grownCap w n 0 2))/\
   w'=w.drew.alloc (.cells (Builtin.zeroCells #[.int .i64 0] n++Builtin.zeroCells #[.int .i64 0] (grownCap w n 0 2-n)) 2):=by
 have mixed:=lX
 have h1: ¬((n:Int)<0):=by omega
 have h2:wrap64 (((0:Nat):Int)-((0:Nat):Int))=0:=by unfold wrap64;omega
 have h3:wrap64 ((n:Int)-0)=(n:Int):=by unfold wrap64;omega
 have h4:(n:Int)>0:=by omega
 obtain ⟨i0,OC,eJ,hb8,hz0⟩:=Bu (P:=Try.prog) (t:=2) (τ:=tI) (b:=8) (by kernel_rfl) (by omega)
 have eJ:i0.size=1:=eJ
 have hmul:n*i0.bytes<=100000*256:=Nat.mul_le_mul h hb8
 have hrz: ∀ty,(Builtin.append_ #[25,3] ty #[.slice none 0 0, .int .i64 n]).run Try.prog w=
   .ok (.slice (some ⟨w.heap.size,0,none⟩) n (grownCap w n 0 2)) (w.drew.alloc (.cells (Builtin.zeroCells #[.int .i64 0] n++Builtin.zeroCells #[.int .i64 0] (grownCap w n 0 2-n)) 2)):= λty=>by
  have h:=Lib.run_append_grow_zeros (P:=Try.prog) w 25 3 ty 2 i0 (.int .i64 0) .i64 .i64 (by kernel_rfl) (by kernel_rfl) OC hz0 none 0 0 [] (run_firstCells_none w.drew i0.size 0 0 0) n hn (by omega) (by omega) (by omega) (by omega)
   (by rw [Nat.zero_add];exact growslice_fits (by omega) (by omega))
  rw [Nat.zero_add,show ([]:List Value).toArray= #[] from rfl,Array.empty_append] at h
  exact h
 go_enter Try.func134,Try.ntmps134
 go_wp2_with (at_builtin;refine Lib.wpList_append_run _ rfl _ _ _ _ rfl _ _ rfl rfl _ _ (hrz _) ?_)
 all_goals (go_ret;exact ⟨rfl,rfl⟩)
set_option maxHeartbeats 4000000 in
set_option maxRecDepth 100000 in
theorem AL (w:World):
  Calls Try.prog 134 #[.slice none 0 0, .int .i64 0] w λe w'=>e= .returned (.slice none 0 0)/\w'=w:=by
 have mixed:=lX
 go_enter Try.func134,Try.ntmps134
 go_wp2
 all_goals (go_ret;exact ⟨rfl,rfl⟩)
set_option maxHeartbeats 4000000 in
set_option maxRecDepth 100000 in
theorem HQ (base:Option Addr) (c n:Nat) (w:World) (Akr:c<=9223372036854775807) (Ale:n<=100000) (qI:n<=c):
  Calls Try.prog 134 #[.slice base 0 c, .int .i64 n] w λe w'=>e= .returned (.slice base 0 c)/\w'=w:=by
 have mixed:=lX
 have h1: ¬((n:Int)<0):=by omega
 have h2:wrap64 ((c:Int)-((0:Nat):Int))=(c:Int):=by unfold wrap64;omega
 have h3:wrap64 ((n:Int)-(c:Int))=(n:Int)-(c:Int):=by unfold wrap64;omega
 have h4: ¬((n:Int)-(c:Int)>0):=by omega
 go_enter Try.func134,Try.ntmps134
 go_wp2
 all_goals (go_ret;exact ⟨rfl,rfl⟩)
set_option maxHeartbeats 4000000 in
set_option maxRecDepth 100000 in
theorem AM (ad:Addr) (c n:Nat) (cs:List Value) (w:World) (hn:c<n) (h:n<=100000) (Na:cs.length=c) (mT: ∀j v,cs[j]?=some v->w.cell? (ad.add j)=some v):
  Calls Try.prog 134 #[.slice (some ad) 0 c, .int .i64 n] w λe w'=>e= .returned (.slice (some ⟨w.heap.size,0,none⟩) 0 (grownCap w n c 2))/\
   w'=w.drew.alloc (.cells (cs.toArray++Builtin.zeroCells #[.int .i64 0] (n-c)++Builtin.zeroCells #[.int .i64 0] (grownCap w n c 2-n)) 2):=by
 have mixed:=lX
 have h1: ¬((n:Int)<0):=by omega
 have h2:wrap64 ((c:Int)-((0:Nat):Int))=(c:Int):=by unfold wrap64;omega
 have h3:wrap64 ((n:Int)-(c:Int))=(n:Int)-(c:Int):=by unfold wrap64;omega
 have h4:(n:Int)-(c:Int)>0:=by omega
 obtain ⟨i0,OC,eJ,hb8,hz0⟩:=Bu (P:=Try.prog) (t:=2) (τ:=tI) (b:=8) (by kernel_rfl) (by omega)
 have eJ:i0.size=1:=eJ
 have hmul:n*i0.bytes<=100000*256:=Nat.mul_le_mul h hb8
 have Aav:(n-c)*i0.bytes<=100000*256:=Nat.mul_le_mul (by omega) hb8
 have hck:c+(n-c)=n:=by omega
 have hold:(Builtin.firstCells i0.size c (.slice (some ad) c c)).run Try.prog w.drew= .ok cs.toArray w.drew:=run_firstCells_some w.drew i0.size c ad c c cs (by rw [eJ,Na,Nat.mul_one]) (λj v hj=>mT j v hj)
 have hrz: ∀ty,(Builtin.append_ #[25,3] ty #[.slice (some ad) c c, .int .i64 ((n:Int)-(c:Int))]).run Try.prog w=
   .ok (.slice (some ⟨w.heap.size,0,none⟩) n (grownCap w n c 2)) (w.drew.alloc (.cells (cs.toArray++Builtin.zeroCells #[.int .i64 0] (n-c)++Builtin.zeroCells #[.int .i64 0] (grownCap w n c 2-n)) 2)):= λty=>by
  have h:=Lib.run_append_grow_zeros (P:=Try.prog) w 25 3 ty 2 i0 (.int .i64 0) .i64 .i64 (by kernel_rfl) (by kernel_rfl) OC hz0 (some ad) c c cs hold (n-c) (by omega) (by omega) (by omega) (by omega) (by omega)
   (by rw [hck];exact growslice_fits (by omega) (by omega))
  rw [hck] at h
  rw [show (n:Int)-(c:Int)=((n-c:Nat):Int) by omega]
  exact h
 have hGn:n<=grownCap w n c 2:=grownCap_ge w _ _ _
 obtain ⟨G,hG⟩: ∃G,G=grownCap w n c 2:=⟨_,rfl⟩
 rw [<-hG] at hrz hGn⊢
 have Akc:G<=9223372036854775807:=by
  have:=grownCap_le_maxLen w n c 2 (by unfold maxLen;omega)
  rw [<-hG] at this
  unfold maxLen at this
  omega
 clear hold hck hG mT Na hmul Aav eJ hb8 hz0 OC
 obtain ⟨ab,ao,asp⟩:=ad
 go_enter Try.func134,Try.ntmps134
 go_wp2_with (at_builtin;refine Lib.wpList_append_run _ rfl _ _ _ _ rfl _ _ rfl rfl _ _ (hrz _) ?_)
 all_goals (go_ret;exact ⟨rfl,rfl⟩)
theorem m5 (n:Nat):(Builtin.zeroCells #[.int .i64 0] n).size=n:=by simp [Builtin.zeroCells]
theorem zO:Dp Try.prog 134 Gx:=by
 refine ⟨Uq Try.func134 (by kernel_rfl) (by kernel_rfl),λw S π us x r o g vs hA _ hIn hP hS VZ JO=>?_⟩
 obtain ⟨xs,n,⟨⟩⟩:=x
 have hp:xs= []/\0<=n/\n<=100000:=Classical.byContradiction λhn=>by
  have:Gx.fn (xs,n,())=none:=if_neg hn
  rw [this] at JO;cases JO
 have hv:Gx.fn (xs,n,())=some (([],()),()):=if_pos hp
 rw [hv] at JO
 cases JO
 obtain ⟨rfl,h0,h1⟩:=hp
 obtain ⟨N,rfl⟩:=Int.eq_ofNat_of_zero_le h0
 cases us with
 |nil=>exact hIn.elim
 |cons u us=>
 cases us with
 |nil=>exact hIn.2.elim
 |cons u1 us=>
 cases us with
 |cons u2 us=>exact hIn.2.2.elim
 |nil=>
 obtain ⟨⟨hO,hR⟩,⟨_,hI⟩,_⟩:=hIn
 obtain ⟨rfl,_⟩:=hA
 have hu1:u1= .int .i64 N:=by
  obtain ⟨cs,hc,rfl⟩:=hI
  simp only [Cells] at hc
  subst hc;rfl
 subst hu1
 have fin: ∀(w':World) (v:Value) (j5:Option Real),Ez w.heap.size (λb=>Nn π b\/Gx.gv g b) w w'->Dq j5 1 0 0 v->Lh w' (Xb S π λl=>if l=Ei 0 then j5 else none) j5 tI []->
   (∀q,j5=some q-> ∀b,q.Ax b->b<w'.heap.size/\(w.heap.size<=b\/ ∃l q',l<Ai/\π l=some q'/\q'.Ax b))-> ∀e,e=Ending.returned v->
   ∃v Oq ρ,e= .returned v/\gC Gx w' ρ (Oq.drop Gx.Qa) v/\Zk Gx π w' g Oq ()/\Ez w.heap.size (λb=>Nn π b\/Gx.gv g b) w w'/\Ha w' (Xb S π ρ) π 0 Gx.ins ()/\Ep w' (Xb S π ρ) ρ 0 Gx.outs ([],()) Oq/\
    Xd ρ (λb=>b<w'.heap.size/\(w.heap.size<=b\/ ∃l q,l<Ai/\π l=some q/\q.Ax b))/\(∀l,(∀k,k<Gx.Mp->l≠Ei k)->ρ l=none)/\(∀kj∈Gx.keeps,m9 w w' (π (Bq false kj.1)) (ρ (Ei kj.2)) (Gx.Cr ([],(N:Int),()))):=by
  intro w' v j5 hb lU hfa bN e he
  have OJ:(if Ei 0=Ei 0 then j5 else none)=j5:=if_pos rfl
  refine ⟨v,[v],λl=>if l=Ei 0 then j5 else none,he,⟨.inl rfl,trivial⟩,trivial,hb,trivial,⟨⟨?_,?_⟩,trivial⟩,⟨λl q b hl hq=>?_,λl l' q q' b hl Gk _ _=>?_⟩,λl hl=>if_neg (hl 0 (by decide)),λkj hk=>by cases hk⟩
  ·show Dq (if Ei 0=Ei 0 then j5 else none) 1 0 0 v;rw [OJ];exact lU
  ·show Lh w' _ (if Ei 0=Ei 0 then j5 else none) tI [];rw [OJ];exact hfa
  ·split at hl
   ·exact bN q hl b hq
   ·cases hl
  ·split at hl
   ·split at Gk
    ·rename_i h1 h2;rw [h1,h2]
    ·cases Gk
   ·cases hl
 have a9: ∀(cells:Array Value) (G:Nat),cells.size=G->G<=maxLen-> ∀e w',e=Ending.returned (.slice (some ⟨w.heap.size,0,none⟩) 0 G)/\w'=w.drew.alloc (.cells cells 2)->
   ∃v Oq ρ,e= .returned v/\gC Gx w' ρ (Oq.drop Gx.Qa) v/\Zk Gx π w' g Oq ()/\Ez w.heap.size (λb=>Nn π b\/Gx.gv g b) w w'/\Ha w' (Xb S π ρ) π 0 Gx.ins ()/\Ep w' (Xb S π ρ) ρ 0 Gx.outs ([],()) Oq/\
    Xd ρ (λb=>b<w'.heap.size/\(w.heap.size<=b\/ ∃l q,l<Ai/\π l=some q/\q.Ax b))/\(∀l,(∀k,k<Gx.Mp->l≠Ei k)->ρ l=none)/\(∀kj∈Gx.keeps,m9 w w' (π (Bq false kj.1)) (ρ (Ei kj.2)) (Gx.Cr ([],(N:Int),()))):=by
  intro cells G hc hG e w' ⟨he,hw⟩
  have ic:w'.heap=w.heap.push (.cells cells 2):=by rw [hw];rfl
  refine fin w' _ (some ⟨w.heap.size,0,G,λb=>b=w.heap.size,λ_=>False⟩) ⟨by rw [hw];rfl,by rw [hw];rfl,by rw [hw];rfl,by rw [ic];simp,λk hk _=>by rw [ic,Array.getElem?_push_lt hk];simp [hk]⟩ ⟨⟨w.heap.size,0,none⟩,rfl,by omega,λ_=>rfl⟩
   ⟨⟨rfl,λb hb=>hb⟩,cells,2,by rw [ic];simp,by rw [hc];simp [Ty.size],hG,by simp,λi x hx=>by simp at hx⟩ (λq hq b hb=>?_) e he
  cases hq
  have hb:b=w.heap.size:=hb
  subst hb
  exact ⟨by rw [ic];simp, .inl (Nat.le_refl _)⟩
 have h1:(N:Int)<=100000:=h1
 have hNl:N<=100000:=by omega
 show Calls Try.prog _ #[u, .int .i64 N] w _
 cases hq:π (Bq false 0) with
 |none=>
  rw [hq] at hO
  obtain ⟨rfl,_,_⟩:=hO
  by_cases hN:N=0
  ·subst hN
   refine (AL w).mono λe w' ⟨he,hw⟩=>?_
   subst hw
   exact fin _ _ none (Ez.refl _ _ _) ⟨rfl,rfl,rfl⟩ rfl (λq hq=>by cases hq) e he
  ·have hgc:=grownCap_ge w N 0 2
   have hgm:=grownCap_le_maxLen w N 0 2 (by unfold maxLen;omega)
   exact (HP N w (by omega) hNl).mono λe w' h=>a9 _ _ (by rw [Array.size_append,m5,m5];omega) hgm e w' h
 |some q=>
  rw [hq] at hO hR
  obtain ⟨ad,rfl,_,BO⟩:=hO
  obtain ⟨⟨f1,f2⟩,cur,ti,f3,f4,f5,_,_⟩:=hR
  have hqc:q.cap-0=q.cap:=Nat.sub_zero _
  rw [hqc]
  have h63:q.cap<=9223372036854775807:=by unfold maxLen at f5;omega
  by_cases hN:N<=q.cap
  ·refine (HQ (some ad) q.cap N w h63 hNl hN).mono λe w' ⟨he,hw⟩=>?_
   subst hw
   refine fin _ _ (some q) (Ez.refl _ _ _) ⟨ad,by rw [Nat.sub_zero],by omega,BO⟩ ⟨⟨f1,f2⟩,cur,ti,f3,f4,f5,by simp,λi x hx=>by simp at hx⟩ (λq' dP b hb=>?_) e he
   cases dP
   exact ⟨hP.Rx _ _ b hq hb, .inr ⟨_,q,by decide,hq,hb⟩⟩
  ·have hgc:=grownCap_ge w N q.cap 2
   have hgm:=grownCap_le_maxLen w N q.cap 2 (by unfold maxLen;omega)
   have mT:cur.size=q.o+q.cap:=by rw [f4];simp [Ty.size]
   refine (AM ad q.cap N (cur.toList.drop q.o) w (by omega) hNl (by rw [List.length_drop,Array.length_toList];omega) (λj v hj=>?_)).mono λe w' h=>a9 _ _ (by rw [Array.size_append,Array.size_append,m5,m5,List.size_toArray,List.length_drop,Array.length_toList];omega) hgm e w' h
   have hjl:=(List.getElem?_eq_some_iff.1 hj).1
   rw [List.length_drop,Array.length_toList] at hjl
   rw [BO (by omega)]
   rw [List.getElem?_drop,Array.getElem?_toList] at hj
   have yC:(⟨q.g,(q.o+0)*tI.size,none⟩:Addr).add j=⟨q.g,q.o+j,none⟩:=by simp [Addr.add,Ty.size]
   rw [yC]
   exact (cellOf f3 _).trans hj
theorem DO {ws:List (List Int)} {j:Nat} (hl:j<ws.length):(ws.take (j+1)).flatten=(ws.take j).flatten++ws[j]:=by
 rw [List.take_add_one,List.getElem?_eq_getElem hl,Option.toList_some,List.flatten_append]
 simp
theorem kD (ws:List (List Int)):((ws.flatten.length:Nat):Int)=Fk ws:=by
 unfold Fk
 rw [List.length_flatten]
theorem LN (ws:List (List Int)) (h:ws.length<=5/\ ∀w∈ws,w.length<=200):fnW Co (look [(134,Gx)]) Vn Try.f84 (ws,()) (λ(z:List Int)=>z=ws.flatten):=by
 obtain ⟨h5,h2⟩:=h
 have hb: ∀j,0<=Fk (ws.take j)/\Fk (ws.take j)<=1000:= λj=>by
  have h1:=kl (n:=200) (ws.take j) λw hw=>h2 w (List.mem_of_mem_take hw)
  have h3:=rP (ws.take j)
  rw [List.length_take] at h1
  omega
 refine Eq.mp (NI ws _) ?_
 refine Am ws.length (λv=>v.2.1) (λj v=>v=(Fk (ws.take j),(j:Int),())) rfl rfl ?_
 rintro j v K hj hi rfl hK
 dsimp only
 have hbj:=hb j
 refine Br.dec (λhl=>?_) λhl=>?_
 ·have hl:j<ws.length:=by omega
  have hw:=h2 _ (List.getElem_mem hl)
  refine ⟨_,Ap hl,?_⟩
  rw [Bt (by omega) (by omega)]
  refine Br.dec (λhn=>by omega) λ_=>?_
  rw [Al (by omega)]
  refine hK hl _ rfl ?_
  rw [List.take_add_one,List.getElem?_eq_getElem hl,Option.toList_some,gn,gp]
 ·refine ⟨_,if_pos ⟨rfl,hbj.1,by have:=hbj.2;show Fk (ws.take j)<=100000;omega⟩,rfl,rfl,?_⟩
  refine Am ws.length (λv=>v.1) (λi v=>v=((i:Int),(ws.take i).flatten,())) rfl rfl ?_
  rintro i v K' eH hii rfl UY
  dsimp only
  have hbi:=hb i
  rw [<-kD] at hbi
  refine Br.dec (λGk=>?_) λGk=>?_
  ·have Gk:i<ws.length:=by omega
   have hw:=h2 _ (List.getElem_mem Gk)
   refine ⟨_,Ap Gk,rfl,rfl,by show _<=4294967296;omega,rfl,rfl,?_⟩
   rw [Al (by omega)]
   refine UY Gk _ rfl ?_
   rw [DO Gk]
  ·have:i=ws.length:=by omega
   subst this
   rw [Cc,List.take_length]
theorem tW:Sound Try.prog 84 Vn:=
 Sound.Cu Bj (My zO Aq) mixed Try.func84 (by kernel_rfl) (by kernel_rfl) λx h=>LN x.1 h
theorem pE (p:PP) (gs:List (List Int)) (s:List Int) (h:Dg p/\Cs gs/\short s):fnW Co (look [(40,Qw),(84,Vn),(82,Ic)]) Ii Try.f44 (p,gs,s,()) (λ(z:Int)=>z=Tx p gs s):=by
 refine Eq.mp (qe p gs s _) ⟨_,if_pos h,?_⟩
 show Br (!(Fg p gs s).2.1) _ _
 unfold Tx
 have hb:=mw (p:=p) (gs:=gs) (s:=s)
 refine Br.of (λhf=>?_) λhf=>?_
 ·rw [if_neg (Ci hf)]
 ·have hf:(Fg p gs s).2.1=true:=by simpa using hf
  rw [if_pos hf]
  show ∃y5,Vn.fn (List.take (Fg p gs s).1.length (List.drop 0 (Fg p gs s).1),())=some y5/\_
  rw [Cc]
  exact ⟨_,if_pos ⟨hb.1.1,hb.2⟩,_,if_pos trivial,kD _⟩
theorem iO:Sound Try.prog 44 Ii:=
 Sound.Cu Bj (My oc (Ah tW (Ah Rd Aq))) mixed Try.func44 (by kernel_rfl) (by kernel_rfl) λx h=>pE x.1 x.2.1 x.2.2.1 h
theorem tt (p:PP) (a:List (List Int)) (b:List Int) (h:Dg p/\Cs a/\short b):fnW Co (look [(14,rI),(34,aM),(43,Ii),(44,Ii),(16,l7),(36,Vr),(17,dg),(19,rC),(38,aK),(20,Ef)]) jW Try.f11 (p,a,b,()) (λ(z:Bool)=>z=true):=by
 have h0:Dg (p.1,p.2.1,p.2.2.1,()):=h.1
 have h1:Cs a:=h.2.1
 have h2:short b:=h.2.2
 refine Eq.mp (uE p a b _) ?_
 refine Br.dec (λ_=>rfl) λAlb=>?_
 refine ⟨_,if_pos ⟨h0,x9⟩,Br.dec (λ_=>rfl) λAh5=>?_⟩
 have QM:(((Le p.2.2.1:Nat):Nat):Int)<=(1048576)-(Tb (p.1,p.2.1,p.2.2.1,()) (1048576))/\roomy (Tb (p.1,p.2.1,p.2.2.1,()) (1048576)):=MP x9 Ah5
 have Amh:=QM.1
 have Alr:0<=Tb (p.1,p.2.1,p.2.2.1,()) (1048576)/\Tb (p.1,p.2.1,p.2.2.1,()) (1048576)<=4294967296:=QM.2
 refine ⟨_,if_pos ⟨h1,QM.2⟩,Br.dec (λ_=>rfl) λAh4=>?_⟩
 have Abp:(((Le a:Nat):Nat):Int)<=(Tb (p.1,p.2.1,p.2.2.1,()) (1048576))-(Js a (Tb (p.1,p.2.1,p.2.2.1,()) (1048576)))/\roomy (Js a (Tb (p.1,p.2.1,p.2.2.1,()) (1048576))):=GU QM.2 Ah4
 have Amg:=Abp.1
 have Alq:0<=Js a (Tb (p.1,p.2.1,p.2.2.1,()) (1048576))/\Js a (Tb (p.1,p.2.1,p.2.2.1,()) (1048576))<=4294967296:=Abp.2
 have l0:low (1+(Le p.2.2.1:Nat)):=⟨by omega,by omega⟩
 have l1:low (1+(Le p.2.2.1:Nat)+(Le a:Nat)):=⟨by omega,by omega⟩
 have l2:low (1+(Le p.2.2.1:Nat)+(Le a:Nat)+(b.length:Nat)):=⟨by omega,by omega⟩
 refine ⟨_,if_pos h0,_,if_pos h1,_,if_pos h2,?_⟩
 refine ⟨_,if_pos ⟨h0,h1,h2⟩,_,if_pos h0,_,if_pos h1,_,if_pos h2,?_⟩
 generalize he0:Tx p a b=g0
 refine ⟨_,if_pos ⟨h0,h1,h2⟩,?_⟩
 simp only [he0]
 refine ⟨λhe=>KL he,λ_=>?_⟩
 refine ⟨_,if_pos h0,_,if_pos h0,⟨λhe=>absurd (z6 _) (Ci he),λ_=>?_⟩⟩
 refine ⟨_,if_pos h1,?_⟩
 refine ⟨_,if_pos h1,⟨λhe=>absurd (wx _) (Ci he),λ_=>?_⟩⟩
 refine ⟨_,if_pos h2,?_⟩
 refine ⟨_,if_pos h2,⟨λhe=>absurd (jC _) (Ci he),λ_=>?_⟩⟩
 first|rfl|trivial
theorem kb:Sound Try.prog 11 jW:=
 Sound.Cu Bj (Ah GO (Ah oq (Ah iS (Ah iO (Ah GP (Ah ou (Ah rO (Ah GH (Ah o8 (Ah rM Aq)))))))))) mixed Try.func11 (by kernel_rfl) (by kernel_rfl) λx h=>tt x.1 x.2.1 x.2.2.1 h
end Go.Proofs.Ytjbdmibbbpdnnaa
