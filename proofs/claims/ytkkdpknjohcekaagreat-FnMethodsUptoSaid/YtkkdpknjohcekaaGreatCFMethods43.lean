/-
  Part 44 of the proof that the statement FnMethods holds.
-/
import Derived.Test.YtkkdpknjohcekaaGreatCFMethods42
import Derived.Shelf.RegionOpenPlain
import Derived.WalkKit
import Derived.Lib.Walk
import Derived.Lib.SliceRun
import Derived.Lib.AppendZerosOnto
namespace Go.Proofs.YtkkdpknjohcekaaGreat
open Go.RowKit
noncomputable abbrev Th:Spec:=Gk (.pair tU (.pair tU .unit)) (.pair tU (.pair tU .unit)) true true (λx=>x.1=1/\0<=x.2.1/\x.2.1<=100000) (λx=>(0,x.2.1,()))
noncomputable abbrev eQ:MSpec:=vV [none,none] [(false, .Hw tL),(false, .Hw tI)] false [none] [rL] (λx=>(∃v,x.1= [v])/\1<=x.2.1/\x.2.1<=100000) (λx=>((List.replicate x.2.1.toNat (x.1.getD 0 0),()),()))
theorem Agz (x y:Int) (P:(Int×Int×Unit)->Prop):(¬(32:Int)<(0:Int)/\ ¬(32:Int)<(0:Int)/\ ¬(32:Int)<(0:Int)/\ ¬(32:Int)<(0:Int)/\ ¬(32:Int)<(0:Int)/\P (IntKind.u64.wrap (IntKind.u64.wrap (IntKind.u64.wrap (x.fdiv ((2:Int)^min (Int.toNat (32:Int)) IntKind.u64.bits)*y.fdiv ((2:Int)^min (Int.toNat (32:Int)) IntKind.u64.bits))+(IntKind.u64.wrap (IntKind.u64.wrap (x.fdiv ((2:Int)^min (Int.toNat (32:Int)) IntKind.u64.bits)*IntKind.u64.wrap (↑(BitVec.ofInt IntKind.u64.bits y&&&BitVec.ofInt IntKind.u64.bits (4294967295:Int)).toNat:Int))+(IntKind.u64.wrap (IntKind.u64.wrap (↑(BitVec.ofInt IntKind.u64.bits x&&&BitVec.ofInt IntKind.u64.bits (4294967295:Int)).toNat:Int)*IntKind.u64.wrap (↑(BitVec.ofInt IntKind.u64.bits y&&&BitVec.ofInt IntKind.u64.bits (4294967295:Int)).toNat:Int))).fdiv ((2:Int)^min (Int.toNat (32:Int)) IntKind.u64.bits))).fdiv ((2:Int)^min (Int.toNat (32:Int)) IntKind.u64.bits))+(IntKind.u64.wrap (IntKind.u64.wrap (↑(BitVec.ofInt IntKind.u64.bits (IntKind.u64.wrap (IntKind.u64.wrap (x.fdiv ((2:Int)^min (Int.toNat (32:Int)) IntKind.u64.bits)*IntKind.u64.wrap (↑(BitVec.ofInt IntKind.u64.bits y&&&BitVec.ofInt IntKind.u64.bits (4294967295:Int)).toNat:Int))+(IntKind.u64.wrap (IntKind.u64.wrap (↑(BitVec.ofInt IntKind.u64.bits x&&&BitVec.ofInt IntKind.u64.bits (4294967295:Int)).toNat:Int)*IntKind.u64.wrap (↑(BitVec.ofInt IntKind.u64.bits y&&&BitVec.ofInt IntKind.u64.bits (4294967295:Int)).toNat:Int))).fdiv ((2:Int)^min (Int.toNat (32:Int)) IntKind.u64.bits)))&&&BitVec.ofInt IntKind.u64.bits (4294967295:Int)).toNat:Int)+IntKind.u64.wrap (IntKind.u64.wrap (↑(BitVec.ofInt IntKind.u64.bits x&&&BitVec.ofInt IntKind.u64.bits (4294967295:Int)).toNat:Int)*y.fdiv ((2:Int)^min (Int.toNat (32:Int)) IntKind.u64.bits)))).fdiv ((2:Int)^min (Int.toNat (32:Int)) IntKind.u64.bits)),IntKind.u64.wrap (x*y),()))=fnW kY (look []) Th Tryz.f186 (x,y,()) P:=by kernel_rfl
theorem Alu (x y:Int) (P:(Int×Int×Unit)->Prop):(∃(y3:Int×Int×PUnit),Th.fn (x,y,())=some y3/\P (y3.1,y3.2.1,()))=fnW kY (look [(186,Th)]) Th Tryz.f182 (x,y,()) P:=by kernel_rfl
theorem Adh (xs:List Int) (n:Int) (P:((List Int×Unit)×Unit)->Prop):(Br (decide (n<(0:Int))) False (∃(y3:Int×Int×PUnit),Th.fn (IntKind.u64.wrap (↑xs.length:Int),IntKind.u64.wrap n,())=some y3/\Br (decide (y3.1>(0:Int))) False (Br (decide (y3.2.1>(9223372036854775807:Int))) False (((0:Int)<=IntKind.i64.wrap y3.2.1/\IntKind.i64.wrap y3.2.1<(↑Ea:Int)+(1:Int))/\IntKind.i64.wrap y3.2.1=IntKind.i64.wrap y3.2.1/\0=0/\(List.replicate (IntKind.i64.wrap y3.2.1).toNat (Int.ofNat (nat_lit 0))).length=(Dt (List.replicate (IntKind.i64.wrap y3.2.1).toNat (Int.ofNat (nat_lit 0))) 0 (List.take (List.replicate (IntKind.i64.wrap y3.2.1).toNat (Int.ofNat (nat_lit 0))).length xs)).length/\Dn (λ(v4:Int×List Int×PUnit) (k5:Int×List Int×PUnit->Prop)=>Br (decide (v4.1<(↑v4.2.1.length:Int))) (((0:Int)<=v4.1/\v4.1<=(↑v4.2.1.length:Int)/\(↑v4.2.1.length:Int)<=(↑v4.2.1.length:Int))/\((0:Int)<=(0:Int)/\(0:Int)<=v4.1/\v4.1<=(↑v4.2.1.length:Int))/\0=0/\v4.2.1.length=(Dt v4.2.1 (0+v4.1.toNat) (List.take ((↑v4.2.1.length:Int).toNat-v4.1.toNat) (List.take (v4.1.toNat-Int.toNat (0:Int)) (List.drop (0+Int.toNat (0:Int)) v4.2.1)))).length/\k5 (IntKind.i64.wrap (v4.1+(↑(min ((↑v4.2.1.length:Int).toNat-v4.1.toNat) (List.take (v4.1.toNat-Int.toNat (0:Int)) (List.drop (0+Int.toNat (0:Int)) v4.2.1)).length):Int)),Dt v4.2.1 (0+v4.1.toNat) (List.take ((↑v4.2.1.length:Int).toNat-v4.1.toNat) (List.take (v4.1.toNat-Int.toNat (0:Int)) (List.drop (0+Int.toNat (0:Int)) v4.2.1))),())) (P ((List.take v4.2.1.length (List.drop 0 v4.2.1),()),()))) ((↑(min (List.replicate (IntKind.i64.wrap y3.2.1).toNat (Int.ofNat (nat_lit 0))).length xs.length):Int),Dt (List.replicate (IntKind.i64.wrap y3.2.1).toNat (Int.ofNat (nat_lit 0))) 0 (List.take (List.replicate (IntKind.i64.wrap y3.2.1).toNat (Int.ofNat (nat_lit 0))).length xs),PUnit.unit)))))=fnMW kY (look [(182,Th)]) eQ Tryz.f172 (xs,n,()) P:=by kernel_rfl
theorem ZC {y:Int} (h0:0<=y) (h:y<4294967296):(((BitVec.ofInt IntKind.u64.bits y)&&&(BitVec.ofInt IntKind.u64.bits 4294967295)).toNat:Int)=y:=by
 obtain ⟨n,rfl⟩:=Ci h0
 show ((((BitVec.ofInt 64 (n:Int))&&&(BitVec.ofInt 64 4294967295)).toNat:Nat):Int)=(n:Int)
 have e1:(BitVec.ofInt 64 (n:Int)).toNat=n:=by rw [BitVec.toNat_ofInt];omega
 have e2:(BitVec.ofInt 64 4294967295).toNat=2^32-1:=by decide
 rw [BitVec.toNat_and,e1,e2,Nat.and_two_pow_sub_one_eq_mod]
 omega
theorem KH {n:Int} (h1:0<=n) (h2:n<18446744073709551616):IntKind.u64.wrap n=n:=by rw [IntKind.wrap_u64];omega
theorem Ag4 (x y:Int) (h:x=1/\0<=y/\y<=100000):fnW kY (look []) Th Tryz.f186 (x,y,()) (λ(z:Int×Int×Unit)=>z=(0,y,())):=by
 obtain ⟨rfl,h1,h2⟩:=h
 have e32:(2:Int)^min (Int.toNat (32:Int)) IntKind.u64.bits=4294967296:=by decide
 have e1:(1:Int).fdiv 4294967296=0:=by decide
 have e0:(0:Int).fdiv 4294967296=0:=by decide
 have ey:y.fdiv 4294967296=0:=by rw [Int.fdiv_eq_ediv_of_nonneg _ (by omega)];omega
 refine Eq.mp (Agz 1 y _) ⟨by omega,by omega,by omega,by omega,by omega,?_⟩
 rw [e32]
 simp only [e1,ey,e0,ZC h1 (show y<4294967296 by omega),ZC (show (0:Int)<=1 by omega) (show (1:Int)<4294967296 by omega),ZC (show (0:Int)<=0 by omega) (show (0:Int)<4294967296 by omega),Int.zero_mul,Int.mul_zero,Int.one_mul,Int.zero_add,Int.add_zero,
  KH h1 (show y<18446744073709551616 by omega),KH (show (0:Int)<=0 by omega) (show (0:Int)<18446744073709551616 by omega),KH (show (0:Int)<=1 by omega) (show (1:Int)<18446744073709551616 by omega)]
theorem IW:Sound Tryz.prog 186 Th:=
 Sound.Gk PS Bl mixed Tryz.func186 (by kernel_rfl) (by kernel_rfl) λx h=>Ag4 x.1 x.2.1 h
theorem Al2 (x y:Int) (h:x=1/\0<=y/\y<=100000):fnW kY (look [(186,Th)]) Th Tryz.f182 (x,y,()) (λ(z:Int×Int×Unit)=>z=(0,y,())):=
 Eq.mp (Alu x y _) ⟨_,Ab h,rfl⟩
theorem PA:Sound Tryz.prog 182 Th:=
 Sound.Gk PS (Au IW Bl) mixed Tryz.func182 (by kernel_rfl) (by kernel_rfl) λx h=>Al2 x.1 x.2.1 h
theorem rv {α:Type} (a b:α) {k m j:Nat} (h1:k+j<=m):Dt (List.replicate k a++List.replicate (m-k) b) k (List.replicate j a)=List.replicate (k+j) a++List.replicate (m-(k+j)) b:=by
 unfold Dt
 have e1:(List.replicate k a++List.replicate (m-k) b).take k=List.replicate k a:=List.take_left' (by simp)
 have e2:(List.replicate k a++List.replicate (m-k) b).drop (k+(List.replicate j a).length)=List.replicate (m-(k+j)) b:=by
  rw [Ej,List.drop_append,Ej,List.drop_replicate,List.drop_replicate,show k-(k+j)=0 by omega,show m-k-(k+j-k)=m-(k+j) by omega]
  rfl
 rw [e1,e2,<-List.replicate_append_replicate (n:=k) (m:=j)]
theorem Abu (xs:List Int) (n:Int) (h:(∃v,xs= [v])/\1<=n/\n<=100000):fnMW kY (look [(182,Th)]) eQ Tryz.f172 (xs,n,()) (λ(z:(List Int×Unit)×Unit)=>z=((List.replicate n.toNat (xs.getD 0 0),()),())):=by
 obtain ⟨⟨v,rfl⟩,h1,h2⟩:=h
 obtain ⟨m,rfl⟩:=Ci (show 0<=n by omega)
 have e1:IntKind.u64.wrap (([v]:List Int).length:Int)=1:=KH (by simp) (by simp)
 have e2:IntKind.u64.wrap (m:Int)=(m:Int):=KH (by omega) (by omega)
 have e3:IntKind.i64.wrap (m:Int)=(m:Int):=Ct (by omega) (by omega)
 have hmul:Th.fn (IntKind.u64.wrap (([v]:List Int).length:Int),IntKind.u64.wrap (m:Int),())=some (0,(m:Int),()):=by
  rw [e1,e2];exact Ab ⟨rfl,by show (0:Int)<=m;omega,by show (m:Int)<=100000;omega⟩
 refine Eq.mp (Adh [v] m _) (Br.dec (λhb=>absurd hb (by omega)) λ_=>⟨_,hmul,Br.dec (λhb=>absurd hb (by show ¬(0:Int)>0;omega)) λ_=>Br.dec (λhb=>absurd hb (by show ¬(m:Int)>9223372036854775807;omega)) λ_=>?_⟩)
 dsimp only
 rw [e3]
 have Ave:Dt (List.replicate (m:Int).toNat (Int.ofNat 0)) 0 (List.take (List.replicate (m:Int).toNat (Int.ofNat 0)).length [v])=List.replicate 1 v++List.replicate (m-1) 0:=by
  rw [Ae,Ej,Ta (by simp;omega)]
  have:=rv v (0:Int) (k:=0) (m:=m) (j:=1) (by omega)
  simpa using this
 rw [Ave]
 refine ⟨⟨by omega,by show (m:Int)<(4294967296:Int)+1;omega⟩,rfl,rfl,by simp;omega,?_⟩
 refine Dn.mk (λw=> ∃k:Nat,1<=k/\k<=m/\w=((k:Int),List.replicate k v++List.replicate (m-k) 0,())) (λw=>m-w.1.toNat) ⟨1,Aq _,by omega,?_⟩ ?_
 ·have:min (List.replicate (m:Int).toNat (Int.ofNat 0)).length ([v]:List Int).length=1:=by simp;omega
  rw [this]
  first|rfl|skip
 rintro w ⟨k,k1,k2,rfl⟩
 dsimp only
 have hlen:(List.replicate k v++List.replicate (m-k) (0:Int)).length=m:=by simp;omega
 rw [hlen]
 refine Br.dec (λhl=>?_) λhl=>?_
 ·have hl:k<m:=by omega
  obtain ⟨j,hj⟩: ∃j,min (m-k) k=j:=⟨_,rfl⟩
  have ht0:List.take (((k:Int)).toNat-Int.toNat (0:Int)) (List.drop (0+Int.toNat (0:Int)) (List.replicate k v++List.replicate (m-k) (0:Int)))=List.replicate k v:=by
   have e0:Int.toNat (0:Int)=0:=rfl
   rw [e0,Ae,Eo,Nat.sub_zero,Dr,List.take_left' (by simp)]
  have ht:List.take ((m:Int).toNat-((k:Int)).toNat) (List.replicate k v)=List.replicate j v:=by
   rw [Ae,Ae,List.take_replicate,hj]
  have Ao1:min ((m:Int).toNat-((k:Int)).toNat) (List.replicate k v).length=j:=by rw [Ej,Ae,Ae];exact hj
  rw [ht0,ht,Ao1,Ae,Bt,rv v (0:Int) (by omega)]
  refine ⟨⟨by omega,by omega,by omega⟩,⟨by omega,by omega,by omega⟩,rfl,by simp;omega,⟨k+j,by omega,by omega,?_⟩,?_⟩
  ·rw [Ct (by omega) (by omega)]
   rfl
  ·rw [Ct (by omega) (by omega)]
   omega
 ·have:k=m:=by omega
  subst this
  rw [Nat.sub_self,List.replicate_zero,iH,Dr,Ta (by simp),Ae]
  rfl
theorem CF:Eu Tryz.prog 172 eQ:=
 Eu.vV PS (Au PA Bl) mixed Tryz.func172 (by kernel_rfl) (by kernel_rfl) λx h=>Abu x.1 x.2.1 h
def ye (g:List (List Int)) (L:List (List Int)) (x:List Int):List Int:=(Az g.length).map λl=>((L.idxOf (Aj x (Ax g l)):Nat):Int)
theorem bt {g:List (List Int)} {k:Int} {x:List Int} {d:Int} : ∀(ls:List Int) (s:EX) (row:List Int),∃A,(cL g k x d ls s row).1.1=s.1++A
 | [],s,row=>⟨[],by simp [cL]⟩
 |l::ls,s,row=>by
  simp only [cL]
  split
  ·exact bt ls s _
  ·obtain ⟨A,h⟩:=bt (g:=g) (k:=k) (x:=x) (d:=d) ls (s.1++ [Aj x (Ax g l)],s.2.1++ [d+1],s.2.2.1++ [k],s.2.2.2++ [l]) (row++ [(s.1.length:Int)])
   exact ⟨_::A,by rw [h,Bm];rfl⟩
theorem MM {L A:List (List Int)} {y:List Int} (h:y∈L):(L++A).idxOf y=L.idxOf y:=by rw [List.idxOf_append,Ab h]
theorem UQ {L A:List (List Int)} {y:List Int} (h:y∉L):(L++y::A).idxOf y=L.length:=by
 rw [List.idxOf_append,Ai h,List.idxOf_cons_self];simp
theorem pA {g:List (List Int)} {k:Int} {x:List Int} {d:Int} : ∀(ls:List Int) (s:EX) (row:List Int) (A:List (List Int)),
  (cL g k x d ls s row).2=row++ls.map λl=>((((cL g k x d ls s row).1.1++A).idxOf (Aj x (Ax g l)):Nat):Int)
 | [],s,row,A=>by simp [cL]
 |l::ls,s,row,A=>by
  simp only [cL]
  split
  ·rename_i hm
   obtain ⟨B,hB⟩:=bt (g:=g) (k:=k) (x:=x) (d:=d) ls s (row++ [(s.1.idxOf (Aj x (Ax g l)):Int)])
   rw [pA ls s _ A,Bm,Bz,hB,Bm,MM hm]
   rfl
  ·rename_i hm
   obtain ⟨B,hB⟩:=bt (g:=g) (k:=k) (x:=x) (d:=d) ls (s.1++ [Aj x (Ax g l)],s.2.1++ [d+1],s.2.2.1++ [k],s.2.2.2++ [l]) (row++ [(s.1.length:Int)])
   rw [pA ls _ _ A,Bm,Bz,hB]
   dsimp only
   rw [Bm,Bm,List.singleton_append,Kj,UQ hm]
   try rfl
theorem xB {g:List (List Int)} {ls:List Int} : ∀(f k:Nat) (s:EX) (N:List (List Int)),∃A,(dD g ls f k s N).1.1=s.1++A
 |0,k,s,N=>⟨[],by simp [dD]⟩
 |f+1,k,s,N=>by
  simp only [dD]
  split
  ·obtain ⟨A,hA⟩:=bt (g:=g) (k:=(k:Int)) (x:=s.1.getD k []) (d:=s.2.1.getD k 0) ls s []
   obtain ⟨B,hB⟩:=xB (g:=g) (ls:=ls) f (k+1) (cL g (k:Int) (s.1.getD k []) (s.2.1.getD k 0) ls s []).1 (N++ [(cL g (k:Int) (s.1.getD k []) (s.2.1.getD k 0) ls s []).2])
   exact ⟨A++B,by rw [hB,hA,Bm]⟩
  ·exact ⟨[],by simp⟩
theorem xC {g:List (List Int)} : ∀(f k:Nat) (s:EX) (N:List (List Int)),(dD g (Az g.length) f k s N).1.1.length<=f+k->
  (dD g (Az g.length) f k s N).2=N++((dD g (Az g.length) f k s N).1.1.drop k).map (ye g (dD g (Az g.length) f k s N).1.1)
 |0,k,s,N,h=>by
  simp only [dD] at h⊢
  rw [List.drop_of_length_le (by omega)]
  simp
 |f+1,k,s,N,h=>by
  simp only [dD] at h⊢
  split
  ·rename_i hk
   rw [Ab hk] at h
   obtain ⟨A,hA⟩:=bt (g:=g) (k:=(k:Int)) (x:=s.1.getD k []) (d:=s.2.1.getD k 0) (Az g.length) s []
   obtain ⟨B,hB⟩:=xB (g:=g) (ls:=Az g.length) f (k+1) (cL g (k:Int) (s.1.getD k []) (s.2.1.getD k 0) (Az g.length) s []).1 (N++ [(cL g (k:Int) (s.1.getD k []) (s.2.1.getD k 0) (Az g.length) s []).2])
   have Yq:=pA (g:=g) (k:=(k:Int)) (x:=s.1.getD k []) (d:=s.2.1.getD k 0) (Az g.length) s [] B
   rw [<-hB,iJ] at Yq
   rw [xC f (k+1) _ _ (by omega),Bm]
   congr 1
   generalize hR:dD g (Az g.length) f (k+1) _ _=R at*
   have hkR:k<R.1.1.length:=by rw [hB,hA,Aw,Aw];omega
   rw [Cc hkR,Bz,List.singleton_append]
   congr 1
   have e:R.1.1[k]=s.1.getD k []:=by
    rw [<-Es (d:= []) hkR,hB,hA,Bm,Ke hk]
   rw [Yq,e]
   rfl
  ·rename_i hk
   rw [List.drop_of_length_le (by show s.1.length<=k;omega)]
   simp
theorem UB {p:PP} (hw:Db p=true):(Ig p).2.2.2.2.2.2.1=(Al p).map (ye p.2.2.1 (Al p)):=by
 have h1:=(zz hw).1
 have h2:=oR (Dd hw).1
 have h3:=xC (g:=p.2.2.1) 3001 0 ([upto p.1.toNat],[0],[0],[0]) [] (by
  show (Ig p).2.1.length<=3001+0
  rw [h1];omega)
 have h4:(dD p.2.2.1 (Az p.2.2.1.length) 3001 0 ([upto p.1.toNat],[0],[0],[0]) []).1.1=Al p:=h1
 rw [h4,iJ,Dr] at h3
 exact h3
noncomputable def Lf (p:PP) (i:Nat):List Int:=ye p.2.2.1 (Al p) ((Al p).getD i [])
theorem Oj {p:PP} (hw:Db p=true):pe p.2.2.1 (Az p.2.2.1.length) (Al p):=by
 obtain ⟨hv,hb⟩:=Dd hw
 have hV:=valid hv
 have hn:=hV.n
 exact ly hV (gm hv) (m8 hv (by rw [Li];omega) (λy hy=>by have:=Mr.1 hy;omega) hb)
theorem yS {p:PP} (hw:Db p=true):pf p.2.2.1 (Az p.2.2.1.length) (Al p) (Gh p):=by
 obtain ⟨hv,hb⟩:=Dd hw
 have hn:=(valid hv).n
 exact m8 hv (by rw [Li];omega) (λy hy=>by have:=Mr.1 hy;omega) hb
theorem NF {p:PP} (hw:Db p=true) {i:Nat} (hi:i<(Al p).length) {l:Int} (hl:l∈Az p.2.2.1.length):
  (Al p).idxOf (Aj ((Al p).getD i []) (Ax p.2.2.1 l))<(Al p).length/\
  (Al p).getD ((Al p).idxOf (Aj ((Al p).getD i []) (Ax p.2.2.1 l))) []=Aj ((Al p).getD i []) (Ax p.2.2.1 l):=by
 have hm:=(Oj hw).next _ (Nk hi) l hl
 have h1:=Hm hm
 exact ⟨h1,by rw [Es h1];exact Ud h1⟩
theorem oo {p:PP} (hw:Db p=true):lV (Lf p) (Al p).length:= λi hi t ht=>by
 obtain ⟨l,hl,rfl⟩:=Bf.1 ht
 have:=(NF hw hi hl).1
 omega
theorem oQ {p:PP} (hw:Db p=true) (Q:List Int->Prop) (hQ: ∀x∈Al p,Q x-> ∀l∈Az p.2.2.1.length,Q (Aj x (Ax p.2.2.1 l))) {x:List Int} (hx:x∈Al p) (hq:Q x):
  ∀y∈Al p,Q y:=by
 have hc:=Oj hw
 have hL:=yS hw
 have up: ∀(j:Nat),j<(Al p).length->Q ((Al p).getD j [])->Q ((Al p).getD 0 []):=by
  intro j
  induction j using Nat.strongRecOn with
  |_ j ih=>
   intro hj hqj
   by_cases e:j=0
   ·subst e;exact hqj
   ·obtain ⟨i,l,h1,h2,h3,_⟩:=hL.par j (by omega) hj
    have hi:i<(Al p).length:=by omega
    obtain ⟨b1,b2⟩:=hc.back _ (Nk hi) l h2
    refine ih i h1 hi ?_
    have:=hQ _ (Nk hj) hqj _ b1
    rwa [h3,b2] at this
 have down:Q ((Al p).getD 0 [])-> ∀(j:Nat),j<(Al p).length->Q ((Al p).getD j []):=by
  intro h0 j
  induction j using Nat.strongRecOn with
  |_ j ih=>
   intro hj
   by_cases e:j=0
   ·subst e;exact h0
   ·obtain ⟨i,l,h1,h2,h3,_⟩:=hL.par j (by omega) hj
    have hi:i<(Al p).length:=by omega
    rw [h3]
    exact hQ _ (Nk hi) (ih i h1 hi) l h2
 obtain ⟨j,hj,rfl⟩:=Bg.1 hx
 rw [<-Es (d:= []) hj] at hq
 intro y hy
 obtain ⟨k,hk,rfl⟩:=Bg.1 hy
 rw [<-Es (d:= []) hk]
 exact down (up j hj hq) k hk
theorem Aeq {p:PP} (hw:Db p=true) (S:Nat->Bool) {i0:Nat} (hi0:i0<(Al p).length) (hS:S i0=true):
  Lc p.2.2.1 (Az p.2.2.1.length) (Al p) (λx=>S ((Al p).idxOf x)=true) (λx=>(rX (Lf p) S (Al p).length).getD ((Al p).idxOf x) 0):=by
 have hd:=Ah9 (S:=S) (oo hw)
 have rS:=(JC hw).nodup
 have hc:=Oj hw
 have ix: ∀ {x:List Int},x∈Al p->(Al p).idxOf x<(Al p).length/\(Al p).getD ((Al p).idxOf x) []=x:= λ {x} hx=>by
  have h1:=Hm hx
  exact ⟨h1,by rw [Es h1];exact Ud h1⟩
 have st: ∀x∈Al p,0<=(rX (Lf p) S (Al p).length).getD ((Al p).idxOf x) 0-> ∀l∈Az p.2.2.1.length,
   0<=(rX (Lf p) S (Al p).length).getD ((Al p).idxOf (Aj x (Ax p.2.2.1 l))) 0/\
   (rX (Lf p) S (Al p).length).getD ((Al p).idxOf (Aj x (Ax p.2.2.1 l))) 0<=(rX (Lf p) S (Al p).length).getD ((Al p).idxOf x) 0+1:= λx hx h0 l hl=>by
  obtain ⟨i1,i2⟩:=ix hx
  have:=hd.done _ i1 h0 (by simp) (λh=>h) (((Al p).idxOf (Aj x (Ax p.2.2.1 l)):Nat):Int) (Bf.2 ⟨l,hl,by rw [i2]⟩)
  rwa [Ae] at this
 have nn: ∀x∈Al p,0<=(rX (Lf p) S (Al p).length).getD ((Al p).idxOf x) 0:=by
  refine oQ hw _ (λx hx h0 l hl=>(st x hx h0 l hl).1) (Nk hi0) ?_
  rw [Mi rS hi0,hd.src i0 hi0 hS]
  exact Kl _
 refine ⟨nn,λx hx=>⟨λh0=>hd.Agh _ (ix hx).1 h0,λhs=>hd.src _ (ix hx).1 hs⟩,λx hx l hl=>(st x hx (nn x hx) l hl).2,λx hx h0=>?_⟩
 obtain ⟨j,j1,j2,j3⟩:=hd.par _ (ix hx).1 h0
 obtain ⟨l,hl,hlj⟩:=Bf.1 j2
 obtain ⟨n1,n2⟩:=NF hw j1 hl
 have e:(Al p).idxOf (Aj ((Al p).getD j []) (Ax p.2.2.1 l))=(Al p).idxOf x:=by omega
 obtain ⟨b1,b2⟩:=hc.back _ (Nk j1) l hl
 rw [e,(ix hx).2] at n2
 refine ⟨-l,b1,?_⟩
 have e5:Aj x (Ax p.2.2.1 (-l))=(Al p).getD j []:=(Et (λz=>Aj z (Ax p.2.2.1 (-l))) n2).trans b2
 rw [e5,Mi rS j1,j3]
abbrev tGD:Ty:= .clo 149 (.pair (.ptr tL) (.pair (.ptr (.optr ic)) .unit))
def YU (e:Option XP):Prop:= ∃e':XP,e=some e'/\vX e'
noncomputable def Un (goal:List Int) (e:Option XP) (i:Int):Bool:=match e with|some e=>La goal ((Al e.1).getD i.toNat [])|none=>false
def TJ (goal:List Int) (e:Option XP):Prop:= ∃e':XP,e=some e'/\vX e'/\Ey e'.1.1 goal=true
def Aij (e:Option XP):Nat:=match e with|some e=>e.2.1.length|none=>0
noncomputable abbrev uV:Spec:=Gk (.pair tI (.pair (.ptr tL) (.pair (.ptr (.optr ic)) .unit))) .bool false true (λx=>TJ x.2.1 x.2.2.1/\0<=x.1/\x.1<Aij x.2.2.1) (λx=>Un x.2.1 x.2.2.1 x.1)
noncomputable def ju (e:Option XP) (S:Nat->Bool):List Int:=match e with|some e=>rX (Lf e.1) S (Al e.1).length|none=> []
noncomputable abbrev cw:Spec:=Gk (.pair (.optr ic) (.pair tGD .unit)) tL false true (λx=>YU x.1/\x.2.1.2.1=x.1/\TJ x.2.1.1 x.1) (λx=>ju x.1 λi=>Un x.2.1.1 x.1 (i:Int))
noncomputable abbrev Ia:Spec:=Gk (.pair (.optr ic) (.pair tL .unit)) tL false true (λx=>TJ x.2.1 x.1) (λx=>ju x.1 λi=>Un x.2.1 x.1 (i:Int))
abbrev tDs:Ty:= .clo 147 (.pair (.ptr tL) (.pair (.ptr tI) .unit))
noncomputable abbrev yG:Spec:=Gk (.pair tI (.pair (.ptr tL) (.pair (.ptr tI) .unit))) .bool false true (λx=>(0<=x.1/\x.1<List.length x.2.1)/\0<=x.2.2.1/\x.2.2.1<List.length x.2.1) (λx=>decide (Dp x.2.1 x.1<Dp x.2.1 x.2.2.1))
noncomputable abbrev qc:Spec:=Gk (.pair tL (.pair tDs .unit)) tI false true (λx=>short x.1/\Lu (List.length x.2.1.1) x.1/\0<=x.2.1.2.1/\x.2.1.2.1<List.length x.2.1.1) (λx=>Dv (λy=>decide (Dp x.2.1.1 y<Dp x.2.1.1 x.2.1.2.1)) x.1 0)
def bU (N:Nat->List Int) (ls d:List Int):Nat->Int->List Int->List Int×Int
 |0,i,w=>(w,i)
 |f+1,i,w=>if 0<Dp d i then bU N ls d f ((N i.toNat).getD (Dv (λy=>decide (Dp d y<Dp d i)) (N i.toNat) 0).toNat 0) (w++ [ls.getD (Dv (λy=>decide (Dp d y<Dp d i)) (N i.toNat) 0).toNat 0]) else (w,i)
noncomputable def Of (p:PP) (d:List Int) (i:Int):List Int×Int×Bool×Unit:=
 if Dp d i>200 then ([],0,false,()) else ((bU (Lf p) (Az p.2.2.1.length) d (Dp d i).toNat i []).1,(bU (Lf p) (Az p.2.2.1.length) d (Dp d i).toNat i []).2,true,())
noncomputable def AI (e:Option XP) (d:List Int) (i:Int):(List Int×Int×Bool×Unit)×Unit:=match e with|some e=>(Of e.1 d i,())|none=>(([],0,false,()),())
structure KO (p:PP) (d:List Int):Prop where
 len:d.length=(Al p).length
 nn: ∀i,i<d.length->0<=d.getD i 0
 dn: ∀i,i<d.length->0<d.getD i 0-> ∃t∈Lf p i,d.getD t.toNat 0<d.getD i 0
noncomputable abbrev Jj:MSpec:=vV [none,none,none] [(false, .Hw (.optr ic)),(false, .Hw tL),(false, .Hw tI)] true [none,none,none] [rL, .Hw tI, .Hw .bool]
 (λx=> ∃e':XP,x.1=some e'/\vX e'/\KO e'.1 x.2.1/\0<=x.2.2.1/\x.2.2.1<List.length x.2.1) (λx=>AI x.1 x.2.1 x.2.2.1)
theorem Aqu (i:Int) (goal:List Int) (e:Option XP) (P:Bool->Prop):(∃(y4:(Int×ByteArray×List (List Int)×PUnit)×List (List Int)×List Int×(ByteArray->Option Int)×List Int×List Int×List (List Int)×PUnit),e=some y4/\ ∃(y5:List Int),idx y4.2.1 i=some y5/\ ∃(y6:Bool),Gi.fn (goal,y5,())=some y6/\P y6)=fnW Fl (look [(111,Gi)]) uV Tryz.f149 (i,goal,e,()) P:=by kernel_rfl
abbrev qt:Type:=(Int×ByteArray×List (List Int)×PUnit)×List (List Int)×List Int×(ByteArray->Option Int)×List Int×List Int×List (List Int)×PUnit
theorem Adb (e:Option XP) (c:List Int×Option XP×Unit) (P:List Int->Prop):(∃(y3:qt),e=some y3/\ ∃(y4:(List Int×PUnit)×PUnit),eQ.fn (List.take 1 (List.drop 0 [(-1:Int)]),(↑y3.2.1.length:Int),())=some y4/\ ∃(y5:qt),e=some y5/\ ∃(y6:Int),Qs.fn (y5.2.1,())=some y6/\0=0/\y4.1.1.length=y4.1.1.length/\0=0/\(List.take 0 (List.drop 0 ([]:List Int))).length=(List.take 0 (List.drop 0 ([]:List Int))).length/\Dn (λ(v7:Int×List Int×List Int×PUnit) (k8:Int×List Int×List Int×PUnit->Prop)=>Br (decide (v7.1<y6)) (∃(y9:Bool),uV.fn (v7.1,c.1,c.2.1,())=some y9/\Br y9 (((0:Int)<=v7.1/\v7.1<(↑v7.2.2.1.length:Int))/\0+v7.1.toNat<v7.2.2.1.length/\0=0/\v7.2.1.length=v7.2.1.length/\v7.2.1.length+(List.take 1 (List.drop 0 [v7.1])).length<=Ea/\0=0/\v7.2.2.1.length=(v7.2.2.1.set (0+v7.1.toNat) (0:Int)).length/\0=0/\(List.take (v7.2.1++List.take 1 (List.drop 0 [v7.1])).length (List.drop 0 (v7.2.1++List.take 1 (List.drop 0 [v7.1])))).length=(List.take (v7.2.1++List.take 1 (List.drop 0 [v7.1])).length (List.drop 0 (v7.2.1++List.take 1 (List.drop 0 [v7.1])))).length/\k8 (IntKind.i64.wrap (v7.1+(1:Int)),List.take (v7.2.1++List.take 1 (List.drop 0 [v7.1])).length (List.drop 0 (v7.2.1++List.take 1 (List.drop 0 [v7.1]))),v7.2.2.1.set (0+v7.1.toNat) (0:Int),())) (0=0/\v7.2.2.1.length=v7.2.2.1.length/\0=0/\(List.take v7.2.1.length (List.drop 0 v7.2.1)).length=(List.take v7.2.1.length (List.drop 0 v7.2.1)).length/\k8 (IntKind.i64.wrap (v7.1+(1:Int)),List.take v7.2.1.length (List.drop 0 v7.2.1),v7.2.2.1,()))) (0=0/\v7.2.2.1.length=v7.2.2.1.length/\0=0/\(List.take v7.2.1.length (List.drop 0 v7.2.1)).length=(List.take v7.2.1.length (List.drop 0 v7.2.1)).length/\Dn (λ(v9:List Int×List Int×PUnit) (k10:List Int×List Int×PUnit->Prop)=>Br (decide ((↑v9.1.length:Int)>(0:Int))) (∃(Sj:qt),e=some Sj/\((0:Int)<=(0:Int)/\(0:Int)<(↑v9.1.length:Int))/\ ∃(Rr:Int),v9.1[0+Int.toNat (0:Int)]?=some Rr/\ ∃(il:List Int),idx Sj.2.2.2.2.2.2.1 Rr=some il/\0=0/\v9.2.1.length=v9.2.1.length/\0=0/\(List.take v9.1.length (List.drop 0 v9.1)).length=(List.take v9.1.length (List.drop 0 v9.1)).length/\Dn (λ(cN:Int×List Int×List Int×PUnit) (k15:Int×List Int×List Int×PUnit->Prop)=>Br (decide (cN.1<(↑il.length:Int))) (∃(gA:Int),idx il cN.1=some gA/\((0:Int)<=gA/\gA<(↑cN.2.2.1.length:Int))/\ ∃(DU:Int),cN.2.2.1[0+gA.toNat]?=some DU/\Br (decide (DU<(0:Int))) (((0:Int)<=(0:Int)/\(0:Int)<(↑cN.2.1.length:Int))/\ ∃(z7:Int),cN.2.1[0+Int.toNat (0:Int)]?=some z7/\((0:Int)<=z7/\z7<(↑cN.2.2.1.length:Int))/\ ∃(y19:Int),cN.2.2.1[0+z7.toNat]?=some y19/\((0:Int)<=gA/\gA<(↑cN.2.2.1.length:Int))/\0+gA.toNat<cN.2.2.1.length/\0=0/\cN.2.1.length=cN.2.1.length/\cN.2.1.length+(List.take 1 (List.drop 0 [gA])).length<=Ea/\0=0/\cN.2.2.1.length=(cN.2.2.1.set (0+gA.toNat) (IntKind.i64.wrap (y19+(1:Int)))).length/\0=0/\(List.take (cN.2.1++List.take 1 (List.drop 0 [gA])).length (List.drop 0 (cN.2.1++List.take 1 (List.drop 0 [gA])))).length=(List.take (cN.2.1++List.take 1 (List.drop 0 [gA])).length (List.drop 0 (cN.2.1++List.take 1 (List.drop 0 [gA])))).length/\k15 (IntKind.i64.wrap (cN.1+(1:Int)),List.take (cN.2.1++List.take 1 (List.drop 0 [gA])).length (List.drop 0 (cN.2.1++List.take 1 (List.drop 0 [gA]))),cN.2.2.1.set (0+gA.toNat) (IntKind.i64.wrap (y19+(1:Int))),())) (0=0/\cN.2.2.1.length=cN.2.2.1.length/\0=0/\(List.take cN.2.1.length (List.drop 0 cN.2.1)).length=(List.take cN.2.1.length (List.drop 0 cN.2.1)).length/\k15 (IntKind.i64.wrap (cN.1+(1:Int)),List.take cN.2.1.length (List.drop 0 cN.2.1),cN.2.2.1,()))) (((0:Int)<=(1:Int)/\(1:Int)<=(↑cN.2.1.length:Int)/\(↑cN.2.1.length:Int)<=(↑cN.2.1.length:Int))/\0=0/\cN.2.2.1.length=cN.2.2.1.length/\0=0/\(List.take ((↑cN.2.1.length:Int).toNat-Int.toNat (1:Int)) (List.drop (0+Int.toNat (1:Int)) cN.2.1)).length=(List.take ((↑cN.2.1.length:Int).toNat-Int.toNat (1:Int)) (List.drop (0+Int.toNat (1:Int)) cN.2.1)).length/\k10 (List.take ((↑cN.2.1.length:Int).toNat-Int.toNat (1:Int)) (List.drop (0+Int.toNat (1:Int)) cN.2.1),cN.2.2.1,()))) ((0:Int),List.take v9.1.length (List.drop 0 v9.1),v9.2.1,PUnit.unit)) (P (List.take v9.2.1.length (List.drop 0 v9.2.1)))) (List.take v7.2.1.length (List.drop 0 v7.2.1),v7.2.2.1,PUnit.unit))) ((0:Int),List.take 0 (List.drop 0 []),y4.1.1,PUnit.unit))=fnW (PQ [Np+6]) (look [(172,eQ),(91,Qs),(149,uV)]) cw Tryz.f148 (e,c,()) P:=by kernel_rfl
theorem QB (e:Option XP) (goal:List Int) (P:List Int->Prop):(∃(y3:List Int),cw.fn (e,(goal,e,()),())=some y3/\P y3)=fnW Fl (look [(148,cw)]) Ia Tryz.f98 (e,goal,()) P:=by kernel_rfl
theorem Aqt (y:Int) (d:List Int) (i:Int) (P:Bool->Prop):(∃(y4:Int),idx d y=some y4/\ ∃(y5:Int),idx d i=some y5/\P (decide (y4<y5)))=fnW Fl (look []) yG Tryz.f147 (y,d,i,()) P:=by kernel_rfl
theorem Alr (xs:List Int) (c:List Int×Int×Unit) (P:Int->Prop):(Dn (λ(v3:Int×PUnit) (k4:Int×PUnit->Prop)=>Br (decide (v3.1<(↑xs.length:Int))) (∃(y5:Int),idx xs v3.1=some y5/\ ∃(y6:Bool),yG.fn (y5,c.1,c.2.1,())=some y6/\Br y6 (P v3.1) (k4 (IntKind.i64.wrap (v3.1+(1:Int)),()))) (P (-1:Int))) ((0:Int),PUnit.unit))=fnW Fl (look [(147,yG)]) qc Tryz.f146 (xs,c,()) P:=by kernel_rfl
abbrev mU:Type:=(Int×ByteArray×List (List Int)×PUnit)×List (List Int)×List Int×(ByteArray->Option Int)×List Int×List Int×List (List Int)×PUnit
theorem XO (e:Option XP) (d:List Int) (i:Int) (P:((List Int×Int×Bool×Unit)×Unit)->Prop):(∃(y4:Int),idx d i=some y4/\Br (decide (y4>(200:Int))) (P ((List.take 0 (List.drop 0 []),(0:Int),false,()),())) (∃(y5:mU),e=some y5/\ ∃(y6:List Int),Oh.fn ((↑y5.1.2.2.1.length:Int),())=some y6/\0=0/\0=([]:List Int).length/\Dn (λ(v7:List Int×Int×List Int×PUnit) (k8:List Int×Int×List Int×PUnit->Prop)=> ∃(y9:Int),idx v7.1 v7.2.1=some y9/\Br (decide (y9>(0:Int))) (∃(Xw:mU),e=some Xw/\ ∃(Sj:List Int),idx Xw.2.2.2.2.2.2.1 v7.2.1=some Sj/\ ∃(Rr:Int),qc.fn (Sj,(v7.1,v7.2.1,()),())=some Rr/\ ∃(il:Int),idx y6 Rr=some il/\0=0/\v7.2.2.1.length=v7.2.2.1.length/\v7.2.2.1.length+(List.take 1 (List.drop 0 [il])).length<=Ea/\ ∃(cJ:mU),e=some cJ/\ ∃(lS:List Int),idx cJ.2.2.2.2.2.2.1 v7.2.1=some lS/\ ∃(gA:Int),idx lS Rr=some gA/\0=0/\(v7.2.2.1++List.take 1 (List.drop 0 [il])).length=(v7.2.2.1++List.take 1 (List.drop 0 [il])).length/\k8 (v7.1,gA,v7.2.2.1++List.take 1 (List.drop 0 [il]),())) (P ((List.take v7.2.2.1.length (List.drop 0 v7.2.2.1),v7.2.1,true,()),()))) (d,i,[],PUnit.unit)))=fnMW aJ (look [(139,Oh),(146,qc)]) Jj Tryz.f97 (e,d,i,()) P:=by kernel_rfl
theorem ZS {e:XP} (h:vX e):e.2.1=Al e.1:=(Et (λz:XP=>z.2.1) h.2).trans (zz h.1).1
theorem Aer {e:XP} (h:vX e):e.2.2.2.2.2.2.1=(Al e.1).map (ye e.1.2.2.1 (Al e.1)):=(Et (λz:XP=>z.2.2.2.2.2.2.1) h.2).trans (UB h.1)
theorem ZR {e:XP} (h:vX e) {i:Nat} (hi:i<(Al e.1).length):idx e.2.2.2.2.2.2.1 (i:Int)=some (Lf e.1 i):=by
 rw [Aer h,Bn (by rw [Dk];exact hi),Tn]
 unfold Lf
 rw [Es hi]
theorem ur (p:PP) (i:Nat):(Lf p i).length=(Az p.2.2.1.length).length:=by unfold Lf ye;rw [Dk]
theorem qX {p:PP} (hV:Valid p):(Az p.2.2.1.length).length<=16:=by rw [Rj];have:=hV.p8;omega
theorem Aq3 (i:Int) (goal:List Int) (e:Option XP) (h:TJ goal e/\0<=i/\i<Aij e):fnW Fl (look [(111,Gi)]) uV Tryz.f149 (i,goal,e,()) (λ(z:Bool)=>z=Un goal e i):=by
 obtain ⟨⟨e',rfl,hx,hp⟩,h1,h2⟩:=h
 obtain ⟨k,rfl⟩:=Ci h1
 have Qj:=ZS hx
 have h2:((k:Nat):Int)<(e'.2.1.length:Int):=h2
 rw [Qj] at h2
 have hk:k<(Al e'.1).length:=by omega
 have hv:=(Dd hx.1).1
 have MH:=hY hv (Am hk)
 have ht:=Lb (Jo.2 ⟨hv,hp⟩)
 refine Eq.mp (Aqu _ _ _ _) ⟨e',rfl,(Al e'.1)[k],by rw [Qj];exact Bn hk,_,Ab ⟨by show goal.length<=4294967296;omega,al MH,zF hv MH hp⟩,?_⟩
 show La goal (Al e'.1)[k]=La goal ((Al e'.1).getD ((k:Nat):Int).toNat [])
 rw [Ae,Es hk]
theorem WQ:Sound Tryz.prog 149 uV:=
 Sound.Gk Dl (Au Va Bl) mixed Tryz.func149 (by kernel_rfl) (by kernel_rfl) λx h=>Aq3 x.1 x.2.1 x.2.2.1 h
def dqp (S:Nat->Bool) (i:Nat):List Int:=((List.range i).filter S).map λ(k:Nat)=>(k:Int)
theorem EY (S:Nat->Bool) (i:Nat):dqp S (i+1)=if S i=true then dqp S i++ [(i:Int)] else dqp S i:=by
 unfold dqp
 rw [List.range_succ,List.filter_append]
 by_cases h:S i=true
 ·rw [Ab h];simp [h]
 ·rw [Ai h];simp [h]
theorem Aeo (S:Nat->Bool) (i:Nat):(dqp S i).length<=i:=by
 unfold dqp
 rw [Dk]
 exact Je (List.length_filter_le _ _) (by simp)
theorem Agf {xs:List Int} {i:Nat} {v:Int} {m:Nat} (hl:xs.length=m) (hi:i<m) {f g:Nat->Int} (h: ∀k,k<m->xs.getD k 0=f k) (hg:g i=v) (Jd: ∀k,k≠i->g k=f k): ∀k,k<m->(xs.set i v).getD k 0=g k:= λk hk=>by
 rw [eo (by omega)]
 by_cases e:i=k
 ·subst e;rw [Ab rfl,hg]
 ·rw [Ai e,h k hk,Jd k λe'=>e e'.symm]
theorem ya {xs ys:List Int} (h1:xs.length=ys.length) (h: ∀k,k<xs.length->xs.getD k 0=ys.getD k 0):xs=ys:=
 eZ h1 λk h2 h3=>by have:=h k h2;rwa [Es h2,Es h3] at this
theorem Aev {xs:List Int} {k:Nat} (h:k<xs.length):xs[0+((k:Nat):Int).toNat]?=some (xs.getD k 0):=by
 rw [Bt,Ae,Ac h,Es h]
theorem Abp (e:Option XP) (c:List Int×Option XP×Unit) (h:YU e/\c.2.1=e/\TJ c.1 e):fnW (PQ [Np+6]) (look [(172,eQ),(91,Qs),(149,uV)]) cw Tryz.f148 (e,c,()) (λ(z:List Int)=>z=ju e λi=>Un c.1 e (i:Int)):=by
 obtain ⟨⟨e',rfl,hx⟩,hce,wb⟩:=h
 obtain ⟨goal,ce,⟨⟩⟩:=c
 dsimp only at hce wb
 subst hce
 have Qj:=ZS hx
 have hwv:=Dd hx.1
 have hm3:=oR hwv.1
 have hm1:=PI hwv.1
 have hR:=oo hx.1
 have hV:=valid hwv.1
 have hlf:=qX hV
 obtain ⟨m,hm⟩: ∃m,(Al e'.1).length=m:=⟨_,rfl⟩
 obtain ⟨S,hS⟩: ∃S:Nat->Bool,(λ(i:Nat)=>Un goal (some e') (i:Int))=S:=⟨_,rfl⟩
 have hSi: ∀i:Nat,Un goal (some e') (i:Int)=S i:= λi=>congrFun hS i
 show fnW _ _ cw _ _ (λz=>z=rX (Lf e'.1) (λi=>Un goal (some e') (i:Int)) (Al e'.1).length)
 rw [hS]
 have Sa: ∀i:Nat,i<m->uV.fn ((i:Int),goal,some e',())=some (S i):= λi hi=>by
  refine (Ab ⟨wb,by show (0:Int)<=i;omega,?_⟩).trans (Et some (hSi i))
  show (i:Int)<((e'.2.1.length:Nat):Int)
  rw [Qj];omega
 rw [hm] at hm3 hm1 hR⊢
 refine Eq.mp (Adb _ _ _) ⟨e',rfl,((List.replicate m (-1),()),()),?_,e',rfl,(m:Int),?_,rfl,rfl,rfl,rfl,?_⟩
 ·rw [Qj,hm]
  refine (Ab ⟨⟨-1,rfl⟩,by show (1:Int)<=m;omega,by show (m:Int)<=100000;omega⟩).trans ?_
  show some ((List.replicate ((m:Int)).toNat (-1),()),())=_
  rw [Ae]
 ·exact (Ab trivial).trans (Et some (by show ((e'.2.1.length:Nat):Int)=m;rw [Qj,hm]))
 refine Bo m (λv=>v.1) (λj v=>v.2.1=dqp S j/\v.2.2.1.length=m/\ ∀k,k<m->v.2.2.1.getD k 0=if k<j/\S k=true then 0 else-1) rfl ⟨rfl,by simp,λk hk=>?_⟩ ?_
 ·rw [Ai (by omega),Es (by simpa using hk),List.getElem_replicate]
 rintro j ⟨i,q,out,⟨⟩⟩ K hj hi ⟨h1,h2,h3⟩ hK
 dsimp only at hi h1 h2 h3⊢
 subst hi h1
 have hql:=Aeo S j
 refine Br.dec (λhl=>?_) λhl=>⟨rfl,rfl,rfl,rfl,?_⟩
 ·have hl:j<m:=by omega
  refine ⟨S j,Sa j hl,Br.of (λhs=>?_) λhs=>?_⟩
  ·refine ⟨⟨by omega,by omega⟩,by rw [Ae];omega,rfl,rfl,by show (dqp S j).length+1<=4294967296;omega,rfl,by rw [Co],rfl,rfl,?_⟩
   rw [Dj,Bj (by omega),Ae,Bt]
   refine hK hl _ rfl ⟨?_,by rw [Co];exact h2,?_⟩
   ·show dqp S j++ [(j:Int)]=_
    rw [EY,Ab hs]
   ·refine Agf h2 hl h3 (by rw [Ab ⟨by omega,hs⟩]) λk hk=>?_
    by_cases hc:k<j/\S k=true
    ·rw [Ab hc,Ab ⟨by omega,hc.2⟩]
    ·rw [Ai hc,Ai λh=>hc ⟨by omega,h.2⟩]
  ·refine ⟨rfl,rfl,rfl,rfl,?_⟩
   rw [Dj,Bj (by omega)]
   refine hK hl _ rfl ⟨?_,h2,λk hk=>?_⟩
   ·show dqp S j=_
    rw [EY,Ai (by rw [hs];decide)]
   ·rw [h3 k hk]
    by_cases hc:k<j/\S k=true
    ·rw [Ab hc,Ab ⟨by omega,hc.2⟩]
    ·rw [Ai hc,Ai λh=>hc ⟨by
      by_cases e:k=j
      ·subst e;rw [hs] at h;exact absurd h.2 (by decide)
      ·omega,h.2⟩]
 ·have:j=m:=by omega
  subst this
  have zL:out=YI S j:=ya (by rw [h2];simp [YI]) λk hk=>by
   rw [h3 k (by omega),bV (by omega)]
   by_cases hs:S k=true
   ·rw [Ab ⟨by omega,hs⟩,Ab hs]
   ·rw [Ai λh=>hs h.2,Ai hs]
  subst zL
  rw [Dj]
  show Dn _ (dq0 S j,YI S j,PUnit.unit)
  refine Dn.mk (λv=> ∃(q out:List Int) (f T:Nat),v=(q,out,())/\DQ (Lf e'.1) S j out q/\q.length+fO out<f/\TZ (Lf e'.1) f out q=rX (Lf e'.1) S j/\T+(q.length+fO out)<=j/\ ∀i,i<j->out.getD i 0<=T) (λv=>v.1.length+fO v.2.1)
   ⟨dq0 S j,YI S j,j+1,0,rfl,EW _ _ _,by rw [Abd];omega,rfl,by rw [Abd];omega,λi hi=>by rw [bV hi];split<;>omega⟩ ?_
  rintro v ⟨q,out,f,T,rfl,g1,g2,g3,g4,g5⟩
  dsimp only
  have hol:=g1.base.len
  refine Br.dec (λhl=>?_) λhl=>?_
  ·obtain ⟨x,q',rfl⟩: ∃x q',q=x::q':=by
    cases q with
    |nil=>simp at hl
    |cons x q'=>exact ⟨x,q',rfl⟩
   obtain ⟨x1,x2,x3⟩:=g1.base.inq x (by simp)
   obtain ⟨xn,rfl⟩:=Ci x1
   have SH:xn<j:=by omega
   rw [Ae] at x3
   obtain ⟨f,rfl⟩: ∃f',f=f'+1:=⟨f-1,by omega⟩
   simp only [TZ,Ae] at g3
   simp only [Ay] at g2 g4
   refine ⟨e',rfl,⟨by omega,by omega⟩,(xn:Int),by simp,Lf e'.1 xn,ZR hx (by omega),rfl,rfl,rfl,rfl,?_⟩
   rw [Dj]
   obtain ⟨o1,o2⟩:=List.pairwise_cons.1 g1.base.ord
   simp only [Ae] at o1
   have hX0:DX (Lf e'.1) S j xn (out.getD xn 0) out q':=by
    refine ⟨⟨g1.base.len,g1.base.ge,λy hy=>g1.base.inq y (Ap _ hy),g1.base.src,g1.base.Agh,g1.base.par,λi hi h0 hn hw=>g1.base.done i hi h0 (λhm=>?_) (λh=>h),o2⟩,SH,rfl,x3,o1,?_⟩
    ·rcases Bb.1 hm with e|hm
     ·exact hw (by omega)
     ·exact hn hm
    ·have:=g1.hi (xn:Int) q' rfl
     rwa [Ae] at this
   have hnl:(Lf e'.1 xn).length<=16:=by rw [ur];exact hlf
   obtain ⟨d,hd⟩: ∃d,out.getD xn 0=d:=⟨_,rfl⟩
   rw [hd] at hX0
   have hdT:d<=T:=by rw [<-hd];exact g5 xn SH
   refine Bo (Lf e'.1 xn).length (λv=>v.1) (λk v=> ∃(qq o:List Int),v=((k:Int),(xn:Int)::qq,o,())/\DX (Lf e'.1) S j xn d o qq/\qq.length+fO o=q'.length+fO out/\
     aX (xn:Int) ((Lf e'.1 xn).drop k) (o,qq)=aX (xn:Int) (Lf e'.1 xn) (out,q')) rfl ⟨q',out,rfl,hX0,rfl,by rw [Dr]⟩ ?_
   rintro k v K2 hk hki ⟨qq,o,rfl,hX,hc,Vv⟩ hK2
   dsimp only
   have hXb:=hX.base.len
   refine Br.dec (λPf=>?_) λPf=>?_
   ·have Pf:k<(Lf e'.1 xn).length:=by omega
    have htm:=hR xn SH _ (Am Pf)
    obtain ⟨tn,htn⟩:=Ci htm.1
    have htj:tn<j:=by omega
    rw [Cc Pf] at Vv
    simp only [aX] at Vv
    have hox:o.getD ((xn:Nat):Int).toNat 0=d:=by rw [Ae];exact hX.Wl
    refine ⟨_,Bn Pf,?_⟩
    rw [htn] at Vv⊢
    rw [Ae] at Vv
    refine ⟨⟨by omega,by omega⟩,o.getD tn 0,Aev (by omega),Br.dec (λrT=>?_) λrT=>?_⟩
    ·rw [Ab rT,hox] at Vv
     have xQ:=RE hR hX (Am Pf) htm (by rw [htn,Ae];exact rT)
     rw [htn,Ae] at xQ
     have hng:=HF (xs:=o) (i:=tn) (v:=d+1) (by omega) rT (by have:=hX.d0;omega)
     have hd0:=hX.d0
     refine ⟨⟨by omega,by simp only [Ay];omega⟩,(xn:Int),by simp,⟨by omega,by omega⟩,d,by rw [Aev (by omega),<-hX.Wl],⟨by omega,by omega⟩,by rw [Ae];omega,rfl,rfl,?_,rfl,by rw [Co],rfl,rfl,?_⟩
     ·show qq.length+1+1<=4294967296
      omega
     ·rw [Dj,Bj (by omega),Ae,Bt,Ct (n:=d+1) (by omega) (by omega)]
      refine hK2 Pf _ rfl ⟨qq++ [(tn:Int)],o.set tn (d+1),rfl,xQ,?_,Vv⟩
      rw [Aw,Bq]
      omega
    ·rw [Ai rT] at Vv
     refine ⟨rfl,rfl,rfl,rfl,?_⟩
     rw [Dj,Bj (by omega)]
     exact hK2 Pf _ rfl ⟨qq,o,rfl,hX,hc,Vv⟩
   ·have Pf:k=(Lf e'.1 xn).length:=by omega
    subst Pf
    rw [Fe,aX] at Vv
    rw [<-Vv] at g3
    have Aog:=(ZO hR g1).1
    rw [Ae,<-Vv] at Aog
    have ht:List.take ((((xn:Int)::qq).length:Int).toNat-Int.toNat (1:Int)) (List.drop (0+Int.toNat (1:Int)) ((xn:Int)::qq))=qq:=by
     rw [Ae,Ay]
     show List.take (qq.length+1-1) qq=qq
     rw [Nat.add_sub_cancel,Be]
    rw [ht]
    refine ⟨⟨by omega,by simp only [Ay];omega,by omega⟩,rfl,rfl,rfl,rfl,⟨qq,o,f,T+1,rfl,Aog,by omega,g3,by omega,λi hi=>?_⟩,?_⟩
    ·have:=hX.hi i hi
     push_cast
     omega
    ·show qq.length+fO o<((xn:Int)::q').length+fO out
     simp only [Ay]
     omega
  ·have:q= []:=by
    cases q with
    |nil=>rfl
    |cons x q'=>simp at hl
   subst this
   rw [Dj]
   cases f with
   |zero=>exact g3
   |succ f=>exact g3
theorem CA:Sound Tryz.prog 148 cw:=
 Sound.Gk (PR [Np+6]) (Ic CF (Au dq (Au WQ Bl))) mixed Tryz.func148 (by kernel_rfl) (by kernel_rfl) λx h=>Abp x.1 x.2.1 h
theorem NO (e:Option XP) (goal:List Int) (h:TJ goal e):fnW Fl (look [(148,cw)]) Ia Tryz.f98 (e,goal,()) (λ(z:List Int)=>z=ju e λi=>Un goal e (i:Int)):=by
 obtain ⟨e',rfl,h1,h2⟩:=h
 exact Eq.mp (QB _ _ _) ⟨_,Ab ⟨⟨e',rfl,h1⟩,rfl,e',rfl,h1,h2⟩,rfl⟩
theorem Xk:Sound Tryz.prog 98 Ia:=
 Sound.Gk Dl (Au CA Bl) mixed Tryz.func98 (by kernel_rfl) (by kernel_rfl) λx h=>NO x.1 x.2.1 h
theorem Aq2 (y:Int) (d:List Int) (i:Int) (h:(0<=y/\y<(List.length d:Int))/\0<=i/\i<(List.length d:Int)):fnW Fl (look []) yG Tryz.f147 (y,d,i,()) (λ(z:Bool)=>z=decide (Dp d y<Dp d i)):=
 Eq.mp (Aqt y d i _) ⟨_,a8 h.1.1 h.1.2,_,a8 h.2.1 h.2.2,rfl⟩
theorem WO:Sound Tryz.prog 147 yG:=
 Sound.Gk Dl Bl mixed Tryz.func147 (by kernel_rfl) (by kernel_rfl) λx h=>Aq2 x.1 x.2.1 x.2.2.1 h
theorem Al0 (xs:List Int) (c:List Int×Int×Unit) (h:short xs/\Lu (List.length c.1) xs/\0<=c.2.1/\c.2.1<(List.length c.1:Int)):fnW Fl (look [(147,yG)]) qc Tryz.f146 (xs,c,()) (λ(z:Int)=>z=Dv (λy=>decide (Dp c.1 y<Dp c.1 c.2.1)) xs 0):=by
 obtain ⟨h,h5,h6⟩:=h
 unfold short at h
 refine Eq.mp (Alr xs c _) ?_
 refine Bo xs.length (λv=>v.1) (λj _=>Dv (λy=>decide (Dp c.1 y<Dp c.1 c.2.1)) (xs.drop j) j=Dv (λy=>decide (Dp c.1 y<Dp c.1 c.2.1)) xs 0) rfl (by simp) ?_
 rintro j ⟨i,⟨⟩⟩ K hj hi hR hK
 dsimp only at hi⊢
 subst hi
 refine Br.dec (λhl=>?_) λhl=>?_
 ·have hl:j<xs.length:=by omega
  rw [Cc hl] at hR
  simp only [Dv] at hR
  refine ⟨_,Bn hl,_,Ab ⟨h5 _ (Am hl),h6⟩,⟨λhe=>?_,λhe=>?_⟩⟩
  ·have he:decide (Dp c.1 xs[j]<Dp c.1 c.2.1)=true:=he
   rw [Ab he] at hR
   exact hR
  ·have he:decide (Dp c.1 xs[j]<Dp c.1 c.2.1)=false:=he
   rw [Ai (by rw [he];decide)] at hR
   rw [Bj (by omega)]
   exact hK hl _ rfl (by push_cast;exact hR)
 ·have:j=xs.length:=by omega
  subst this
  rw [Fe] at hR
  exact hR
theorem OZ:Sound Tryz.prog 146 qc:=
 Sound.Gk Dl (Au WO Bl) mixed Tryz.func146 (by kernel_rfl) (by kernel_rfl) λx h=>Al0 x.1 x.2.1 h
theorem pJ {α:Type} {P:α->Bool} : ∀(l:List α) (i:Nat),l.any P=true-> ∃k,∃h:k<l.length,Dv P l (i:Int)=((i+k:Nat):Int)/\P l[k]=true/\ ∀j (h:j<k),P (l[j]'(by omega))=false
 | [],i,h=>by simp at h
 |y::r,i,h=>by
  simp only [Dv]
  by_cases hy:P y=true
  ·rw [Ab hy]
   exact ⟨0,by simp,rfl,hy,λj hj=>absurd hj (Fy _)⟩
  ·rw [Ai hy]
   have hr:r.any P=true:=by
    rw [List.any_cons,Lh] at h
    exact h.resolve_left hy
   obtain ⟨k,hk,h1,h2,h3⟩:=pJ r (i+1) hr
   refine ⟨k+1,by simpa using hk,?_,h2,λj hj=>?_⟩
   ·rw [show ((i:Int)+1)=((i+1:Nat):Int) by push_cast;rfl,h1]
    congr 1
    omega
   ·cases j with
    |zero=>exact Fc _|>.mp hy
    |succ j=>exact h3 j (by omega)
theorem Aem {p:PP} (hw:Db p=true) {d:List Int} (h:KO p d) {i:Nat} (hi:i<d.length) (hp:0<d.getD i 0):
  ∃k,∃(h1:k<(Az p.2.2.1.length).length) (h2:k<(Lf p i).length),Dv (λy=>decide (Dp d y<Dp d (i:Int))) (Lf p i) 0=(k:Int)/\
   ∃t:Nat,(Lf p i)[k]=(t:Int)/\t<d.length/\d.getD t 0<d.getD i 0:=by
 obtain ⟨t,ht,htl⟩:=h.dn i hi hp
 have mi:(Lf p i).any (λy=>decide (Dp d y<Dp d (i:Int)))=true:=Eh.2 ⟨t,ht,Cb htl⟩
 obtain ⟨k,hk,h1,h2,_⟩:=pJ (Lf p i) 0 mi
 have hl:=h.len
 obtain ⟨r1,r2⟩:=oo hw i (by omega) _ (Am hk)
 obtain ⟨tn,htn⟩:=Ci r1
 refine ⟨k,by rw [<-ur];exact hk,hk,by rw [Bt] at h1;exact h1,tn,htn,by omega,?_⟩
 have h2:=Hr h2
 unfold Dp at h2
 rw [htn,Ae,Ae] at h2
 exact h2
theorem VK (e:Option XP) (d:List Int) (i:Int) (h: ∃e':XP,e=some e'/\vX e'/\KO e'.1 d/\0<=i/\i<(List.length d:Int)):
  fnMW aJ (look [(139,Oh),(146,qc)]) Jj Tryz.f97 (e,d,i,()) (λ(z:(List Int×Int×Bool×Unit)×Unit)=>z=AI e d i):=by
 obtain ⟨e',rfl,hx,hd,h1,h2⟩:=h
 have hwv:=Dd hx.1
 have hV:=valid hwv.1
 have hf:=hV.p8
 have hdl:=hd.len
 refine Eq.mp (XO _ _ _ _) ⟨_,a8 h1 h2,?_⟩
 show Br _ (_=(Of e'.1 d i,())) _
 unfold AI Of
 dsimp only
 refine Br.dec (λhb=>by rw [Ab hb];rfl) λhb=>?_
 rw [Ai hb]
 refine ⟨e',rfl,Az e'.1.2.2.1.length,(Ab ⟨by show (0:Int)<=((e'.1.2.2.1.length:Nat):Int);omega,by show ((e'.1.2.2.1.length:Nat):Int)<=8;omega⟩).trans (Et some (by show Az (((e'.1.2.2.1.length:Nat):Int)).toNat=_;rw [Ae])),rfl,rfl,?_⟩
 have hnn: ∀k:Nat,k<d.length->0<=Dp d (k:Int):= λk hk=>by unfold Dp;rw [Ae];exact hd.nn k hk
 obtain ⟨R,hRR⟩: ∃R,bU (Lf e'.1) (Az e'.1.2.2.1.length) d (Dp d i).toNat i []=R:=⟨_,rfl⟩
 rw [hRR]
 obtain ⟨i0,rfl⟩:=Ci h1
 refine Dn.mk (λv=> ∃(k:Nat) (w:List Int) (f:Nat),v=(d,(k:Int),w,())/\k<d.length/\Dp d (k:Int)<=f/\w.length+f<=200/\bU (Lf e'.1) (Az e'.1.2.2.1.length) d f (k:Int) w=R) (λv=>(Dp d v.2.1).toNat)
  ⟨i0,[],(Dp d (i0:Int)).toNat,rfl,by omega,by omega,by have:=hnn i0 (by omega);simp only [Gp];omega,hRR⟩ ?_
 rintro v ⟨k,w,f,rfl,k1,k2,k3,k4⟩
 dsimp only
 refine ⟨Dp d (k:Int),a8 (by omega) (by omega),Br.dec (λhl=>?_) λhl=>?_⟩
 ·have Lq:0<d.getD k 0:=by unfold Dp at hl;rwa [Ae] at hl
  obtain ⟨f,rfl⟩: ∃f',f=f'+1:=⟨f-1,by omega⟩
  obtain ⟨n,n1,n2,n3,t,n4,n5,n6⟩:=Aem hx.1 hd k1 Lq
  simp only [bU] at k4
  rw [Ab hl,Ae,n3,Ae,Es n2,n4,Es n1] at k4
  have hnl:(Lf e'.1 k).length<=16:=by rw [ur];exact qX hV
  have Auh:Lu d.length (Lf e'.1 k):= λy hy=>by
   have:=oo hx.1 k (by omega) y hy
   omega
  refine ⟨e',rfl,Lf e'.1 k,ZR hx (by omega),(n:Int),(Ab ⟨by show (Lf e'.1 k).length<=4294967296;omega,Auh,by show (0:Int)<=(k:Int);omega,by show (k:Int)<(d.length:Int);omega⟩).trans (Et some n3),_,Bn n1,rfl,rfl,?_,e',rfl,Lf e'.1 k,ZR hx (by omega),(t:Int),by rw [Bn n2,n4],rfl,rfl,?_⟩
  ·show w.length+1<=4294967296;omega
  ·have e6:Dp d (t:Int)<Dp d (k:Int):=by unfold Dp;rw [Ae,Ae];exact n6
   have h0:=hnn t n5
   refine ⟨⟨t,w++ [(Az e'.1.2.2.1.length)[n]],f,rfl,n5,by omega,by rw [Aw,Bq];omega,k4⟩,?_⟩
   show (Dp d (t:Int)).toNat<(Dp d (k:Int)).toNat
   omega
 ·rw [Dj]
  have:bU (Lf e'.1) (Az e'.1.2.2.1.length) d f (k:Int) w=(w,(k:Int)):=by
   cases f with
   |zero=>rfl
   |succ f=>simp only [bU];rw [Ai (by omega)]
  rw [this] at k4
  subst k4
  rfl
theorem Zw:Eu Tryz.prog 97 Jj:=
 Eu.vV Zh (Au dN (Au OZ Bl)) mixed Tryz.func97 (by kernel_rfl) (by kernel_rfl) λx h=>VK x.1 x.2.1 x.2.2.1 h
theorem No {s q t:List Int} (h:Lu s.length t):Gq (Aj s q) t=Aj (Gq s t) q:=by
 unfold Gq Aj
 rw [List.map_map]
 refine Ft λy hy=>?_
 obtain ⟨h1,h2⟩:=h y hy
 have hy':y.toNat<s.length:=by omega
 show Dp (s.map (Dp q)) y=Dp q (Dp s y)
 unfold Dp
 rw [Es (by rw [Dk];exact hy'),Tn,Es hy']
 try rfl
theorem q6 {n:Nat} {t:List Int} (h: ∀y∈t,0<=y/\y<(n:Int)):Gq (upto n) t=t:=by
 unfold Gq
 refine (Ft λy hy=>?_).trans (List.map_id t)
 obtain ⟨h1,h2⟩:=h y hy
 obtain ⟨k,rfl⟩:=Ci h1
 have hk:k<n:=by omega
 show Dp (upto n) (k:Int)=(k:Int)
 unfold Dp
 rw [Ae,Ak,oX hk]
 rfl
theorem sat_iff {goal s:List Int} :La goal s=true↔Gq s goal=goal:=by
 unfold La Gq
 rw [Bc]
 constructor
 ·intro h
  exact (Ft λy hy=>Hr (h y hy)).trans (List.map_id goal)
 ·intro h y hy
  obtain ⟨j,hj,rfl⟩:=Bg.1 hy
  have h2:(goal.map (Dp s))[j]?=goal[j]?:=Et (λz:List Int=>z[j]?) h
  rw [Fo,Ac hj] at h2
  exact Cb (Bd h2)
theorem Vr {p:PP} (hv:Ca p=true):(Al p).getD 0 []=upto p.1.toNat/\upto p.1.toNat∈Al p:=by
 obtain ⟨A,h⟩:=(cp hv).first
 have h:Al p=upto p.1.toNat::A:=h
 rw [h]
 exact ⟨rfl,by simp⟩
noncomputable def fK (p:PP) (t:List Int):List (List Int):=(Ie p.2.2.1 t).1
noncomputable def AK (p:PP) (t:List Int):List Int:=(Ie p.2.2.1 t).2.1
noncomputable def Kh (p:PP) (t x:List Int):Int:=Lw (fK p t) (AK p t) x
theorem du {p:PP} {t:List Int} (ht:Gd p t=true): ∀y∈t,0<=y/\y<((p.1.toNat:Nat):Int):= λy hy=>by
 have h1:=(Lb ht).2 y hy
 have:=(valid (Jo.1 ht).1).n
 omega
theorem VX {p:PP} {t:List Int} (hw:Db p=true) (ht:Gd p t=true):(Ie p.2.2.1 t).2.2=true:=by
 have hv:=(Dd hw).1
 have hV:=valid hv
 obtain ⟨t1,t2⟩:=Lb ht
 have gO:=BE ht
 obtain ⟨a1,_,a3⟩:=QX hv t1 t2 (λx=> ∃s∈Al p,x=Gq s t) ⟨_,(Vr hv).2,(q6 (du ht)).symm⟩ λx ⟨s,hs,hx⟩ l hl=>by
  refine ⟨_,(Oj hw).next s hs l hl,?_⟩
  rw [hx,No (kG hv hs ht)]
 refine Bp λhn=>?_
 obtain ⟨h1,z,⟨s,hs,hz⟩,h3⟩:=a3 (by simpa using hn)
 have h5:=aj (l1:=z::(Ie p.2.2.1 t).1) (l2:=(Al p).map λs=>Gq s t) (Cg.2 ⟨h3,gO.ok.nodup⟩) λx hx=>by
  rcases Bb.1 hx with rfl|hx
  ·exact Bf.2 ⟨s,hs,hz.symm⟩
  ·obtain ⟨s',xP,e⟩:=a1 x hx
   exact Bf.2 ⟨s',xP,e.symm⟩
 have h6:=oR hv
 simp only [Ay,Dk] at h5
 omega
theorem Lc.congr {g:List (List Int)} {ls:List Int} {L:List (List Int)} {S S':List Int->Prop} {d:List Int->Int} (h:Lc g ls L S d) (e: ∀x∈L,S x↔S' x):Lc g ls L S' d:=
 ⟨h.nn,λx hx=>(h.zero x hx).trans (e x hx),h.step,h.down⟩
theorem mG {p:PP} {t:List Int} (hw:Db p=true) (ht:Gd p t=true):pf p.2.2.1 (Az p.2.2.1.length) (fK p t) (AK p t):=
 m8 (Dd hw).1 (Lb ht).1 (Lb ht).2 (VX hw ht)
theorem yo {p:PP} {t:List Int} (ht:Gd p t=true):(fK p t).getD 0 []=t/\t∈fK p t:=by
 obtain ⟨_,A,h⟩:=zi (Jo.1 ht).1 (Lb ht).1 (Lb ht).2
 have h:fK p t=t::A:=h
 rw [h]
 exact ⟨rfl,by simp⟩
theorem uG {p:PP} {t:List Int} (hw:Db p=true) (ht:Gd p t=true): ∀s∈Al p,Gq s t∈fK p t:=by
 have hv:=(Dd hw).1
 have hc:=ly (valid hv) (BE ht) (mG hw ht)
 refine oQ hw (λs=>Gq s t∈fK p t) (λx hx hq l hl=>?_) (Vr hv).2 ?_
 ·rw [No (kG hv hx ht)]
  exact hc.next _ hq l hl
 ·rw [q6 (du ht)]
  exact (yo ht).2
theorem IB {p:PP} {t:List Int} (hw:Db p=true) (ht:Gd p t=true):
  Lc p.2.2.1 (Az p.2.2.1.length) (Al p) (λs=>La t s=true) (λs=>Kh p t (Gq s t)):=by
 have hv:=(Dd hw).1
 have hd:=js (valid hv) (BE ht) (mG hw ht)
 have Vv:=uG hw ht
 refine ⟨λx hx=>hd.nn _ (Vv x hx),λx hx=>(hd.zero _ (Vv x hx)).trans ?_,λx hx l hl=>?_,λx hx h0=>?_⟩
 ·rw [show (Ie p.2.2.1 t).1.getD 0 []=t from (yo ht).1]
  exact sat_iff.symm
 ·rw [No (kG hv hx ht)]
  exact hd.step _ (Vv x hx) l hl
 ·obtain ⟨l,hl,h1⟩:=hd.down _ (Vv x hx) h0
  refine ⟨l,hl,?_⟩
  rw [No (kG hv hx ht)]
  exact h1
noncomputable def Xc (p:PP) (goal:List Int):List Int:=rX (Lf p) (λi=>La goal ((Al p).getD i [])) (Al p).length
theorem RO {p:PP} (hw:Db p=true) (goal:List Int):ju (some (Ig p)) (λi=>Un goal (some (Ig p)) (i:Int))=Xc p goal:=by
 show rX (Lf p) (λi=>La goal ((Al p).getD ((i:Nat):Int).toNat [])) (Al p).length=_
 rfl
theorem Aan {p:PP} {t:List Int} (ht:Gd p t=true):La t (upto p.1.toNat)=true:=sat_iff.2 (q6 (du ht))
theorem ku {p:PP} {t:List Int} (hw:Db p=true) (ht:Gd p t=true):
  Lc p.2.2.1 (Az p.2.2.1.length) (Al p) (λs=>La t s=true) (λx=>(Xc p t).getD ((Al p).idxOf x) 0):=by
 have hv:=(Dd hw).1
 have rV:=PI hv
 refine (Aeq hw (λi=>La t ((Al p).getD i [])) (i0:=0) (by omega) (by rw [(Vr hv).1];exact Aan ht)).congr λx hx=>?_
 have h1:=Hm hx
 rw [Es h1,Ud h1]
theorem RN {p:PP} {t:List Int} (hw:Db p=true) (ht:Gd p t=true) {x:List Int} (hx:x∈Al p):(Xc p t).getD ((Al p).idxOf x) 0=Kh p t (Gq x t):=
 (ku hw ht).eq (Oj hw) (IB hw ht) hx
theorem Aek {p:PP} (hw:Db p=true) {S:List Int->Prop} {d:List Int} (hl:d.length=(Al p).length) (h:Lc p.2.2.1 (Az p.2.2.1.length) (Al p) S (λx=>d.getD ((Al p).idxOf x) 0)):KO p d:=by
 have rS:=(JC hw).nodup
 refine ⟨hl,λi hi=>?_,λi hi h0=>?_⟩
 ·have:=h.nn _ (Nk (show i<(Al p).length by omega))
  rwa [Mi rS (by omega)] at this
 ·have gM:i<(Al p).length:=by omega
  obtain ⟨l,h1,h2⟩:=h.down _ (Nk gM) (by rw [Mi rS gM];exact h0)
  rw [Mi rS gM] at h2
  refine ⟨_,Bf.2 ⟨l,h1,rfl⟩,?_⟩
  rw [Ae,h2]
  omega
theorem tw {p:PP} (hw:Db p=true) (t:List Int):(Xc p t).length=(Al p).length:=(Ah9 (oo hw)).len
theorem tv {p:PP} {t:List Int} (hw:Db p=true) (ht:Gd p t=true):KO p (Xc p t):=Aek hw (tw hw t) (ku hw ht)
def sd (g:List (List Int)) (dep:List Int->Int) (ls:List Int):Nat->List Int->List Int->List Int×List Int
 |0,x,w=>(w,x)
 |n+1,x,w=>match ls.find? (λl=>decide (dep (Aj x (Ax g l))=n)) with
  |some l=>sd g dep ls n (Aj x (Ax g l)) (w++ [l])
  |none=>sd g dep ls n x w
theorem RI {α:Type} {P:α->Bool} : ∀(l:List α) (k:Nat) (h:k<l.length),P l[k]=true->(∀j (hj:j<k),P (l[j]'(by omega))=false)->l.find? P=some l[k]
 | [],k,h,_,_=>by simp at h
 |y::r,0,_,h1,_=>by rw [List.find?_cons_of_pos (show P y=true from h1)];rfl
 |y::r,k+1,h,h1,h2=>by
  rw [List.find?_cons_of_neg (by have:=h2 0 (by omega);simp at this;simp [this])]
  exact RI r k (by simpa using h) h1 λj hj=>h2 (j+1) (by omega)
theorem zt {p:PP} (hw:Db p=true) {S:List Int->Prop} {d:List Int} (hdn:KO p d) (hd:Lc p.2.2.1 (Az p.2.2.1.length) (Al p) S (λx=>d.getD ((Al p).idxOf x) 0))
  {see:List Int->List Int} {dep:List Int->Int} (hs: ∀x∈Al p,∀l∈Az p.2.2.1.length,see (Aj x (Ax p.2.2.1 l))=Aj (see x) (Ax p.2.2.1 l))
  (he: ∀x∈Al p,d.getD ((Al p).idxOf x) 0=dep (see x)):
  ∀(n i:Nat) (w:List Int),i<(Al p).length->d.getD i 0=n->
   (bU (Lf p) (Az p.2.2.1.length) d n (i:Int) w).1=(sd p.2.2.1 dep (Az p.2.2.1.length) n (see ((Al p).getD i [])) w).1/\
   (bU (Lf p) (Az p.2.2.1.length) d n (i:Int) w).1.length=w.length+n/\
   ∃j:Nat,(bU (Lf p) (Az p.2.2.1.length) d n (i:Int) w).2=(j:Int)/\j<(Al p).length/\d.getD j 0=0/\see ((Al p).getD j [])=(sd p.2.2.1 dep (Az p.2.2.1.length) n (see ((Al p).getD i [])) w).2
 |0,i,w,hi,e=>⟨rfl,rfl,i,rfl,hi,e,rfl⟩
 |n+1,i,w,hi,e=>by
  have rS:=(JC hw).nodup
  have hl:=hdn.len
  have rV:0<d.getD i 0:=by omega
  have hg:Dp d (i:Int)=d.getD i 0:=by unfold Dp;rw [Ae]
  obtain ⟨t0,ht0,htl⟩:=hdn.dn i (by omega) rV
  have mi:(Lf p i).any (λy=>decide (Dp d y<Dp d (i:Int)))=true:=Eh.2 ⟨t0,ht0,Cb htl⟩
  obtain ⟨k,hk,k1,k2,k3⟩:=pJ (Lf p i) 0 mi
  have k1:Dv (λy=>decide (Dp d y<Dp d (i:Int))) (Lf p i) 0=(k:Int):=by rw [Bt] at k1;exact k1
  have Pf:k<(Az p.2.2.1.length).length:=by rw [<-ur p i];exact hk
  have hx:=Nk (L:=Al p) hi
  have hat: ∀j (hj:j<(Az p.2.2.1.length).length),∃h2:j<(Lf p i).length,(Lf p i)[j]=(((Al p).idxOf (Aj ((Al p).getD i []) (Ax p.2.2.1 (Az p.2.2.1.length)[j])):Nat):Int):= λj hj=>
   ⟨by rw [ur];exact hj,by simp only [Lf,ye,Tn]⟩
  have wk: ∀j (hj:j<(Az p.2.2.1.length).length) (h2:j<(Lf p i).length),decide (Dp d (Lf p i)[j]<Dp d (i:Int))=decide (dep (Aj (see ((Al p).getD i [])) (Ax p.2.2.1 (Az p.2.2.1.length)[j]))=n):= λj hj h2=>by
   obtain ⟨_,h3⟩:=hat j hj
   have hlm:=Am hj
   have h4:=hd.NB (Oj hw) hx hlm
   rw [Mi rS hi] at h4
   have h5:=he _ ((Oj hw).next _ hx _ hlm)
   rw [hs _ hx _ hlm] at h5
   rw [h3,hg,<-h5]
   unfold Dp
   rw [Ae,bp,Hu,Hu]
   omega
  have RV:(Az p.2.2.1.length).find? (λl=>decide (dep (Aj (see ((Al p).getD i [])) (Ax p.2.2.1 l))=n))=some (Az p.2.2.1.length)[k]:=by
   refine RI _ k Pf ?_ λj hj=>?_
   ·rw [<-wk k Pf hk];exact k2
   ·rw [<-wk j (by omega) (by omega)];exact k3 j hj
  obtain ⟨_,hkn⟩:=hat k Pf
  have hlm:=Am Pf
  obtain ⟨n1,n2⟩:=NF hw hi hlm
  have mn:Dp d (i:Int)>0:=by rw [hg];exact rV
  simp only [bU,sd]
  rw [Ab mn,Ae,k1,Ae,Es hk,hkn,Es Pf,RV]
  dsimp only
  have hdk:d.getD ((Al p).idxOf (Aj ((Al p).getD i []) (Ax p.2.2.1 (Az p.2.2.1.length)[k]))) 0=n:=by
   have h6:=Hr ((wk k Pf hk).symm.trans k2)
   rw [he _ ((Oj hw).next _ hx _ hlm),hs _ hx _ hlm]
   exact h6
  obtain ⟨r1,r2,r3⟩:=zt hw hdn hd hs he n _ (w++ [(Az p.2.2.1.length)[k]]) n1 hdk
  rw [n2,hs _ hx _ hlm] at r1 r3
  refine ⟨r1,?_,r3⟩
  rw [r2,Aw,Bq]
  omega
noncomputable abbrev bA:Spec:=Gk (.pair bl (.pair tL .unit)) tI false true (λx=>Ha (List.length x.2.1) x.1.1 x.1.2.2.1/\List.length x.1.2.1=List.length x.1.1) (λx=>Lw x.1.1 x.1.2.1 x.2.1)
noncomputable def Fq (p:PP) (goal s:List Int):List Int:=(sd p.2.2.1 (Kh p goal) (Az p.2.2.1.length) (Kh p goal (Gq s goal)).toNat (Gq s goal) []).1
def GU (w:List Int):List Int×Bool×Unit:=if w.length>200 then ([],false,()) else (w,true,())
noncomputable def bh (p:PP) (goal s:List Int):List Int×Bool×Unit:=if (Gu p s&&Ey p.1 goal)=true then GU (Fq p goal s) else ([],false,())
noncomputable abbrev Sy:MSpec:=vV [some 3,none,none] [(false, .Hw tI),(false, .Hw .str),(false, .Hw nf),(false, .Hw tL),(false, .Hw tL)] true [none,none] [rL, .Hw .bool]
 (λx=>Gl (x.1,x.2.1,x.2.2.1,())/\short x.2.2.2.1/\short x.2.2.2.2.1) (λx=>(((bh (x.1,x.2.1,x.2.2.1,()) x.2.2.2.1 x.2.2.2.2.1).1,(bh (x.1,x.2.1,x.2.2.1,()) x.2.2.2.1 x.2.2.2.2.1).2.1,()),()))
theorem XN (f:List (List Int)×List Int×List Int×Bool×Unit) (s:List Int) (P:Int->Prop):(∃(y3:Int),Rd.fn ((f.1,f.2.1,f.2.2.1,f.2.2.2.1,()),s,())=some y3/\Br (decide (y3<(0:Int))) (P (-1:Int)) (∃(y4:Int),idx f.2.1 y3=some y4/\P y4))=fnW Fl (look [(75,Rd)]) bA Tryz.f115 (f,s,()) P:=by kernel_rfl
theorem JU (n:Int) (str:ByteArray) (g:List (List Int)) (goal s:List Int) (P:((List Int×Bool×Unit)×Unit)->Prop):(∃(y6:Option ((Int×ByteArray×List (List Int)×PUnit)×List (List Int)×List Int×(ByteArray->Option Int)×List Int×List Int×List (List Int)×PUnit)×Int×Bool×PUnit),Im.fn ((n,str,g,()),s,())=some y6/\Br (!y6.2.2.1) (P ((List.take 0 (List.drop 0 []),false,()),())) (∃(y7:Bool),Ho.fn (n,goal,())=some y7/\Br (!y7) (P ((List.take 0 (List.drop 0 []),false,()),())) (∃(y8:List Int),Ia.fn (y6.1,goal,())=some y8/\ ∃(y9:(List Int×Int×Bool×PUnit)×PUnit),Jj.fn (y6.1,y8,y6.2.1,())=some y9/\P ((List.take y9.1.1.length (List.drop 0 y9.1.1),y9.1.2.2.1,()),()))))=fnMW aJ (look [(59,Im),(101,Ho),(98,Ia),(97,Jj)]) Sy Tryz.f49 (n,str,g,goal,s,()) P:=by kernel_rfl
theorem VJ (f:SS) (s:List Int) (h:Ha (List.length s) f.1 f.2.2.1/\List.length f.2.1=List.length f.1):fnW Fl (look [(75,Rd)]) bA Tryz.f115 (f,s,()) (λ(z:Int)=>z=Lw f.1 f.2.1 s):=by
 obtain ⟨h1,h2⟩:=h
 refine Eq.mp (XN f s _) ⟨_,Ab h1,?_⟩
 show Br (decide (gU f.1 s<0)) _ _
 unfold gU Lw
 by_cases hm:s∈f.1
 ·have hl:=Hm hm
  rw [Ab hm,Ab hm]
  refine Br.dec (λhn=>absurd hn (by omega)) λ_=>?_
  have nd:List.idxOf s f.1<f.2.1.length:=by omega
  refine ⟨f.2.1[List.idxOf s f.1],?_,by rw [Es nd]⟩
  show idx f.2.1 (if s∈f.1 then ((List.idxOf s f.1:Nat):Int) else-1)=_
  rw [Ab hm]
  exact Bn nd
 ·rw [Ai hm,Ai hm]
  exact ⟨λ_=>rfl,λhn=>by simp at hn⟩
theorem wS:Sound Tryz.prog 115 bA:=
 Sound.Gk Dl (Au gk Bl) mixed Tryz.func115 (by kernel_rfl) (by kernel_rfl) λx h=>VJ x.1 x.2.1 h
theorem kF {p:PP} {goal:List Int} (hw:Db p=true) (ht:Gd p goal=true) {x:List Int} (hx:x∈fK p goal):0<=Kh p goal x/\Kh p goal x<=3000:=by
 have gO:=BE ht
 have wa:=gO.ok.p8
 refine ⟨(js (valid (Dd hw).1) gO (mG hw ht)).nn x hx,?_⟩
 obtain ⟨i,hi,rfl⟩:=Bg.1 hx
 have hiD:i<(Ie p.2.2.1 goal).2.1.length:=by rw [gO.len];exact hi
 have h1:=gO.dep i hiD
 have h2:Kh p goal ((fK p goal)[i])=(AK p goal).getD i 0:=by
  rw [<-Es (d:= []) hi];exact iY gO.ok.nodup hi
 have h3:(AK p goal).getD i 0=(Ie p.2.2.1 goal).2.1[i]:=Es hiD
 rw [h2,h3]
 have:i<(Ie p.2.2.1 goal).1.length:=hi
 omega
theorem eV {p:PP} {goal s:List Int} (hw:Db p=true) (ht:Gd p goal=true) (hs:s∈Al p):
  (Fq p goal s).length=(Kh p goal (Gq s goal)).toNat/\(Fq p goal s).length<=3000/\
  (Dp (Xc p goal) (Mv p s).1=Kh p goal (Gq s goal))/\(bU (Lf p) (Az p.2.2.1.length) (Xc p goal) (Kh p goal (Gq s goal)).toNat (Mv p s).1 []).1=Fq p goal s:=by
 have hv:=(Dd hw).1
 have hb:=kF hw ht (uG hw ht s hs)
 have he:=RN hw ht hs
 have hi:=Hm hs
 have hix:(Mv p s).1=(((Al p).idxOf s:Nat):Int):=by unfold Mv;rw [Ab hs]
 have hsi:(Al p).getD ((Al p).idxOf s) []=s:=by rw [Es hi];exact Ud hi
 obtain ⟨r1,r2,_⟩:=zt hw (tv hw ht) (ku hw ht) (see:= λx=>Gq x goal) (dep:=Kh p goal) (λx hx l _=>No (kG hv hx ht)) (λx hx=>RN hw ht hx)
  (Kh p goal (Gq s goal)).toNat ((Al p).idxOf s) [] hi (by rw [he];omega)
 rw [hsi] at r1
 have r1:_=Fq p goal s:=r1
 rw [r1] at r2
 simp only [Gp,Bt] at r2
 refine ⟨r2,by omega,?_,by rw [hix];exact r1⟩
 rw [hix,<-he]
 unfold Dp
 rw [Ae]
theorem PJ {p:PP} {goal s:List Int} (hw:Db p=true) (ht:Gd p goal=true) (hs:s∈Al p):
  (Of p (Xc p goal) (Mv p s).1).1=(GU (Fq p goal s)).1/\(Of p (Xc p goal) (Mv p s).1).2.2.1=(GU (Fq p goal s)).2.1:=by
 obtain ⟨a1,a2,a3,a4⟩:=eV hw ht hs
 have hb:=kF hw ht (uG hw ht s hs)
 unfold Of GU
 rw [a3]
 by_cases h:Kh p goal (Gq s goal)>200
 ·rw [Ab h,Ab (by omega)];exact ⟨rfl,rfl⟩
 ·rw [Ai h,Ai (by omega)];exact ⟨a4,rfl⟩
theorem HV (n:Int) (str:ByteArray) (g:List (List Int)) (goal s:List Int) (h:Gl (n,str,g,())/\short goal/\short s):
  fnMW aJ (look [(59,Im),(101,Ho),(98,Ia),(97,Jj)]) Sy Tryz.f49 (n,str,g,goal,s,()) (λ(z:(List Int×Bool×Unit)×Unit)=>z=(((bh (n,str,g,()) goal s).1,(bh (n,str,g,()) goal s).2.1,()),())):=by
 obtain ⟨hp,hg,hs⟩:=h
 obtain ⟨p,SD⟩: ∃p:PP,p=(n,str,g,()):=⟨_,rfl⟩
 rw [<-SD] at hp⊢
 refine Eq.mp (JU n str g goal s _) ?_
 rw [<-SD]
 refine ⟨_,Ab ⟨hp,hs⟩,?_⟩
 show Br (!(Kg p s).2.2.1) _ _
 rw [Yo]
 unfold bh
 refine Br.of (λhf=>?_) λhf=>?_
 ·rw [Wo hf,Cq,Ai (by decide)];rfl
 have hf:Gu p s=true:=by simpa using hf
 obtain ⟨hw,hm⟩:=Tf.1 hf
 have hv:=(Dd hw).1
 have hn:=(valid hv).n
 have hn1:p.1=n:=by rw [SD]
 rw [hf,Ek]
 refine ⟨_,Ab ⟨by show nOK n;unfold nOK;omega,hg⟩,?_⟩
 show Br (!Ey n goal) _ _
 rw [<-hn1]
 refine Br.of (λht=>?_) λht=>?_
 ·rw [Ai (Gb ht)];rfl
 have htp:Ey p.1 goal=true:=by simpa using ht
 have ht:Gd p goal=true:=Jo.2 ⟨hv,htp⟩
 rw [Ab htp]
 have hex:Kg p s=(some (Ig p),(Mv p s).1,(Mv p s).2.1,()):=Ab hw
 obtain ⟨i1,i2,i3⟩:=SK hm
 obtain ⟨d1,d2⟩:=PJ hw ht hm
 have wb:Ia.fn ((Kg p s).1,goal,())=some (Xc p goal):=by
  rw [hex]
  exact (Ab ⟨Ig p,rfl,⟨hw,rfl⟩,htp⟩).trans (Et some (RO hw goal))
 have hds:Jj.fn ((Kg p s).1,Xc p goal,(Kg p s).2.1,())=some (Of p (Xc p goal) (Mv p s).1,()):=by
  rw [hex]
  exact Ab ⟨Ig p,rfl,⟨hw,rfl⟩,tv hw ht,i1,by show (Mv p s).1<((Xc p goal).length:Int);rw [tw hw];exact i2⟩
 refine ⟨_,wb,_,hds,?_⟩
 dsimp only
 rw [Dj,d1,d2]
theorem s7:Eu Tryz.prog 49 Sy:=
 Eu.vV Zh (Au Rq (Au aH (Au Xk (Ic Zw Bl)))) mixed Tryz.func49 (by kernel_rfl) (by kernel_rfl) λx h=>HV x.1 x.2.1 x.2.2.1 x.2.2.2.1 x.2.2.2.2.1 h
theorem iZ {p:PP} (hw:Db p=true):Lc p.2.2.1 (Az p.2.2.1.length) (Al p) (λx=>x=(Al p).getD 0 []) (Lw (Al p) (Gh p)):=
 js (valid (Dd hw).1) (gm (Dd hw).1) (yS hw)
theorem TY {p:PP} (hw:Db p=true) {x:List Int} (hx:x∈Al p):0<=Lw (Al p) (Gh p) x/\Lw (Al p) (Gh p) x<=3000:=by
 have gO:=gm (Dd hw).1
 have wa:=gO.ok.p8
 refine ⟨(iZ hw).nn x hx,?_⟩
 obtain ⟨i,hi,rfl⟩:=Bg.1 hx
 have hiD:i<(Gh p).length:=by rw [gO.len];exact hi
 have h1:=gO.dep i hiD
 have h2:Lw (Al p) (Gh p) ((Al p)[i])=(Gh p).getD i 0:=by
  rw [<-Es (d:= []) hi];exact iY gO.ok.nodup hi
 rw [h2,Es hiD]
 omega
theorem mP {g:List (List Int)} {dep:List Int->Int} {ls:List Int} : ∀(n:Nat) (x w:List Int),(∀l∈w,l∈ls)-> ∀l∈(sd g dep ls n x w).1,l∈ls
 |0,x,w,h=>h
 |n+1,x,w,h=>by
  simp only [sd]
  split
  ·rename_i l hf
   refine mP n _ _ λl' hl=>?_
   rcases Ba.1 hl with h2|h2
   ·exact h l' h2
   ·rw [Ad.1 h2];exact List.mem_of_find?_eq_some hf
  ·exact mP n x w h
structure Part (n k:Nat) (s:Gg×Gg):Prop where
 l1:s.1.length=n
 l2:s.2.length=n
 pg:PG n k (s.1.getD k [])
 row:Xx n k (s.1.getD k []) (s.2.getD k [])
 comp:kT n (n-(k+1)) (k+1) s
 gb:GBf (n-(k+1)) (k+1) s
 sub: ∀g,some g∈s.1.getD (k+1) []->Gn n (s.1.getD k []) g
def Hd (n k:Nat) (s:Gg×Gg) (q:List Int):Prop:= ∃t,(s.2.getD k []).getD (ap q k) none=some t/\On s.2 (n-(k+1)) (k+1) (Aj q (Bv t))=true
structure xp (n k:Nat) (s s':Gg×Gg):Prop where
 grow:bK k s s'
 same:s'.1.getD k []=s.1.getD k []
 part:Part n k s'
 Gj: ∀q,Pm n q->Fx k q->Hd n k s q->Hd n k s' q
 new: ∀y t,(s'.2.getD k []).getD y none=some t->(s.2.getD k []).getD y none=some t\/ ∀g,some g∈s.1.getD k []->Hd n k s' (Aj t g)
theorem xp.refl {n k:Nat} {s:Gg×Gg} (h:Part n k s):xp n k s s:=⟨bK.refl _ _,rfl,h,λ_ _ _ h=>h,λ_ _ h=> .inl h⟩
theorem Part.tg {n k:Nat} {s:Gg×Gg} (h:Part n k s) (hk:k<n) {y:Nat} {t g:List Int} (ht:(s.2.getD k []).getD y none=some t) (hg:some g∈s.1.getD k []):Pm n (Aj t g)/\Fx k (Aj t g)/\ap (Aj t g) k=ap g y:=by
 obtain ⟨t1,t2,t3,t4⟩:=h.row.rt _ _ ht
 obtain ⟨g',e,g1,g2⟩:=h.pg _ hg
 cases e
 exact ⟨t1.comp g1,Fx.comp t1 g1 t2 g2 (by omega),by rw [Kr t1 g1 hk,t3]⟩
theorem xp.trans {n k:Nat} {a b c:Gg×Gg} (hk:k<n) (h:xp n k a b) (h':xp n k b c):xp n k a c:=by
 refine ⟨h.grow.trans h'.grow (Aq _),h'.same.trans h.same,h'.part,λq h1 h2 h3=>h'.Gj q h1 h2 (h.Gj q h1 h2 h3),λy t e=>?_⟩
 rcases h'.new y t e with e1|e1
 ·rcases h.new y t e1 with e2|e2
  ·exact .inl e2
  ·refine .inr λg hg=>?_
   obtain ⟨p1,p2,_⟩:=h.part.tg hk e1 (by rw [h.same];exact hg)
   exact h'.Gj _ p1 p2 (e2 g hg)
 ·exact .inr λg hg=>e1 g (by rw [h.same];exact hg)
theorem Part.v {n k:Nat} {s:Gg×Gg} (h:Part n k s):V n (n-(k+1)) (k+1) s:=⟨h.l1,h.l2,h.comp,h.gb⟩
noncomputable def Dw (p:PP):List (List Int)->List Int->List (List Int)
 | [],_=> []
 |goal::gs,s=>Fq p goal s::Dw p gs (Cj p.2.2.1 s (Fq p goal s))
def nh (p:PP) (gs:List (List Int)):Prop:=gs.length<=5/\ ∀g∈gs,Gd p g=true
def aC (ws:List (List Int)):Bool:=List.all ws λw=>decide (w.length<=200)
noncomputable def Kf (p:PP) (gs:List (List Int)) (s:List Int):List (List Int)×Bool×Unit:=
 if (Gu p s&&Gx p gs)=true then (if aC (Dw p gs s)=true then (Dw p gs s,true,()) else ([],false,())) else ([],false,())
noncomputable abbrev Vm:Spec:=Gk (.pair Iw (.pair nf (.pair tL .unit))) (.pair nf (.pair .bool .unit)) true false (λx=>Gl x.1/\Hi x.2.1/\short x.2.2.1) (λx=>Kf x.1 x.2.1 x.2.2.1)
def Ih (ws:List (List Int)):Int:=((ws.map List.length).sum:Nat)
noncomputable def eH (p:PP) (gs:List (List Int)) (s:List Int):Int:=if (Kf p gs s).2.1=true then Ih (Kf p gs s).1 else-1
noncomputable abbrev Zb:Spec:=Gk (.pair Iw (.pair nf (.pair tL .unit))) tI false true (λx=>Gl x.1/\Hi x.2.1/\short x.2.2.1) (λx=>eH x.1 x.2.1 x.2.2.1)
theorem oP {g:List (List Int)} {dep:List Int->Int} {ls:List Int} : ∀(n:Nat) (x w:List Int),∃u,(sd g dep ls n x w).1=w++u/\(sd g dep ls n x w).2=Cj g x u
 |0,x,w=>⟨[],by simp [sd],rfl⟩
 |n+1,x,w=>by
  simp only [sd]
  split
  ·rename_i l _
   obtain ⟨u,h1,h2⟩:=oP (g:=g) (dep:=dep) (ls:=ls) n (Aj x (Ax g l)) (w++ [l])
   exact ⟨l::u,by rw [h1,Bm];rfl,h2⟩
  ·exact oP n x w
theorem nT {p:PP} {gs:List (List Int)} (h:Gx p gs=true):nh p gs:=by
 obtain ⟨h1,h2,_,_⟩:=Jg.1 h
 refine ⟨h2.2,λg hg=>?_⟩
 obtain ⟨j,hj,rfl⟩:=Bg.1 hg
 exact Jo.2 ⟨h1,dc h hj⟩
theorem nh.take {p:PP} {gs:List (List Int)} (h:nh p gs) (j:Nat):nh p (gs.take j):=⟨by rw [Dm];have:=h.1;omega,λg hg=>h.2 g (De hg)⟩
theorem Aep {p:PP} (hw:Db p=true) {S:List Int->Prop} {d:List Int} (hdn:KO p d) (hd:Lc p.2.2.1 (Az p.2.2.1.length) (Al p) S (λx=>d.getD ((Al p).idxOf x) 0)) {i n:Nat} (hi:i<(Al p).length) (hn:d.getD i 0=n):
  ∃j:Nat,(bU (Lf p) (Az p.2.2.1.length) d n (i:Int) []).2=(j:Int)/\j<(Al p).length/\(Al p).getD j []=Cj p.2.2.1 ((Al p).getD i []) (bU (Lf p) (Az p.2.2.1.length) d n (i:Int) []).1:=by
 obtain ⟨e1,_,j,e3,e4,_,e6⟩:=zt hw hdn hd (see:= λx=>x) (dep:= λx=>d.getD ((Al p).idxOf x) 0) (λ_ _ _ _=>rfl) (λ_ _=>rfl) n i [] hi hn
 obtain ⟨u,u1,u2⟩:=oP (g:=p.2.2.1) (dep:= λx=>d.getD ((Al p).idxOf x) 0) (ls:=Az p.2.2.1.length) n ((Al p).getD i []) []
 refine ⟨j,e3,e4,?_⟩
 rw [e1,u1]
 exact e6.trans u2
theorem Tl {p:PP} {goal s:List Int} (hw:Db p=true) (ht:Gd p goal=true) (hs:s∈Al p):
  Cj p.2.2.1 s (Fq p goal s)∈Al p/\(∀l∈Fq p goal s,Hj (List.length p.2.2.1) l)/\
  Of p (Xc p goal) (Mv p s).1=(if (Fq p goal s).length>200 then ([],0,false,()) else (Fq p goal s,(Mv p (Cj p.2.2.1 s (Fq p goal s))).1,true,())):=by
 obtain ⟨a1,a2,a3,a4⟩:=eV hw ht hs
 have hb:=kF hw ht (uG hw ht s hs)
 obtain ⟨n,hn⟩:=Ci hb.1
 have hi:=Hm hs
 have hix:(Mv p s).1=(((Al p).idxOf s:Nat):Int):=by unfold Mv;rw [Ab hs]
 rw [hn] at a1 a3 a4
 rw [hix] at a3 a4
 rw [Ae] at a1 a4
 have a3':(Xc p goal).getD ((Al p).idxOf s) 0=n:=by
  have h:=a3
  unfold Dp at h
  rwa [Ae] at h
 obtain ⟨j,e1,e2,e3⟩:=Aep hw (tv hw ht) (ku hw ht) hi a3'
 rw [a4,Es hi,Ud hi] at e3
 have hm:Cj p.2.2.1 s (Fq p goal s)∈Al p:=by rw [<-e3];exact Nk e2
 have hj:(Mv p (Cj p.2.2.1 s (Fq p goal s))).1=(j:Int):=by
  unfold Mv
  rw [Ab hm,<-e3]
  show ((List.idxOf ((Al p).getD j []) (Al p):Nat):Int)=j
  rw [Mi (JC hw).nodup e2]
 refine ⟨hm,λl hl=>?_,?_⟩
 ·refine Ou (mP (g:=p.2.2.1) (dep:=Kh p goal) (ls:=Az p.2.2.1.length) (Kh p goal (Gq s goal)).toNat (Gq s goal) [] (by simp) l ?_)
  exact hl
 ·unfold Of
  rw [hix,a3,Ae,a4,e1,hj,a1]
  by_cases hc:n>200
  ·rw [Ab (by omega),Ab hc]
  ·rw [Ai (by omega),Ai hc]
theorem cB {p:PP} (hw:Db p=true): ∀(gs:List (List Int)) (s:List Int),(∀g∈gs,Gd p g=true)->s∈Al p->(Dw p gs s).length=gs.length/\ ∀w∈Dw p gs s,w.length<=3000
 | [],_,_,_=>⟨rfl,λw hw=>by cases hw⟩
 |g::gs,s,hg,hs=>by
  have ht:=hg g (by simp)
  obtain ⟨h1,h2⟩:=cB hw gs _ (λg' h=>hg g' (Ap _ h)) (Tl hw ht hs).1
  refine ⟨by simp only [Dw,Ay,h1],λw jk=>?_⟩
  simp only [Dw,Bb] at jk
  rcases jk with rfl|jk
  ·exact (eV hw ht hs).2.1
  ·exact h2 w jk
theorem CI {p:PP} {gs:List (List Int)} {s:List Int} (hg:nh p gs) (hw:Db p=true) (hs:s∈Al p):Hi (Dw p gs s):=by
 obtain ⟨h1,h2⟩:=cB hw gs s hg.2 hs
 have:=hg.1
 exact ⟨by omega,λr hr=>by have:=h2 r hr;unfold short;omega⟩
theorem Ul {ws:List (List Int)} :aC ws=true↔ ∀w∈ws,w.length<=200:=by
 unfold aC
 rw [Bc]
 exact ⟨λh w hw=>Hr (h w hw),λh w hw=>Cb (h w hw)⟩
theorem mS (a b:List (List Int)):Ih (a++b)=Ih a+Ih b:=by
 unfold Ih
 rw [Oz,List.sum_append];omega
theorem mT (w:List Int):Ih [w]=w.length:=by simp [Ih]
theorem yV (a:List (List Int)):0<=Ih a:=by unfold Ih;omega
theorem qp {n:Nat} : ∀(xs:List (List Int)),(∀w∈xs,w.length<=n)->Ih xs<=xs.length*n
 | [],_=>by simp [Ih]
 |w::xs,h=>by
  have h1:=qp xs λw' hw=>h w' (Ap _ hw)
  have h2:=h w (by simp)
  rw [show w::xs= [w]++xs from rfl,mS,mT,Aw,Bq,Int.natCast_add,Int.add_mul]
  omega
theorem LC {p:PP} {gs:List (List Int)} {s:List Int} :((Kf p gs s).1.length<=5/\Hi (Kf p gs s).1)/\ ∀w∈(Kf p gs s).1,w.length<=200:=by
 unfold Kf
 split
 ·rename_i h
  obtain ⟨hf,hm⟩:=Cx.1 h
  obtain ⟨hw,Vv⟩:=Tf.1 hf
  have tG:=nT hm
  split
  ·rename_i Wx
   have h1:=(cB hw gs s tG.2 Vv).1
   have h2:=tG.1
   exact ⟨⟨by show (Dw p gs s).length<=5;omega,CI tG hw Vv⟩,Ul.1 Wx⟩
  ·exact ⟨⟨by simp,by simp [Hi]⟩,by simp⟩
 ·exact ⟨⟨by simp,by simp [Hi]⟩,by simp⟩
noncomputable abbrev Yz:MSpec:=vV [some 3,none,none] [(false, .Hw tI),(false, .Hw .str),(false, .Hw nf),(false, .Hw nf),(false, .Hw tL)] true [none,none] [.Iu tL 33, .Hw .bool]
 (λx=>Gl (x.1,x.2.1,x.2.2.1,())/\Hi x.2.2.2.1/\short x.2.2.2.2.1) (λx=>(((Kf (x.1,x.2.1,x.2.2.1,()) x.2.2.2.1 x.2.2.2.2.1).1,(Kf (x.1,x.2.1,x.2.2.1,()) x.2.2.2.1 x.2.2.2.2.1).2.1,()),()))
noncomputable def eG (p:PP) (gs:List (List Int)):Int:=if (Db p&&Gx p gs)=true then (if (List.all (Al p) λs=>aC (Dw p gs s))=true then yc ((Al p).map λs=>Ih (Dw p gs s)) else-1) else-1
noncomputable abbrev Vk:Spec:=Gk (.pair Iw (.pair nf .unit)) tI false true (λx=>Gl x.1/\Hi x.2.1) (λx=>eG x.1 x.2.1)
theorem QE (n:Int) (str:ByteArray) (g:List (List Int)) (gs:List (List Int)) (s:List Int) (P:((List (List Int)×Bool×Unit)×Unit)->Prop):(∃(y6:Option ((Int×ByteArray×List (List Int)×PUnit)×List (List Int)×List Int×(ByteArray->Option Int)×List Int×List Int×List (List Int)×PUnit)×Int×Bool×PUnit),Im.fn ((n,str,g,()),s,())=some y6/\Br (!y6.2.2.1) (P ((List.take 0 (List.drop 0 []),false,()),())) (∃(y7:Bool),Em.fn ((n,str,g,()),gs,())=some y7/\Br (!y7) (P ((List.take 0 (List.drop 0 []),false,()),())) (0=0/\0=([]:List Int).length/\Dn (λ(v8:Int×Int×List (List Int)×PUnit) (k9:Int×Int×List (List Int)×PUnit->Prop)=>Br (decide (v8.2.1<(↑gs.length:Int))) (∃(Xw:List Int),idx gs v8.2.1=some Xw/\ ∃(Sj:List Int),Ia.fn (y6.1,Xw,())=some Sj/\ ∃(Rr:(List Int×Int×Bool×PUnit)×PUnit),Jj.fn (y6.1,Sj,v8.1,())=some Rr/\Br (!Rr.1.2.2.1) (P ((List.take 0 (List.drop 0 []),false,()),())) (0=0/\v8.2.2.1.length=v8.2.2.1.length/\v8.2.2.1.length+(List.take 1 (List.drop 0 [List.take Rr.1.1.length (List.drop 0 Rr.1.1)])).length<=Ea/\0=0/\(v8.2.2.1++List.take 1 (List.drop 0 [List.take Rr.1.1.length (List.drop 0 Rr.1.1)])).length=(v8.2.2.1++List.take 1 (List.drop 0 [List.take Rr.1.1.length (List.drop 0 Rr.1.1)])).length/\k9 (Rr.1.2.1,IntKind.i64.wrap (v8.2.1+(1:Int)),v8.2.2.1++List.take 1 (List.drop 0 [List.take Rr.1.1.length (List.drop 0 Rr.1.1)]),()))) (P ((List.take v8.2.2.1.length (List.drop 0 v8.2.2.1),true,()),()))) (y6.2.1,(0:Int),[],PUnit.unit))))=fnMW aJ (look [(59,Im),(44,Em),(98,Ia),(97,Jj)]) Yz Tryz.f43 (n,str,g,gs,s,()) P:=by kernel_rfl
abbrev rD:Type:=(Int×ByteArray×List (List Int)×PUnit)×List (List Int)×List Int×(ByteArray->Option Int)×List Int×List Int×List (List Int)×PUnit
theorem QD (p:Int×ByteArray×List (List Int)×Unit) (gs:List (List Int)) (P:Int->Prop):(∃(y3:Option ((Int×ByteArray×List (List Int)×PUnit)×List (List Int)×List Int×(ByteArray->Option Int)×List Int×List Int×List (List Int)×PUnit)×Bool×PUnit),Nf.fn ((p.1,p.2.1,p.2.2.1,()),())=some y3/\Br (!y3.2.1) (P (-1:Int)) (∃(y4:Bool),Em.fn ((p.1,p.2.1,p.2.2.1,()),gs,())=some y4/\Br (!y4) (P (-1:Int)) (∃(y5:rD),y3.1=some y5/\((0:Int)<=(↑y5.2.1.length:Int)/\(↑y5.2.1.length:Int)<(↑Ea:Int)+(1:Int))/\(↑y5.2.1.length:Int)=(↑y5.2.1.length:Int)/\ ∃(y6:rD),y3.1=some y6/\((0:Int)<=(↑y6.2.1.length:Int)/\(↑y6.2.1.length:Int)<(↑Ea:Int)+(1:Int))/\(↑y6.2.1.length:Int)=(↑y6.2.1.length:Int)/\0=0/\(List.replicate (↑y5.2.1.length:Int).toNat (Int.ofNat (nat_lit 0))).length=(List.replicate (↑y5.2.1.length:Int).toNat (Int.ofNat (nat_lit 0))).length/\0=0/\(List.replicate (↑y6.2.1.length:Int).toNat (Int.ofNat (nat_lit 0))).length=(List.replicate (↑y6.2.1.length:Int).toNat (Int.ofNat (nat_lit 0))).length/\Dn (λ(v7:Int×List Int×List Int×PUnit) (k8:Int×List Int×List Int×PUnit->Prop)=>Br (decide (v7.1<(↑(List.replicate (↑y5.2.1.length:Int).toNat (Int.ofNat (nat_lit 0))).length:Int))) (((0:Int)<=v7.1/\v7.1<(↑v7.2.1.length:Int))/\0+v7.1.toNat<v7.2.1.length/\0=0/\v7.2.1.length=(v7.2.1.set (0+v7.1.toNat) v7.1).length/\0=0/\v7.2.2.1.length=v7.2.2.1.length/\k8 (IntKind.i64.wrap (v7.1+(1:Int)),v7.2.1.set (0+v7.1.toNat) v7.1,v7.2.2.1,())) (0=0/\v7.2.1.length=v7.2.1.length/\0=0/\v7.2.2.1.length=v7.2.2.1.length/\Dn (λ(v9:Int×List Int×List Int×PUnit) (k10:Int×List Int×List Int×PUnit->Prop)=>Br (decide (v9.1<(↑gs.length:Int))) (∃(Sj:List Int),idx gs v9.1=some Sj/\ ∃(Rr:List Int),Ia.fn (y3.1,Sj,())=some Rr/\0=0/\v9.2.1.length=v9.2.1.length/\0=0/\v9.2.2.1.length=v9.2.2.1.length/\Dn (λ(ij:Int×List Int×List Int×PUnit) (k14:Int×List Int×List Int×PUnit->Prop)=>Br (decide (ij.1<(↑v9.2.1.length:Int))) (((0:Int)<=ij.1/\ij.1<(↑ij.2.1.length:Int))/\ ∃(lS:Int),ij.2.1[0+ij.1.toNat]?=some lS/\ ∃(gA:(List Int×Int×Bool×PUnit)×PUnit),Jj.fn (y3.1,Rr,lS,())=some gA/\Br (!gA.1.2.2.1) (P (-1:Int)) (((0:Int)<=ij.1/\ij.1<(↑ij.2.2.1.length:Int))/\ ∃(DU:Int),ij.2.2.1[0+ij.1.toNat]?=some DU/\ ∃(z7:Int),Mm.fn (List.take gA.1.1.length (List.drop 0 gA.1.1),())=some z7/\((0:Int)<=ij.1/\ij.1<(↑ij.2.2.1.length:Int))/\0+ij.1.toNat<ij.2.2.1.length/\((0:Int)<=ij.1/\ij.1<(↑ij.2.1.length:Int))/\0+ij.1.toNat<ij.2.1.length/\0=0/\ij.2.1.length=(ij.2.1.set (0+ij.1.toNat) gA.1.2.1).length/\0=0/\ij.2.2.1.length=(ij.2.2.1.set (0+ij.1.toNat) (IntKind.i64.wrap (DU+z7))).length/\k14 (IntKind.i64.wrap (ij.1+(1:Int)),ij.2.1.set (0+ij.1.toNat) gA.1.2.1,ij.2.2.1.set (0+ij.1.toNat) (IntKind.i64.wrap (DU+z7)),()))) (0=0/\ij.2.1.length=ij.2.1.length/\0=0/\ij.2.2.1.length=ij.2.2.1.length/\k10 (IntKind.i64.wrap (v9.1+(1:Int)),ij.2.1,ij.2.2.1,()))) ((0:Int),v9.2.1,v9.2.2.1,PUnit.unit)) (∃(Sj:Int),yM.fn (List.take v9.2.2.1.length (List.drop 0 v9.2.2.1),())=some Sj/\P Sj)) ((0:Int),v7.2.1,v7.2.2.1,PUnit.unit))) ((0:Int),List.replicate (↑y5.2.1.length:Int).toNat (Int.ofNat (nat_lit 0)),List.replicate (↑y6.2.1.length:Int).toNat (Int.ofNat (nat_lit 0)),PUnit.unit))))=fnW Fl (look [(92,Nf),(44,Em),(98,Ia),(97,Jj),(105,Mm),(113,yM)]) Vk Tryz.f48 (p,gs,()) P:=by kernel_rfl
theorem NR (n:Int) (str:ByteArray) (g gs:List (List Int)) (s:List Int) (h:Gl (n,str,g,())/\Hi gs/\short s):
  fnMW aJ (look [(59,Im),(44,Em),(98,Ia),(97,Jj)]) Yz Tryz.f43 (n,str,g,gs,s,()) (λ(z:(List (List Int)×Bool×Unit)×Unit)=>z=(((Kf (n,str,g,()) gs s).1,(Kf (n,str,g,()) gs s).2.1,()),())):=by
 obtain ⟨p,SD⟩: ∃p:PP,p=(n,str,g,()):=⟨_,rfl⟩
 refine Eq.mp (QE n str g gs s _) ?_
 rw [<-SD] at h⊢
 obtain ⟨hp,hg,hs⟩:=h
 refine ⟨_,Ab ⟨hp,hs⟩,?_⟩
 show Br (!(Kg p s).2.2.1) _ _
 rw [Yo]
 unfold Kf
 refine Br.of (λhf=>?_) λhf=>?_
 ·have hf:Gu p s=false:=Wo hf
  rw [hf,Cq,Ai (by decide)];rfl
 have hf:Gu p s=true:=by simpa using hf
 refine ⟨_,Ab ⟨hp,hg⟩,Br.of (λhm=>?_) λhm=>?_⟩
 ·have hm:Gx p gs=false:=Wo hm
  rw [hm,Bool.and_false,Ai (by decide)];rfl
 have hm:Gx p gs=true:=by simpa using hm
 obtain ⟨hw,Vv⟩:=Tf.1 hf
 rw [hf,hm,Bool.and_self,Ab rfl]
 have tG:=nT hm
 have hl5:=tG.1
 have hv:=(Dd hw).1
 have hex:Kg p s=(some (Ig p),(Mv p s).1,(Mv p s).2.1,()):=Ab hw
 dsimp only
 rw [hex]
 obtain ⟨R,hR⟩: ∃R,Dw p gs s=R:=⟨_,rfl⟩
 rw [hR]
 refine ⟨rfl,rfl,?_⟩
 dsimp only
 refine Bo gs.length (λv=>v.2.1) (λj v=> ∃x out,v=((Mv p x).1,(j:Int),out,())/\x∈Al p/\out.length=j/\out++Dw p (gs.drop j) x=R/\ ∀w∈out,w.length<=200) rfl ⟨s,[],rfl,Vv,rfl,by rw [Dr];exact hR,by simp⟩ ?_
 rintro j v K hj hi ⟨x,out,rfl,hx,ho,he,hfo⟩ hK
 dsimp only
 refine Br.dec (λhl=>?_) λhl=>?_
 ·have hl:j<gs.length:=by omega
  have ht:=tG.2 _ (Am hl)
  obtain ⟨e1,e2,e3⟩:=Tl hw ht hx
  obtain ⟨i1,i2,i3⟩:=SK hx
  rw [Cc hl] at he
  simp only [Dw] at he
  have wb:Ia.fn (some (Ig p),gs[j],())=some (Xc p gs[j]):=(Ab ⟨Ig p,rfl,⟨hw,rfl⟩,(Jo.1 ht).2⟩).trans (Et some (RO hw gs[j]))
  have hds:Jj.fn (some (Ig p),Xc p gs[j],(Mv p x).1,())=some (Of p (Xc p gs[j]) (Mv p x).1,()):=
   Ab ⟨Ig p,rfl,⟨hw,rfl⟩,tv hw ht,i1,by show (Mv p x).1<((Xc p gs[j]).length:Int);rw [tw hw];exact i2⟩
  rw [e3] at hds
  generalize Fq p gs[j] x=w at*
  generalize Xc p gs[j]=gd at*
  refine ⟨_,Bn hl,gd,wb,_,hds,?_⟩
  by_cases hc:w.length>200
  ·rw [Ab hc]
   have hnf: ¬aC R=true:= λhf=>by
    have:=Ul.1 hf w (by rw [<-he];simp)
    omega
   rw [Ai hnf]
   exact ⟨λ_=>rfl,λhb=>by simp at hb⟩
  ·rw [Ai hc]
   refine ⟨λhb=>by simp at hb,λ_=>⟨rfl,rfl,by show out.length+1<=4294967296;omega,rfl,rfl,?_⟩⟩
   rw [Bj (by omega)]
   dsimp only
   rw [Dj]
   refine hK hl _ rfl ⟨_,_,rfl,e1,by show (out++ [w]).length=_;rw [Aw,Bq,ho],by show (out++ [w])++_=_;rw [Bm];exact he,λw' jk=>?_⟩
   have jk:w'∈out++ [w]:=jk
   rw [Ba,Ad] at jk
   rcases jk with jk|rfl
   ·exact hfo w' jk
   ·omega
 ·have:j=gs.length:=by omega
  subst this
  rw [Fe] at he
  simp only [Dw,iH] at he
  subst he
  rw [Dj,Ab (Ul.2 hfo)]
theorem vo:Eu Tryz.prog 43 Yz:=
 Eu.vV Zh (Au Rq (Au Lm (Au Xk (Ic Zw Bl)))) mixed Tryz.func43 (by kernel_rfl) (by kernel_rfl) λx h=>NR x.1 x.2.1 x.2.2.1 x.2.2.2.1 x.2.2.2.2.1 h
noncomputable def Ku (p:PP):List (List Int)->List Int->List Int
 | [],s=>s
 |goal::gs,s=>Ku p gs (Cj p.2.2.1 s (Fq p goal s))
theorem mQ (p:PP): ∀(a b:List (List Int)) (s:List Int),Dw p (a++b) s=Dw p a s++Dw p b (Ku p a s)/\Ku p (a++b) s=Ku p b (Ku p a s)
 | [],b,s=>⟨rfl,rfl⟩
 |g::a,b,s=>by
  obtain ⟨h1,h2⟩:=mQ p a b (Cj p.2.2.1 s (Fq p g s))
  exact ⟨by simp only [Kj,Dw,Ku,h1],by simp only [Kj,Ku,h2]⟩
theorem EB {p:PP} (hw:Db p=true): ∀(gs:List (List Int)) (s:List Int),(∀g∈gs,Gd p g=true)->s∈Al p->Ku p gs s∈Al p
 | [],_,_,hs=>hs
 |g::gs,s,hg,hs=>EB hw gs _ (λg' h=>hg g' (Ap _ h)) (Tl hw (hg g (by simp)) hs).1
theorem JD {p:PP} {gs:List (List Int)} {j:Nat} (hl:j<gs.length) (s:List Int):Dw p (gs.take (j+1)) s=Dw p (gs.take j) s++ [Fq p gs[j] (Ku p (gs.take j) s)]/\
  Ku p (gs.take (j+1)) s=Cj p.2.2.1 (Ku p (gs.take j) s) (Fq p gs[j] (Ku p (gs.take j) s)):=by
 rw [Kq,Ac hl,Qb]
 exact mQ p (gs.take j) [gs[j]] s
theorem OR {xs:List Int} {m i:Nat} {v:Int} (hl:xs.length=m) (hi:i<m) {k:Nat} (hk:k<m):(xs.set i v).getD k 0=if i=k then v else xs.getD k 0:=by
 rw [eo (by omega)]
theorem NQ (p:PP) (gs:List (List Int)) (h:Gl p/\Hi gs):fnW Fl (look [(92,Nf),(44,Em),(98,Ia),(97,Jj),(105,Mm),(113,yM)]) Vk Tryz.f48 (p,gs,()) (λ(z:Int)=>z=eG p gs):=by
 obtain ⟨hp,hg⟩:=h
 unfold eG
 refine Eq.mp (QD p gs _) ?_
 by_cases hw:Db p=true
 ·have he:Nf.fn (p,())=some (some (Ig p),true,()):=(Ab hp).trans (Et some (Ab hw))
  rw [hw,Ek]
  refine ⟨_,he,λhb=>by simp at hb,λ_=>⟨_,Ab ⟨hp,hg⟩,Br.of (λhm=>?_) λhm=>?_⟩⟩
  ·rw [Ai (Gb hm)]
  have hm:Gx p gs=true:=by simpa using hm
  rw [Ab hm]
  have tG:=nT hm
  have hl5:=tG.1
  have hv:=(Dd hw).1
  have hx:vX (Ig p):=⟨hw,rfl⟩
  have Qj:(Ig p).2.1=Al p:=ZS hx
  have hm3:=oR hv
  have rV:=PI hv
  have wb: ∀j (hl:j<gs.length),Ia.fn (some (Ig p),gs[j],())=some (Xc p gs[j]):= λj hl=>(Ab ⟨Ig p,rfl,⟨hw,rfl⟩,(Jo.1 (tG.2 _ (Am hl))).2⟩).trans (Et some (RO hw gs[j]))
  have hds: ∀j (hl:j<gs.length) x,x∈Al p->Jj.fn (some (Ig p),Xc p gs[j],(Mv p x).1,())=some (Of p (Xc p gs[j]) (Mv p x).1,()):= λj hl x hx=>by
   obtain ⟨i1,i2,i3⟩:=SK hx
   exact Ab ⟨Ig p,rfl,⟨hw,rfl⟩,tv hw (tG.2 _ (Am hl)),i1,by show (Mv p x).1<((Xc p gs[j]).length:Int);rw [tw hw];exact i2⟩
  generalize Ig p=e at*
  obtain ⟨m,hmm⟩: ∃m,(Al p).length=m:=⟨_,rfl⟩
  have jg:e.2.1.length=m:=by rw [Qj,hmm]
  refine ⟨e,rfl,?_⟩
  rw [jg,Ae,Ej]
  refine ⟨⟨by omega,by show (m:Int)<(4294967296:Int)+1;omega⟩,rfl,e,rfl,?_⟩
  rw [jg,Ae]
  refine ⟨⟨by omega,by show (m:Int)<(4294967296:Int)+1;omega⟩,rfl,rfl,rfl,rfl,rfl,?_⟩
  obtain ⟨st,Afk⟩: ∃st:Nat->List Int,(λk=>(Al p).getD k [])=st:=⟨_,rfl⟩
  have Aag: ∀k,k<m->st k∈Al p:= λk hk=>by rw [<-Afk];exact Nk (by omega)
  have Aug: ∀k,k<m->(Mv p (st k)).1=(k:Int):= λk hk=>by
   unfold Mv
   rw [Ab (Aag k hk),<-Afk]
   show ((List.idxOf ((Al p).getD k []) (Al p):Nat):Int)=k
   rw [Mi (JC hw).nodup (by omega)]
  have Atq: ∀j k,k<m->Ku p (gs.take j) (st k)∈Al p:= λj k hk=>EB hw _ _ (λg hg=>tG.2 g (De hg)) (Aag k hk)
  refine Bo m (λv=>v.1) (λj v=>v.2.1.length=m/\v.2.2.1.length=m/\(∀k,k<m->v.2.1.getD k 0=if k<j then (k:Int) else 0)/\ ∀k,k<m->v.2.2.1.getD k 0=0) rfl ⟨by simp,by simp,λk hk=>?_,λk hk=>?_⟩ ?_
  ·rw [Ai (by omega),Es (by simpa using hk),List.getElem_replicate];rfl
  ·rw [Es (by simpa using hk),List.getElem_replicate];rfl
  rintro j ⟨i,Wl,tot,⟨⟩⟩ K hj hi ⟨h1,h2,h3,h4⟩ hK
  dsimp only at hi h1 h2 h3 h4⊢
  subst hi
  refine Br.dec (λhl=>?_) λhl=>?_
  ·have hl:j<m:=by omega
   refine ⟨⟨by omega,by omega⟩,by rw [Ae];omega,rfl,by rw [Co],rfl,rfl,?_⟩
   rw [Bj (by omega),Ae,Bt]
   refine hK hl _ rfl ⟨by rw [Co];exact h1,h2,λk hk=>?_,h4⟩
   rw [OR h1 hl hk]
   by_cases e:j=k
   ·subst e;rw [Ab rfl,Ab (by omega)]
   ·rw [Ai e,h3 k hk]
    by_cases we:k<j
    ·rw [Ab we,Ab (by omega)]
    ·rw [Ai we,Ai (by omega)]
  have hjm:j=m:=by omega
  subst hjm
  refine ⟨rfl,rfl,rfl,rfl,?_⟩
  refine Bo gs.length (λv=>v.1) (λi v=>v.2.1.length=j/\v.2.2.1.length=j/\ ∀k,k<j->v.2.1.getD k 0=(Mv p (Ku p (gs.take i) (st k))).1/\v.2.2.1.getD k 0=Ih (Dw p (gs.take i) (st k))/\aC (Dw p (gs.take i) (st k))=true) rfl ⟨h1,h2,λk hk=>⟨?_,?_,?_⟩⟩ ?_
  ·show Wl.getD k 0=_
   rw [h3 k hk,Ab hk,List.take_zero];exact (Aug k hk).symm
  ·show tot.getD k 0=_
   rw [h4 k hk,List.take_zero];rfl
  ·rw [List.take_zero];rfl
  rintro i ⟨i',at1,Awa,⟨⟩⟩ K1 hi1 hii ⟨g1,g2,g3⟩ hK1
  dsimp only at hii g1 g2 g3⊢
  subst hii
  refine Br.dec (λp9=>?_) λp9=>?_
  ·have p9:i<gs.length:=by omega
   refine ⟨_,Bn p9,_,wb i p9,rfl,rfl,rfl,rfl,?_⟩
   have ht:=tG.2 _ (Am p9)
   refine Bo j (λv=>v.1) (λk0 v=>v.2.1.length=j/\v.2.2.1.length=j/\(∀k,k<j->v.2.1.getD k 0=if k<k0 then (Mv p (Ku p (gs.take (i+1)) (st k))).1 else (Mv p (Ku p (gs.take i) (st k))).1)/\
    (∀k,k<j->v.2.2.1.getD k 0=if k<k0 then Ih (Dw p (gs.take (i+1)) (st k)) else Ih (Dw p (gs.take i) (st k)))/\ ∀k,k<k0->aC (Dw p (gs.take (i+1)) (st k))=true) rfl
    ⟨g1,g2,λk hk=>(g3 k hk).1,λk hk=>(g3 k hk).2.1,λk hk=>by omega⟩ ?_
   rintro k0 ⟨k',at2,Awb,⟨⟩⟩ K2 tM hki ⟨f1,f2,f3,f4,f5⟩ hK2
   dsimp only at hki f1 f2 f3 f4⊢
   subst hki
   rw [g1]
   refine Br.dec (λnd=>?_) λnd=>?_
   ·have nd:k0<j:=by omega
    have Akh:=Atq i k0 nd
    obtain ⟨s1,s2⟩:=JD p9 (p:=p) (st k0)
    obtain ⟨e1,e2,e3⟩:=Tl hw ht Akh
    have YQ:=(eV hw ht Akh).2.1
    have hd:=hds i p9 _ Akh
    have hfi:=(g3 k0 nd).2.2
    have ha:at2[0+((k0:Nat):Int).toNat]?=some (Mv p (Ku p (gs.take i) (st k0))).1:=by rw [Aev (by omega),f3 k0 nd,Ai (by omega)]
    have hb:Awb[0+((k0:Nat):Int).toNat]?=some (Ih (Dw p (gs.take i) (st k0))):=by rw [Aev (by omega),f4 k0 nd,Ai (by omega)]
    have hs0:=yV (Dw p (gs.take i) (st k0))
    have ca:=qp (n:=3000) (Dw p (gs.take i) (st k0)) (cB hw _ _ (λg hg=>tG.2 g (De hg)) (Aag k0 nd)).2
    rw [(cB hw _ _ (λg hg=>tG.2 g (De hg)) (Aag k0 nd)).1,Dm] at ca
    have Le:Dw p gs (st k0)=Dw p (gs.take (i+1)) (st k0)++Dw p (gs.drop (i+1)) (Ku p (gs.take (i+1)) (st k0)):=by
     have:=(mQ p (gs.take (i+1)) (gs.drop (i+1)) (st k0)).1
     rwa [Jc] at this
    rw [e3] at hd
    generalize Fq p gs[i] (Ku p (gs.take i) (st k0))=w at*
    refine ⟨⟨by omega,by omega⟩,_,ha,_,hd,?_⟩
    by_cases hc:w.length>200
    ·rw [Ab hc]
     refine ⟨λ_=>?_,λhb=>by simp at hb⟩
     rw [Ai λhal=>by
      have:=Ul.1 (Bc.1 hal _ (Aag k0 nd)) w (by rw [Le,s1];simp)
      omega]
    ·rw [Ai hc]
     refine ⟨λhb=>by simp at hb,λ_=>⟨⟨by omega,by omega⟩,_,hb,_,Ab trivial,⟨by omega,by omega⟩,by rw [Ae];omega,⟨by omega,by omega⟩,by rw [Ae];omega,rfl,by rw [Co],rfl,by rw [Co],?_⟩⟩
     rw [Bj (by omega),Ae,Bt]
     dsimp only
     rw [Dj,Ct (by omega) (by omega)]
     refine hK2 nd _ rfl ⟨by rw [Co];exact f1,by rw [Co];exact f2,λk hk=>?_,λk hk=>?_,λk hk=>?_⟩
     ·rw [OR f1 nd hk]
      by_cases e:k0=k
      ·subst e;rw [Ab rfl,Ab (by omega),s2]
      ·rw [Ai e,f3 k hk]
       by_cases we:k<k0
       ·rw [Ab we,Ab (by omega)]
       ·rw [Ai we,Ai (by omega)]
     ·rw [OR f2 nd hk]
      by_cases e:k0=k
      ·subst e;rw [Ab rfl,Ab (by omega),s1,mS,mT]
      ·rw [Ai e,f4 k hk]
       by_cases we:k<k0
       ·rw [Ab we,Ab (by omega)]
       ·rw [Ai we,Ai (by omega)]
     ·by_cases e:k=k0
      ·subst e
       rw [s1]
       refine Ul.2 λw' jk=>?_
       rw [Ba,Ad] at jk
       rcases jk with jk|rfl
       ·exact Ul.1 hfi w' jk
       ·omega
      ·exact f5 k (by omega)
   ·have:k0=j:=by omega
    subst this
    refine ⟨rfl,rfl,rfl,rfl,?_⟩
    rw [Bj (by omega)]
    exact hK1 p9 _ rfl ⟨f1,f2,λk hk=>⟨by rw [f3 k hk,Ab hk],by rw [f4 k hk,Ab hk],f5 k hk⟩⟩
  ·have:i=gs.length:=by omega
   subst this
   rw [Be] at g3
   have Avi:Awa=(Al p).map λs=>Ih (Dw p gs s):=ya (by rw [g2,Dk,hmm]) λk hk=>by
    rw [(g3 k (by omega)).2.1,Es (xs:=List.map _ _) (by rw [Dk];omega),Tn,<-Afk]
    show Ih (Dw p gs ((Al p).getD k []))=_
    rw [Es (by omega)]
   have Le:(List.all (Al p) λs=>aC (Dw p gs s))=true:=Bc.2 λs hs=>by
    obtain ⟨k,hk,rfl⟩:=Bg.1 hs
    have:=(g3 k (by omega)).2.2
    rw [<-Afk] at this
    have this:aC (Dw p gs ((Al p).getD k []))=true:=this
    rwa [Es hk] at this
   rw [Dj,Ab Le,Avi]
   exact ⟨_,Ab ⟨by rw [Dk];omega,by show (List.map _ _).length<=4294967296;rw [Dk];omega⟩,rfl⟩
 ·have he:Nf.fn (p,())=some (none,false,()):=(Ab hp).trans (Et some (Ai hw))
  rw [Fc _|>.mp hw,Cq,Ai (by decide)]
  exact ⟨_,he,λ_=>rfl,λhb=>by simp at hb⟩
theorem vn:Sound Tryz.prog 48 Vk:=
 Sound.Gk Dl (Au lD (Au Lm (Au Xk (Ic Zw (Au Vn (Au WX Bl)))))) mixed Tryz.func48 (by kernel_rfl) (by kernel_rfl) λx h=>NQ x.1 x.2.1 h
open Go.RowKit Go.Lib
noncomputable abbrev Ml:MSpec:=vV [none,none] [(false,rL),(false, .Hw tI)] false [none] [rL] (λx=>x.1= []/\0<=x.2.1/\x.2.1<=100000) (λ_=>(([],()),()))
noncomputable abbrev cv:Spec:=Gk (.pair nf .unit) tL false true (λx=>List.length x.1<=5/\ ∀w∈x.1,w.length<=200) (λx=>List.flatten x.1)
theorem Ada (ws:List (List Int)) (P:List Int->Prop):(Dn (λ(v2:Int×Int×PUnit) (k3:Int×Int×PUnit->Prop)=>Br (decide (v2.2.1<(↑ws.length:Int))) (∃(y4:List Int),idx ws v2.2.1=some y4/\Br (decide (IntKind.i64.wrap (v2.1+(↑y4.length:Int))<(0:Int))) False (k3 (IntKind.i64.wrap (v2.1+(↑y4.length:Int)),IntKind.i64.wrap (v2.2.1+(1:Int)),()))) (∃(y4:(List Int×PUnit)×PUnit),Ml.fn ([],v2.1,())=some y4/\0=0/\y4.1.1.length=y4.1.1.length/\Dn (λ(v5:Int×List Int×PUnit) (k6:Int×List Int×PUnit->Prop)=>Br (decide (v5.1<(↑ws.length:Int))) (∃(y7:List Int),idx ws v5.1=some y7/\0=0/\v5.2.1.length=v5.2.1.length/\v5.2.1.length+y7.length<=Ea/\0=0/\(v5.2.1++y7).length=(v5.2.1++y7).length/\k6 (IntKind.i64.wrap (v5.1+(1:Int)),v5.2.1++y7,())) (P (List.take v5.2.1.length (List.drop 0 v5.2.1)))) ((0:Int),y4.1.1,PUnit.unit))) ((0:Int),(0:Int),PUnit.unit))=fnW Fl (look [(155,Ml)]) cv Tryz.f112 (ws,()) P:=by kernel_rfl
theorem xc (p:Int×ByteArray×List (List Int)×Unit) (gs:List (List Int)) (s:List Int) (P:Int->Prop):(∃(y4:(List (List Int)×Bool×PUnit)×PUnit),Yz.fn (p.1,p.2.1,p.2.2.1,gs,s,())=some y4/\Br (!y4.1.2.1) (P (-1:Int)) (∃(y5:List Int),cv.fn (List.take y4.1.1.length (List.drop 0 y4.1.1),())=some y5/\ ∃(y6:Int),Mm.fn (y5,())=some y6/\P y6))=fnW Fl (look [(43,Yz),(112,cv),(105,Mm)]) Zb Tryz.f47 (p,gs,s,()) P:=by kernel_rfl
theorem sv:Tryz.prog.follows .mixedOrders=true:=by kernel_rfl
set_option maxHeartbeats 4000000 in
set_option maxRecDepth 100000 in
theorem YB (n:Nat) (w:World) (hn:0<n) (h:n<=100000):
  Calls Tryz.prog 155 #[.slice none 0 0, .int .i64 n] w λe w'=>e= .returned (.slice (some ⟨w.heap.size,0,none⟩) 0 (grownCap w n 0 2))/\
   w'=w.drew.alloc (.cells (Builtin.zeroCells #[.int .i64 0] n++Builtin.zeroCells #[.int .i64 0] (grownCap w n 0 2-n)) 2):=by
 have mixed:=sv
 have h1: ¬((n:Int)<0):=by omega
 have h2:wrap64 (((0:Nat):Int)-((0:Nat):Int))=0:=by unfold wrap64;omega
 have h3:wrap64 ((n:Int)-0)=(n:Int):=by unfold wrap64;omega
 have h4:(n:Int)>0:=by omega
 obtain ⟨i0,hi0,ca,hb8,hz0⟩:=Fk (P:=Tryz.prog) (t:=2) (τ:=tI) (b:=8) (by kernel_rfl) (by omega)
 have ca:i0.size=1:=ca
 have hmul:n*i0.bytes<=100000*256:=Uf h hb8
 have hrz: ∀ty,(Builtin.append_ #[33,3] ty #[.slice none 0 0, .int .i64 n]).run Tryz.prog w=
   .ok (.slice (some ⟨w.heap.size,0,none⟩) n (grownCap w n 0 2)) (w.drew.alloc (.cells (Builtin.zeroCells #[.int .i64 0] n++Builtin.zeroCells #[.int .i64 0] (grownCap w n 0 2-n)) 2)):= λty=>by
  have h:=Lib.run_append_grow_zeros (P:=Tryz.prog) w 33 3 ty 2 i0 (.int .i64 0) .i64 .i64 (by kernel_rfl) (by kernel_rfl) hi0 hz0 none 0 0 [] (run_firstCells_none w.drew i0.size 0 0 0) n hn (by omega) (by omega) (by omega) (by omega)
   (by rw [Bt];exact growslice_fits (by omega) (by omega))
  rw [Bt,show ([]:List Value).toArray= #[] from rfl,Array.empty_append] at h
  exact h
 go_enter Tryz.func155,Tryz.ntmps155
 go_wp2_with (at_builtin;refine Lib.wpList_append_run _ rfl _ _ _ _ rfl _ _ rfl rfl _ _ (hrz _) ?_)
 all_goals (go_ret;exact ⟨rfl,rfl⟩)
set_option maxHeartbeats 4000000 in
set_option maxRecDepth 100000 in
theorem QM (w:World):
  Calls Tryz.prog 155 #[.slice none 0 0, .int .i64 0] w λe w'=>e= .returned (.slice none 0 0)/\w'=w:=by
 have mixed:=sv
 go_enter Tryz.func155,Tryz.ntmps155
 go_wp2
 all_goals (go_ret;exact ⟨rfl,rfl⟩)
set_option maxHeartbeats 4000000 in
set_option maxRecDepth 100000 in
theorem YC (base:Option Addr) (c n:Nat) (w:World) (Azs:c<=9223372036854775807) (Ban:n<=100000) (xO:n<=c):
  Calls Tryz.prog 155 #[.slice base 0 c, .int .i64 n] w λe w'=>e= .returned (.slice base 0 c)/\w'=w:=by
 have mixed:=sv
 have h1: ¬((n:Int)<0):=by omega
 have h2:wrap64 ((c:Int)-((0:Nat):Int))=(c:Int):=by unfold wrap64;omega
 have h3:wrap64 ((n:Int)-(c:Int))=(n:Int)-(c:Int):=by unfold wrap64;omega
 have h4: ¬((n:Int)-(c:Int)>0):=by omega
 go_enter Tryz.func155,Tryz.ntmps155
 go_wp2
 all_goals (go_ret;exact ⟨rfl,rfl⟩)
set_option maxHeartbeats 4000000 in
set_option maxRecDepth 100000 in
theorem QN (ad:Addr) (c n:Nat) (cs:List Value) (w:World) (hn:c<n) (h:n<=100000) (Sa:cs.length=c) (tF: ∀j v,cs[j]?=some v->w.cell? (ad.add j)=some v):
  Calls Tryz.prog 155 #[.slice (some ad) 0 c, .int .i64 n] w λe w'=>e= .returned (.slice (some ⟨w.heap.size,0,none⟩) 0 (grownCap w n c 2))/\
   w'=w.drew.alloc (.cells (cs.toArray++Builtin.zeroCells #[.int .i64 0] (n-c)++Builtin.zeroCells #[.int .i64 0] (grownCap w n c 2-n)) 2):=by
 have mixed:=sv
 have h1: ¬((n:Int)<0):=by omega
 have h2:wrap64 ((c:Int)-((0:Nat):Int))=(c:Int):=by unfold wrap64;omega
 have h3:wrap64 ((n:Int)-(c:Int))=(n:Int)-(c:Int):=by unfold wrap64;omega
 have h4:(n:Int)-(c:Int)>0:=by omega
 obtain ⟨i0,hi0,ca,hb8,hz0⟩:=Fk (P:=Tryz.prog) (t:=2) (τ:=tI) (b:=8) (by kernel_rfl) (by omega)
 have ca:i0.size=1:=ca
 have hmul:n*i0.bytes<=100000*256:=Uf h hb8
 have Ao3:(n-c)*i0.bytes<=100000*256:=Uf (by omega) hb8
 have hck:c+(n-c)=n:=by omega
 have hold:(Builtin.firstCells i0.size c (.slice (some ad) c c)).run Tryz.prog w.drew= .ok cs.toArray w.drew:=run_firstCells_some w.drew i0.size c ad c c cs (by rw [ca,Sa,Fw]) (λj v hj=>tF j v hj)
 have hrz: ∀ty,(Builtin.append_ #[33,3] ty #[.slice (some ad) c c, .int .i64 ((n:Int)-(c:Int))]).run Tryz.prog w=
   .ok (.slice (some ⟨w.heap.size,0,none⟩) n (grownCap w n c 2)) (w.drew.alloc (.cells (cs.toArray++Builtin.zeroCells #[.int .i64 0] (n-c)++Builtin.zeroCells #[.int .i64 0] (grownCap w n c 2-n)) 2)):= λty=>by
  have h:=Lib.run_append_grow_zeros (P:=Tryz.prog) w 33 3 ty 2 i0 (.int .i64 0) .i64 .i64 (by kernel_rfl) (by kernel_rfl) hi0 hz0 (some ad) c c cs hold (n-c) (by omega) (by omega) (by omega) (by omega) (by omega)
   (by rw [hck];exact growslice_fits (by omega) (by omega))
  rw [hck] at h
  rw [show (n:Int)-(c:Int)=((n-c:Nat):Int) by omega]
  exact h
 have hGn:n<=grownCap w n c 2:=grownCap_ge w _ _ _
 obtain ⟨G,hG⟩: ∃G,G=grownCap w n c 2:=⟨_,rfl⟩
 rw [<-hG] at hrz hGn⊢
 have Aze:G<=9223372036854775807:=by
  have:=grownCap_le_maxLen w n c 2 (by unfold maxLen;omega)
  rw [<-hG] at this
  unfold maxLen at this
  omega
 clear hold hck hG tF Sa hmul Ao3 ca hb8 hz0 hi0
 obtain ⟨ab,ao,asp⟩:=ad
 go_enter Tryz.func155,Tryz.ntmps155
 go_wp2_with (at_builtin;refine Lib.wpList_append_run _ rfl _ _ _ _ rfl _ _ rfl rfl _ _ (hrz _) ?_)
 all_goals (go_ret;exact ⟨rfl,rfl⟩)
theorem sB (n:Nat):(Builtin.zeroCells #[.int .i64 0] n).size=n:=by simp [Builtin.zeroCells]
theorem OY:Eu Tryz.prog 155 Ml:=by
 refine ⟨bQ Tryz.func155 (by kernel_rfl) (by kernel_rfl),λw S π us x r o g vs hA _ hIn hP hS hno hfn=>?_⟩
 obtain ⟨xs,n,⟨⟩⟩:=x
 have hp:xs= []/\0<=n/\n<=100000:=Bp λhn=>by
  have:Ml.fn (xs,n,())=none:=Ai hn
  rw [this] at hfn;cases hfn
 have hv:Ml.fn (xs,n,())=some (([],()),()):=Ab hp
 rw [hv] at hfn
 cases hfn
 obtain ⟨rfl,h0,h1⟩:=hp
 obtain ⟨N,rfl⟩:=Ci h0
 cases us with
 |nil=>exact hIn.elim
 |cons u us=>
 cases us with
 |nil=>exact hIn.2.elim
 |cons u1 us=>
 cases us with
 |cons u2 us=>exact hIn.2.2.elim
 |nil=>
 obtain ⟨⟨hO,hR⟩,⟨_,hI⟩,_⟩:=hIn
 obtain ⟨rfl,_⟩:=hA
 have hu1:u1= .int .i64 N:=by
  obtain ⟨cs,hc,rfl⟩:=hI
  simp only [Cells] at hc
  subst hc;rfl
 subst hu1
 have fin: ∀(w':World) (v:Value) (p6:Option Real),Jz w.heap.size (λb=>Vd π b\/Ml.gv g b) w w'->Ib p6 1 0 0 v->Sk w' (dy S π λl=>if l=Jh 0 then p6 else none) p6 tI []->
   (∀q,p6=some q-> ∀b,q.Cw b->b<w'.heap.size/\(w.heap.size<=b\/ ∃l q',l<Bk/\π l=some q'/\q'.Cw b))-> ∀e,e=Ending.returned v->
   ∃v Ug ρ,e= .returned v/\ni Ml w' ρ (Ug.drop Ml.Yc) v/\fb Ml π w' g Ug ()/\Jz w.heap.size (λb=>Vd π b\/Ml.gv g b) w w'/\Mo w' (dy S π ρ) π 0 Ml.ins ()/\Jq w' (dy S π ρ) ρ 0 Ml.outs ([],()) Ug/\
    dz ρ (λb=>b<w'.heap.size/\(w.heap.size<=b\/ ∃l q,l<Bk/\π l=some q/\q.Cw b))/\(∀l,(∀k,k<Ml.Tu->l≠Jh k)->ρ l=none)/\(∀kj∈Ml.keeps,sE w w' (π (Ee false kj.1)) (ρ (Jh kj.2)) (Ml.Gj ([],(N:Int),()))):=by
  intro w' v p6 hb ss hfa kB e he
  have YO:(if Jh 0=Jh 0 then p6 else none)=p6:=Ab rfl
  refine ⟨v,[v],λl=>if l=Jh 0 then p6 else none,he,⟨.inl rfl,trivial⟩,trivial,hb,trivial,⟨⟨?_,?_⟩,trivial⟩,⟨λl q b hl hq=>?_,λl l' q q' b hl Lq _ _=>?_⟩,λl hl=>Ai (hl 0 (by decide)),λkj hk=>by cases hk⟩
  ·show Ib (if Jh 0=Jh 0 then p6 else none) 1 0 0 v;rw [YO];exact ss
  ·show Sk w' _ (if Jh 0=Jh 0 then p6 else none) tI [];rw [YO];exact hfa
  ·split at hl
   ·exact kB q hl b hq
   ·cases hl
  ·split at hl
   ·split at Lq
    ·rename_i h1 h2;rw [h1,h2]
    ·cases Lq
   ·cases hl
 have fC: ∀(cells:Array Value) (G:Nat),cells.size=G->G<=maxLen-> ∀e w',e=Ending.returned (.slice (some ⟨w.heap.size,0,none⟩) 0 G)/\w'=w.drew.alloc (.cells cells 2)->
   ∃v Ug ρ,e= .returned v/\ni Ml w' ρ (Ug.drop Ml.Yc) v/\fb Ml π w' g Ug ()/\Jz w.heap.size (λb=>Vd π b\/Ml.gv g b) w w'/\Mo w' (dy S π ρ) π 0 Ml.ins ()/\Jq w' (dy S π ρ) ρ 0 Ml.outs ([],()) Ug/\
    dz ρ (λb=>b<w'.heap.size/\(w.heap.size<=b\/ ∃l q,l<Bk/\π l=some q/\q.Cw b))/\(∀l,(∀k,k<Ml.Tu->l≠Jh k)->ρ l=none)/\(∀kj∈Ml.keeps,sE w w' (π (Ee false kj.1)) (ρ (Jh kj.2)) (Ml.Gj ([],(N:Int),()))):=by
  intro cells G hc hG e w' ⟨he,hw⟩
  have nX:w'.heap=w.heap.push (.cells cells 2):=by rw [hw];rfl
  refine fin w' _ (some ⟨w.heap.size,0,G,λb=>b=w.heap.size,λ_=>False⟩) ⟨by rw [hw];rfl,by rw [hw];rfl,by rw [hw];rfl,by rw [nX];simp,λk hk _=>by rw [nX,Array.getElem?_push_lt hk];simp [hk]⟩ ⟨⟨w.heap.size,0,none⟩,rfl,by omega,λ_=>rfl⟩
   ⟨⟨rfl,λb hb=>hb⟩,cells,2,by rw [nX];simp,by rw [hc];simp [Ty.size],hG,by simp,λi x hx=>by simp at hx⟩ (λq hq b hb=>?_) e he
  cases hq
  have hb:b=w.heap.size:=hb
  subst hb
  exact ⟨by rw [nX];simp, .inl (Aq _)⟩
 have h1:(N:Int)<=100000:=h1
 have hNl:N<=100000:=by omega
 show Calls Tryz.prog _ #[u, .int .i64 N] w _
 cases hq:π (Ee false 0) with
 |none=>
  rw [hq] at hO
  obtain ⟨rfl,_,_⟩:=hO
  by_cases hN:N=0
  ·subst hN
   refine (QM w).mono λe w' ⟨he,hw⟩=>?_
   subst hw
   exact fin _ _ none (Jz.refl _ _ _) ⟨rfl,rfl,rfl⟩ rfl (λq hq=>by cases hq) e he
  ·have hgc:=grownCap_ge w N 0 2
   have hgm:=grownCap_le_maxLen w N 0 2 (by unfold maxLen;omega)
   exact (YB N w (by omega) hNl).mono λe w' h=>fC _ _ (by rw [Rt,sB,sB];omega) hgm e w' h
 |some q=>
  rw [hq] at hO hR
  obtain ⟨ad,rfl,_,RT⟩:=hO
  obtain ⟨⟨f1,f2⟩,cur,ti,f3,f4,f5,_,_⟩:=hR
  have hqc:q.cap-0=q.cap:=Nat.sub_zero _
  rw [hqc]
  have h63:q.cap<=9223372036854775807:=by unfold maxLen at f5;omega
  by_cases hN:N<=q.cap
  ·refine (YC (some ad) q.cap N w h63 hNl hN).mono λe w' ⟨he,hw⟩=>?_
   subst hw
   refine fin _ _ (some q) (Jz.refl _ _ _) ⟨ad,by rw [Nat.sub_zero],by omega,RT⟩ ⟨⟨f1,f2⟩,cur,ti,f3,f4,f5,by simp,λi x hx=>by simp at hx⟩ (λq' iB b hb=>?_) e he
   cases iB
   exact ⟨hP.Wl _ _ b hq hb, .inr ⟨_,q,by decide,hq,hb⟩⟩
  ·have hgc:=grownCap_ge w N q.cap 2
   have hgm:=grownCap_le_maxLen w N q.cap 2 (by unfold maxLen;omega)
   have tF:cur.size=q.o+q.cap:=by rw [f4];simp [Ty.size]
   refine (QN ad q.cap N (cur.toList.drop q.o) w (by omega) hNl (by rw [Zl,Ma];omega) (λj v hj=>?_)).mono λe w' h=>fC _ _ (by rw [Rt,Rt,sB,sB,Gz,Zl,Ma];omega) hgm e w' h
   have hjl:=(Ao.1 hj).1
   rw [Zl,Ma] at hjl
   rw [RT (by omega)]
   rw [Cz,cH] at hj
   have LX:(⟨q.g,(q.o+0)*tI.size,none⟩:Addr).add j=⟨q.g,q.o+j,none⟩:=by simp [Addr.add,Ty.size]
   rw [LX]
   exact (cellOf f3 _).trans hj
theorem UE {ws:List (List Int)} {j:Nat} (hl:j<ws.length):(ws.take (j+1)).flatten=(ws.take j).flatten++ws[j]:=by
 rw [Kq,Ac hl,Qb,List.flatten_append]
 simp
theorem qI (ws:List (List Int)):((ws.flatten.length:Nat):Int)=Ih ws:=by
 unfold Ih
 rw [List.length_flatten]
theorem Abo (ws:List (List Int)) (h:ws.length<=5/\ ∀w∈ws,w.length<=200):fnW Fl (look [(155,Ml)]) cv Tryz.f112 (ws,()) (λ(z:List Int)=>z=ws.flatten):=by
 obtain ⟨h5,h2⟩:=h
 have hb: ∀j,0<=Ih (ws.take j)/\Ih (ws.take j)<=1000:= λj=>by
  have h1:=qp (n:=200) (ws.take j) λw hw=>h2 w (De hw)
  have h3:=yV (ws.take j)
  rw [Dm] at h1
  omega
 refine Eq.mp (Ada ws _) ?_
 refine Bo ws.length (λv=>v.2.1) (λj v=>v=(Ih (ws.take j),(j:Int),())) rfl rfl ?_
 rintro j v K hj hi rfl hK
 dsimp only
 have hbj:=hb j
 refine Br.dec (λhl=>?_) λhl=>?_
 ·have hl:j<ws.length:=by omega
  have hw:=h2 _ (Am hl)
  refine ⟨_,Bn hl,?_⟩
  rw [Ct (by omega) (by omega)]
  refine Br.dec (λhn=>by omega) λ_=>?_
  rw [Bj (by omega)]
  refine hK hl _ rfl ?_
  rw [Kq,Ac hl,Qb,mS,mT]
 ·refine ⟨_,Ab ⟨rfl,hbj.1,by have:=hbj.2;show Ih (ws.take j)<=100000;omega⟩,rfl,rfl,?_⟩
  refine Bo ws.length (λv=>v.1) (λi v=>v=((i:Int),(ws.take i).flatten,())) rfl rfl ?_
  rintro i v K' gM hii rfl hK'
  dsimp only
  have hbi:=hb i
  rw [<-qI] at hbi
  refine Br.dec (λLq=>?_) λLq=>?_
  ·have Lq:i<ws.length:=by omega
   have hw:=h2 _ (Am Lq)
   refine ⟨_,Bn Lq,rfl,rfl,by show _<=4294967296;omega,rfl,rfl,?_⟩
   rw [Bj (by omega)]
   refine hK' Lq _ rfl ?_
   rw [UE Lq]
  ·have:i=ws.length:=by omega
   subst this
   rw [Dj,Be]
theorem BZ:Sound Tryz.prog 112 cv:=
 Sound.Gk Dl (Ic OY Bl) mixed Tryz.func112 (by kernel_rfl) (by kernel_rfl) λx h=>Abo x.1 h
theorem wE (p:PP) (gs:List (List Int)) (s:List Int) (h:Gl p/\Hi gs/\short s):fnW Fl (look [(43,Yz),(112,cv),(105,Mm)]) Zb Tryz.f47 (p,gs,s,()) (λ(z:Int)=>z=eH p gs s):=by
 refine Eq.mp (xc p gs s _) ⟨_,Ab h,?_⟩
 show Br (!(Kf p gs s).2.1) _ _
 unfold eH
 have hb:=LC (p:=p) (gs:=gs) (s:=s)
 refine Br.of (λhf=>?_) λhf=>?_
 ·rw [Ai (Gb hf)]
 ·have hf:(Kf p gs s).2.1=true:=by simpa using hf
  rw [Ab hf]
  show ∃y5,cv.fn (List.take (Kf p gs s).1.length (List.drop 0 (Kf p gs s).1),())=some y5/\_
  rw [Dj]
  exact ⟨_,Ab ⟨hb.1.1,hb.2⟩,_,Ab trivial,qI _⟩
theorem oI:Sound Tryz.prog 47 Zb:=
 Sound.Gk Dl (Ic vo (Au BZ (Au Vn Bl))) mixed Tryz.func47 (by kernel_rfl) (by kernel_rfl) λx h=>wE x.1 x.2.1 x.2.2.1 h
theorem xg (p q:List Int) (P:List Int->Prop):(0=0/\0=([]:List Int).length/\Dn (λ(v3:Int×List Int×PUnit) (k4:Int×List Int×PUnit->Prop)=>Br (decide (v3.1<(↑p.length:Int))) (∃(y5:Int),idx p v3.1=some y5/\ ∃(y6:Int),idx q y5=some y6/\0=0/\v3.2.1.length=v3.2.1.length/\v3.2.1.length+(List.take 1 (List.drop 0 [y6])).length<=Ea/\0=0/\(v3.2.1++List.take 1 (List.drop 0 [y6])).length=(v3.2.1++List.take 1 (List.drop 0 [y6])).length/\k4 (IntKind.i64.wrap (v3.1+(1:Int)),v3.2.1++List.take 1 (List.drop 0 [y6]),())) (P (List.take v3.2.1.length (List.drop 0 v3.2.1)))) ((0:Int),[],PUnit.unit))=fnW Fl (look []) Il Tryz.f81 (p,q,()) P:=by kernel_rfl
theorem TS {p q:List Int} {j:Nat} (h:j<p.length):(Aj p q).take (j+1)=(Aj p q).take j++ [Dp q p[j]]:=by
 unfold Aj
 rw [Ds (by rw [Dk];exact h),Tn]
theorem wI (p q:List Int) (h:List.length p<=20/\Lu (List.length q) p):fnW Fl (look []) Il Tryz.f81 (p,q,()) (λ(z:List Int)=>z=Aj p q):=by
 obtain ⟨h1,h2⟩:=h
 refine Eq.mp (xg p q _) ⟨rfl,rfl,?_⟩
 refine Bo p.length (λv=>v.1) (λj v=>v=((j:Int),(Aj p q).take j,())) rfl rfl ?_
 rintro j v K hj hi rfl hK
 dsimp only
 have hlen:((Aj p q).take j).length<=20:=by rw [Dm];unfold Aj;rw [Dk];omega
 refine Br.dec (λhl=>?_) λhl=>?_
 ·have hl:j<p.length:=by omega
  have hr:=h2 p[j] (Am hl)
  refine ⟨_,Bn hl,Dp q p[j],a8 hr.1 hr.2,rfl,rfl,?_,rfl,rfl,?_⟩
  ·show ((Aj p q).take j).length+1<=4294967296
   omega
  ·rw [Bj (by omega)]
   refine hK hl _ rfl ?_
   rw [TS hl]
   rfl
 ·have:j=p.length:=by omega
  subst this
  rw [Dj,<-Sn p q,Be]
theorem dr:Sound Tryz.prog 81 Il:=
 Sound.Gk Dl Bl mixed Tryz.func81 (by kernel_rfl) (by kernel_rfl) λx h=>wI x.1 x.2.1 h
noncomputable def jt (p:PP) (s:List Int):Int:=if Gu p s=true then Lw (Al p) (Gh p) s else-1
noncomputable abbrev eR:Spec:=Gk (.pair Iw (.pair tL .unit)) (.pair bl (.pair tI (.pair .bool .unit))) true false (λx=>Gl x.1/\short x.2.1) (λx=>((Fh x.1).1,jt x.1 x.2.1,Gu x.1 x.2.1,()))
noncomputable abbrev mK:Spec:=Gk (.pair Iw (.pair tL .unit)) tI false true (λx=>Gl x.1/\short x.2.1) (λx=>jt x.1 x.2.1)
theorem Adk (p:Int×ByteArray×List (List Int)×Unit) (s:List Int) (P:((List (List Int)×List Int×List Int×Bool×Unit)×Int×Bool×Unit)->Prop):(∃(y3:(List (List Int)×List Int×List Int×Bool×PUnit)×Bool×PUnit),Qt.fn ((p.1,p.2.1,p.2.2.1,()),())=some y3/\Br (!y3.2.1) (P ((y3.1.1,y3.1.2.1,y3.1.2.2.1,y3.1.2.2.2.1,()),(-1:Int),false,())) (∃(y4:Bool),Og.fn ((p.1,p.2.1,p.2.2.1,()),s,())=some y4/\Br (!y4) (P ((y3.1.1,y3.1.2.1,y3.1.2.2.1,y3.1.2.2.2.1,()),(-1:Int),false,())) (∃(y5:Int),bA.fn ((y3.1.1,y3.1.2.1,y3.1.2.2.1,y3.1.2.2.2.1,()),s,())=some y5/\P ((y3.1.1,y3.1.2.1,y3.1.2.2.1,y3.1.2.2.2.1,()),y5,decide (y5>=(0:Int)),()))))=fnW Fl (look [(114,Qt),(64,Og),(115,bA)]) eR Tryz.f52 (p,s,()) P:=by kernel_rfl
theorem Alp (p:Int×ByteArray×List (List Int)×Unit) (s:List Int) (P:Int->Prop):(∃(y3:(List (List Int)×List Int×List Int×Bool×PUnit)×Int×Bool×PUnit),eR.fn ((p.1,p.2.1,p.2.2.1,()),s,())=some y3/\Br (!y3.2.2.1) (P (-1:Int)) (P y3.2.1))=fnW Fl (look [(52,eR)]) mK Tryz.f13 (p,s,()) P:=by kernel_rfl
theorem Abx (p:PP) (s:List Int) (h:Gl p/\short s):fnW Fl (look [(114,Qt),(64,Og),(115,bA)]) eR Tryz.f52 (p,s,()) (λ(z:SS×Int×Bool×Unit)=>z=((Fh p).1,jt p s,Gu p s,())):=by
 refine Eq.mp (Adk p s _) ⟨_,Ab h.1,?_⟩
 by_cases hw:Db p=true
 ·have hv:=(Dd hw).1
  have e1:Fh p=(Nn p.2.2.1 (upto p.1.toNat),true,()):=by unfold Fh;rw [Ab hv,hw]
  show Br (!(Fh p).2.1) _ _
  refine ⟨λhb=>by rw [e1] at hb;simp at hb,λ_=>⟨_,Ab h,?_⟩⟩
  show Br (!(Ca p&&Ix p.1 s)) _ _
  rw [hv,Ek]
  unfold jt Gu
  rw [hw,Ek]
  refine Br.of (λhb=>?_) λhb=>?_
  ·have hm: ¬s∈Al p:= λhm=>by rw [PH hv hm] at hb;cases hb
   rw [Dx hm,Ai (by decide)]
  ·have hb:Ix p.1 s=true:=by simpa using hb
   have MH:=LW (valid hv) hb
   refine ⟨_,Ab ⟨by show Ha s.length (Fh p).1.1 (Fh p).1.2.2.1;rw [e1,MH.1];exact (gm hv).ok,by show (Fh p).1.2.1.length=(Fh p).1.1.length;rw [e1];exact (gm hv).len⟩,?_⟩
   have hdp:Lw (Fh p).1.1 (Fh p).1.2.1 s=Lw (Al p) (Gh p) s:=by rw [e1];rfl
   by_cases hm:s∈Al p
   ·have hd:=(TY hw hm).1
    rw [Cb hm,Ab rfl]
    show (_,Lw (Fh p).1.1 (Fh p).1.2.1 s,decide (Lw (Fh p).1.1 (Fh p).1.2.1 s>=0),())=_
    rw [hdp,Cb hd]
   ·have hd:Lw (Al p) (Gh p) s= -1:=Ai hm
    rw [Dx hm,Ai (by decide)]
    show (_,Lw (Fh p).1.1 (Fh p).1.2.1 s,decide (Lw (Fh p).1.1 (Fh p).1.2.1 s>=0),())=_
    rw [hdp,hd]
    rfl
 ·have e1:(Fh p).2.1=false:=by
   unfold Fh
   by_cases hv:Ca p=true
   ·rw [Ab hv];exact Fc _|>.mp hw
   ·rw [Ai hv]
  show Br (!(Fh p).2.1) _ _
  rw [e1]
  refine ⟨λ_=>?_,λhb=>by simp at hb⟩
  have hf:Gu p s=false:=by unfold Gu;rw [Fc _|>.mp hw,Cq]
  unfold jt
  rw [hf,Ai (by decide)]
theorem CG:Sound Tryz.prog 52 eR:=
 Sound.Gk Dl (Au jR (Au Xm (Au wS Bl))) mixed Tryz.func52 (by kernel_rfl) (by kernel_rfl) λx h=>Abx x.1 x.2.1 h
theorem Aky (p:PP) (s:List Int) (h:Gl p/\short s):fnW Fl (look [(52,eR)]) mK Tryz.f13 (p,s,()) (λ(z:Int)=>z=jt p s):=by
 refine Eq.mp (Alp p s _) ⟨_,Ab h,?_⟩
 show Br (!Gu p s) _ _
 refine Br.of (λhb=>?_) λ_=>rfl
 unfold jt
 rw [Ai (Gb hb)]
theorem OW:Sound Tryz.prog 13 mK:=
 Sound.Gk Dl (Au CG Bl) mixed Tryz.func13 (by kernel_rfl) (by kernel_rfl) λx h=>Aky x.1 x.2.1 h
theorem Lc.sub {g:List (List Int)} {ls:List Int} {L:List (List Int)} {S S':List Int->Prop} {d d':List Int->Int} (hc:pe g ls L) (h:Lc g ls L S d) (h':Lc g ls L S' d') (hS: ∀x∈L,S' x->S x):
  ∀(n:Nat) (x:List Int),x∈L->d' x=n->d x<=n
 |0,x,hx,e=>by
  have:=(h.zero x hx).2 (hS x hx ((h'.zero x hx).1 e))
  omega
 |n+1,x,hx,e=>by
  obtain ⟨l,hl,hd⟩:=h'.down x hx (by omega)
  obtain ⟨b1,b2⟩:=hc.back x hx l hl
  have h1:=Lc.sub hc h h' hS n _ (hc.next x hx l hl) (by omega)
  have h2:=h.step _ (hc.next x hx l hl) _ b1
  rw [b2] at h2
  omega
abbrev tB:Ty:= .slice (.int .u8)
abbrev YR:Ty:= .int .u64
def hN (h:Int):Int:=IntKind.u64.wrap (IntKind.u64.wrap (h*(6364136223846793005:Int))+(1442695040888963407:Int))
def xN (h:Int):Int:=IntKind.i64.wrap (IntKind.u64.wrap (↑(BitVec.ofInt IntKind.u64.bits (h.fdiv ((2:Int)^min (Int.toNat (33:Int)) IntKind.u64.bits))&&&BitVec.ofInt IntKind.u64.bits (16777215:Int)).toNat:Int))
def dI (b:List Int) (i:Int):Int:=if i<(b.length:Int) then i+1 else i
def dR (b:List Int) (i h n:Int):Int:=if i<(b.length:Int) then (xN (hN h)+Dp b i).tmod n else (xN (hN h)).tmod n
structure eY (b:List Int) (i:Int):Prop where
 len:b.length<=4096
 byte: ∀y∈b,0<=y/\y<256
 lo:0<=i
 hi:i<=b.length
def II:List Int->Int->Int
 | [],h=>h
 |c::r,h=>II r (IntKind.u64.wrap (IntKind.u64.wrap (IntKind.u64.wrap (h*(1099511628211:Int))+IntKind.u64.wrap c)+(3:Int)))
def pP (b:List Int) (s:Int):Int:=II b (IntKind.u64.wrap (IntKind.u64.wrap (s*(7919:Int))+IntKind.u64.wrap (b.length:Int)))
def ag (b:List Int) (i h m:Int):Int×Int×Int:=(dI b (dI b i),hN (hN h),if dR b (dI b i) (hN h) 2=0 then-(1+dR b i h m) else 1+dR b i h m)
def wGo (b:List Int) (m:Int):Nat->Int->Int->List Int->Int×Int×List Int
 |0,i,h,w=>(i,h,w)
 |k+1,i,h,w=>wGo b m k (ag b i h m).1 (ag b i h m).2.1 (w++ [(ag b i h m).2.2])
def Vy (b:List Int) (i h m k:Int):Int×Int×List Int:=wGo b m (dR b i h (k+1)).toNat (dI b i) (hN h) []
def gq (b:List Int) (n:Int):Nat->Int->Int->List Int->Int×Int×List Int
 |0,i,h,mv=>(i,h,mv)
 |k+1,i,h,mv=>gq b n k (dI b (dI b i)) (hN (hN h)) ((mv.set (dR b i h n).toNat (Dp mv (dR b (dI b i) (hN h) n))).set (dR b (dI b i) (hN h) n).toNat (Dp mv (dR b i h n)))
def pT (b:List Int) (n i h:Int):Int×Int×List Int:=gq b n (1+dR b i h 3).toNat (dI b i) (hN h) (upto n.toNat)
def aQ (b:List Int) (n:Int):Nat->Int->Int->List (List Int)->Int×Int×List (List Int)
 |0,i,h,ms=>(i,h,ms)
 |k+1,i,h,ms=>aQ b n k (pT b n i h).1 (pT b n i h).2.1 (ms++ [(pT b n i h).2.2])
def Abf:ByteArray:= {data:= #[(65:UInt8),(66:UInt8)]}
def aP (b:List Int) (i h:Int):Int×Int×PP:=((aQ b (3+dR b i h 3) 2 (dI b i) (hN h) []).1,(aQ b (3+dR b i h 3) 2 (dI b i) (hN h) []).2.1,(3+dR b i h 3,Abf,(aQ b (3+dR b i h 3) 2 (dI b i) (hN h) []).2.2,()))
noncomputable abbrev Ako:MSpec:= {Kn:= [none,none],ins:= [(false, .Hw tB),(false, .Hw YR)],Jy:=false,Ji:= [none,none,none],outs:= [.Hw tB, .Hw tI, .Hw YR],fn:= λ_=>none,rp:=some 69}
noncomputable abbrev qd:MSpec:=pb Ako (λx=>List.length x.1<=4096) (λx=>((x.1,0,pP x.1 x.2.1,()),()))
noncomputable abbrev Afq:MSpec:= {ptr:=some (69,3),Kn:= [none],ins:= [(false, .Hw tB),(false, .Hw tI),(false, .Hw YR),(false, .Hw tI)],Jy:=false,Ji:= [none],outs:= [.Hw tB, .Hw tI, .Hw YR, .Hw tI],fn:= λ_=>none}
noncomputable abbrev Mg:MSpec:=pb Afq (λx=>eY x.1 x.2.1/\1<=x.2.2.2.1) (λx=>((x.1,dI x.1 x.2.1,hN x.2.2.1,dR x.1 x.2.1 x.2.2.1 x.2.2.2.1,()),()))
noncomputable abbrev Vj:Spec:=Gk (.pair tL (.pair tL .unit)) .bool false true (λx=>short x.1/\short x.2.1) (λx=>Vx x.1 x.2.1)
noncomputable abbrev eN:MSpec:=vV [none] [(false, .Hw tI)] false [none] [rL] (λx=>0<=x.1/\x.1<=20) (λx=>((upto x.1.toNat,()),()))
noncomputable abbrev bF:MSpec:=vV [none] [(false, .Hw tI)] false [none] [rL] (λx=>1<=x.1/\x.1<=20) (λx=>((upto x.1.toNat,()),()))
noncomputable abbrev Ow:Spec:=Gk (.pair tI .unit) tL false true (λx=>1<=x.1/\x.1<=20) (λx=>upto x.1.toNat)
noncomputable abbrev yB:Spec:=Gk (.pair tB .unit) .bool false true (λ_=>True) (λx=>decide ((List.length x.1:Int)>4096))
noncomputable abbrev Apm:MSpec:= {ptr:=some (69,3),Kn:= [],ins:= [(false, .Hw tB),(false, .Hw tI),(false, .Hw YR)],Jy:=false,Ji:= [some 3],outs:= [.Hw tB, .Hw tI, .Hw YR, .Hw tI, .Hw .str,rLL],fn:= λ_=>none}
noncomputable abbrev yO:MSpec:=pb Apm (λx=>eY x.1 x.2.1) (λx=>((x.1,(aP x.1 x.2.1 x.2.2.1).1,(aP x.1 x.2.1 x.2.2.1).2.1,(aP x.1 x.2.1 x.2.2.1).2.2.1,(aP x.1 x.2.1 x.2.2.1).2.2.2.1,(aP x.1 x.2.1 x.2.2.1).2.2.2.2.1,()),()))
noncomputable abbrev Apl:MSpec:= {ptr:=some (69,3),Kn:= [none],ins:= [(false, .Hw tB),(false, .Hw tI),(false, .Hw YR),(false, .Hw tI)],Jy:=false,Ji:= [none],outs:= [.Hw tB, .Hw tI, .Hw YR, .Hw tI],fn:= λ_=>none}
noncomputable abbrev yN:MSpec:=pb Apl (λx=>eY x.1 x.2.1/\1<=x.2.2.2.1/\x.2.2.2.1<=8) (λx=>((x.1,(ag x.1 x.2.1 x.2.2.1 x.2.2.2.1).1,(ag x.1 x.2.1 x.2.2.1 x.2.2.2.1).2.1,(ag x.1 x.2.1 x.2.2.1 x.2.2.2.1).2.2,()),()))
noncomputable abbrev Apo:MSpec:= {ptr:=some (69,3),Kn:= [none,none],ins:= [(false, .Hw tB),(false, .Hw tI),(false, .Hw YR),(false, .Hw tI),(false, .Hw tI)],Jy:=false,Ji:= [none],outs:= [.Hw tB, .Hw tI, .Hw YR,rL],fn:= λ_=>none}
noncomputable abbrev rq:MSpec:=pb Apo (λx=>eY x.1 x.2.1/\(1<=x.2.2.2.1/\x.2.2.2.1<=8)/\0<=x.2.2.2.2.1/\x.2.2.2.2.1<=20) (λx=>((x.1,(Vy x.1 x.2.1 x.2.2.1 x.2.2.2.1 x.2.2.2.2.1).1,(Vy x.1 x.2.1 x.2.2.1 x.2.2.2.1 x.2.2.2.2.1).2.1,(Vy x.1 x.2.1 x.2.2.1 x.2.2.2.1 x.2.2.2.2.1).2.2,()),()))
theorem Alv (code:List Int) (OP:Int) (P:((List Int×Int×Int×Unit)×Unit)->Prop):(Dn (λ(v3:Int×List Int×Int×Int×PUnit) (k4:Int×List Int×Int×Int×PUnit->Prop)=>Br (decide (v3.1<(↑code.length:Int))) (∃(y5:Int),idx code v3.1=some y5/\k4 (IntKind.i64.wrap (v3.1+(1:Int)),v3.2.1,v3.2.2.1,IntKind.u64.wrap (IntKind.u64.wrap (IntKind.u64.wrap (v3.2.2.2.1*(1099511628211:Int))+IntKind.u64.wrap y5)+(3:Int)),())) (P ((v3.2.1,v3.2.2.1,v3.2.2.2.1,()),()))) ((0:Int),code,Int.ofNat (nat_lit 0),IntKind.u64.wrap (IntKind.u64.wrap (OP*(7919:Int))+IntKind.u64.wrap (↑code.length:Int)),PUnit.unit))=fnMW aJ (look []) qd Tryz.f9 (code,OP,()) P:=by kernel_rfl
theorem Agt (b:List Int) (i h n:Int) (P:((List Int×Int×Int×Int×Unit)×Unit)->Prop):(¬(33:Int)<(0:Int)/\Br (decide (i<(↑b.length:Int))) (∃(y5:Int),idx b i=some y5/\n≠(0:Int)/\P ((b,IntKind.i64.wrap (i+(1:Int)),IntKind.u64.wrap (IntKind.u64.wrap (h*(6364136223846793005:Int))+(1442695040888963407:Int)),(IntKind.i64.wrap (IntKind.i64.wrap (IntKind.u64.wrap (↑(BitVec.ofInt IntKind.u64.bits ((IntKind.u64.wrap (IntKind.u64.wrap (h*(6364136223846793005:Int))+(1442695040888963407:Int))).fdiv ((2:Int)^min (Int.toNat (33:Int)) IntKind.u64.bits))&&&BitVec.ofInt IntKind.u64.bits (16777215:Int)).toNat:Int))+IntKind.i64.wrap y5)).tmod n,()),())) (n≠(0:Int)/\P ((b,i,IntKind.u64.wrap (IntKind.u64.wrap (h*(6364136223846793005:Int))+(1442695040888963407:Int)),(IntKind.i64.wrap (IntKind.u64.wrap (↑(BitVec.ofInt IntKind.u64.bits ((IntKind.u64.wrap (IntKind.u64.wrap (h*(6364136223846793005:Int))+(1442695040888963407:Int))).fdiv ((2:Int)^min (Int.toNat (33:Int)) IntKind.u64.bits))&&&BitVec.ofInt IntKind.u64.bits (16777215:Int)).toNat:Int))).tmod n,()),())))=fnMW aJ (look []) Mg Tryz.f23 (b,i,h,n,()) P:=by kernel_rfl
theorem QH (a b:List Int) (P:Bool->Prop):(Br ((↑a.length:Int) !=(↑b.length:Int)) (P false) (Dn (λ(v3:Int×PUnit) (k4:Int×PUnit->Prop)=>Br (decide (v3.1<(↑a.length:Int))) (∃(y5:Int),idx a v3.1=some y5/\ ∃(y6:Int),idx b v3.1=some y6/\Br (y5 !=y6) (P false) (k4 (IntKind.i64.wrap (v3.1+(1:Int)),()))) (P true)) ((0:Int),PUnit.unit)))=fnW Fl (look []) Vj Tryz.f16 (a,b,()) P:=by kernel_rfl
theorem Aqo (code:List Int) (P:Bool->Prop):(P (decide ((↑code.length:Int)>(4096:Int))))=fnW Fl (look []) yB Tryz.f8 (code,()) P:=by kernel_rfl
theorem Adc (n:Int) (P:((List Int×Unit)×Unit)->Prop):(0=0/\0=([]:List Int).length/\Dn (λ(v2:Int×List Int×PUnit) (k3:Int×List Int×PUnit->Prop)=>Br (decide (v2.1<n)) (0=0/\v2.2.1.length=v2.2.1.length/\v2.2.1.length+(List.take 1 (List.drop 0 [v2.1])).length<=Ea/\0=0/\(v2.2.1++List.take 1 (List.drop 0 [v2.1])).length=(v2.2.1++List.take 1 (List.drop 0 [v2.1])).length/\k3 (IntKind.i64.wrap (v2.1+(1:Int)),v2.2.1++List.take 1 (List.drop 0 [v2.1]),())) (P ((List.take v2.2.1.length (List.drop 0 v2.2.1),()),()))) ((0:Int),[],PUnit.unit))=fnMW aJ (look []) eN Tryz.f96 (n,()) P:=by kernel_rfl
theorem XY (n:Int) (P:((List Int×Unit)×Unit)->Prop):(∃(y2:Bool),Ch.fn (n,(1:Int),(20:Int),())=some y2/\Br (!y2) (P ((List.take 0 (List.drop 0 []),()),())) (∃(y3:(List Int×PUnit)×PUnit),eN.fn (n,())=some y3/\P ((List.take y3.1.1.length (List.drop 0 y3.1.1),()),())))=fnMW aJ (look [(95,Ch),(96,eN)]) bF Tryz.f42 (n,()) P:=by kernel_rfl
theorem Adj (n:Int) (P:List Int->Prop):(∃(y2:Bool),Ch.fn (n,(1:Int),(20:Int),())=some y2/\Br (!y2) (P (List.take 0 (List.drop 0 []))) (∃(y3:List Int),Dy.fn (n,())=some y3/\P y3))=fnW Fl (look [(95,Ch),(96,Dy)]) Ow Tryz.f42 (n,()) P:=by kernel_rfl
abbrev Ack:Type:=Int×Int×ByteArray×Int×ByteArray×List (List Int)×List (List Int)×List Int×List Int×Int×Int×PUnit
abbrev Acn:Type:=Int×ByteArray×Int×ByteArray×List (List Int)×List (List Int)×List Int×Int×Int×PUnit
abbrev CR:Type:=(List Int×Int×Int×Int×PUnit)×PUnit
theorem Ar2 (b:List Int) (i h:Int) (P:((List Int×Int×Int×Int×ByteArray×List (List Int)×Unit)×Unit)->Prop):(∃(y4:CR),Mg.fn (b,i,h,(3:Int),())=some y4/\0=0/\0=([]:List Int).length/\0=0/\0=([]:List Int).length/\Dn (λ(v5:Acn) (k6:Acn->Prop)=>Br (decide ((↑v5.2.2.2.2.2.1.length:Int)<(2:Int))) (∃(y7:(List Int×PUnit)×PUnit),bF.fn (v5.2.2.1,())=some y7/\ ∃(y8:CR),Mg.fn (v5.2.2.2.2.2.2.1,v5.2.2.2.2.2.2.2.1,v5.2.2.2.2.2.2.2.2.1,(3:Int),())=some y8/\0=0/\y7.1.1.length=y7.1.1.length/\0=0/\v5.2.2.2.2.1.length=v5.2.2.2.2.1.length/\0=0/\v5.2.2.2.2.2.1.length=v5.2.2.2.2.2.1.length/\Dn (λ(v9:Ack) (k10:Ack->Prop)=>Br (decide (v9.1>(0:Int))) (∃(Sj:CR),Mg.fn (v9.2.2.2.2.2.2.2.2.1,v9.2.2.2.2.2.2.2.2.2.1,v9.2.2.2.2.2.2.2.2.2.2.1,v9.2.2.2.1,())=some Sj/\ ∃(Rr:CR),Mg.fn (Sj.1.1,Sj.1.2.1,Sj.1.2.2.1,v9.2.2.2.1,())=some Rr/\((0:Int)<=Sj.1.2.2.2.1/\Sj.1.2.2.2.1<(↑v9.2.2.2.2.2.2.2.1.length:Int))/\ ∃(il:Int),v9.2.2.2.2.2.2.2.1[0+Sj.1.2.2.2.1.toNat]?=some il/\((0:Int)<=Rr.1.2.2.2.1/\Rr.1.2.2.2.1<(↑v9.2.2.2.2.2.2.2.1.length:Int))/\ ∃(cJ:Int),v9.2.2.2.2.2.2.2.1[0+Rr.1.2.2.2.1.toNat]?=some cJ/\((0:Int)<=Sj.1.2.2.2.1/\Sj.1.2.2.2.1<(↑v9.2.2.2.2.2.2.2.1.length:Int))/\0+Sj.1.2.2.2.1.toNat<v9.2.2.2.2.2.2.2.1.length/\((0:Int)<=Rr.1.2.2.2.1/\Rr.1.2.2.2.1<(↑v9.2.2.2.2.2.2.2.1.length:Int))/\0+Rr.1.2.2.2.1.toNat<(v9.2.2.2.2.2.2.2.1.set (0+Sj.1.2.2.2.1.toNat) cJ).length/\0=0/\v9.2.2.2.2.2.2.2.1.length=((v9.2.2.2.2.2.2.2.1.set (0+Sj.1.2.2.2.1.toNat) cJ).set (0+Rr.1.2.2.2.1.toNat) il).length/\0=0/\v9.2.2.2.2.2.1.length=v9.2.2.2.2.2.1.length/\0=0/\v9.2.2.2.2.2.2.1.length=v9.2.2.2.2.2.2.1.length/\k10 (IntKind.i64.wrap (v9.1-(1:Int)),v9.2.1,v9.2.2.1,v9.2.2.2.1,v9.2.2.2.2.1,v9.2.2.2.2.2.1,v9.2.2.2.2.2.2.1,(v9.2.2.2.2.2.2.2.1.set (0+Sj.1.2.2.2.1.toNat) cJ).set (0+Rr.1.2.2.2.1.toNat) il,Rr.1.1,Rr.1.2.1,Rr.1.2.2.1,())) (0=0/\v9.2.2.2.2.2.2.1.length=v9.2.2.2.2.2.2.1.length/\v9.2.2.2.2.2.2.1.length+(List.take 1 (List.drop 0 [List.take v9.2.2.2.2.2.2.2.1.length (List.drop 0 v9.2.2.2.2.2.2.2.1)])).length<=Ea/\0=0/\v9.2.2.2.2.2.1.length=v9.2.2.2.2.2.1.length/\0=0/\(v9.2.2.2.2.2.2.1++List.take 1 (List.drop 0 [List.take v9.2.2.2.2.2.2.2.1.length (List.drop 0 v9.2.2.2.2.2.2.2.1)])).length=(v9.2.2.2.2.2.2.1++List.take 1 (List.drop 0 [List.take v9.2.2.2.2.2.2.2.1.length (List.drop 0 v9.2.2.2.2.2.2.2.1)])).length/\k6 (v9.2.1,v9.2.2.1,v9.2.2.2.1,v9.2.2.2.2.1,v9.2.2.2.2.2.1,v9.2.2.2.2.2.2.1++List.take 1 (List.drop 0 [List.take v9.2.2.2.2.2.2.2.1.length (List.drop 0 v9.2.2.2.2.2.2.2.1)]),v9.2.2.2.2.2.2.2.2.1,v9.2.2.2.2.2.2.2.2.2.1,v9.2.2.2.2.2.2.2.2.2.2.1,()))) (IntKind.i64.wrap ((1:Int)+y8.1.2.2.2.1),v5.1,v5.2.1,v5.2.2.1,v5.2.2.2.1,v5.2.2.2.2.1,v5.2.2.2.2.2.1,y7.1.1,y8.1.1,y8.1.2.1,y8.1.2.2.1,PUnit.unit)) (P ((v5.2.2.2.2.2.2.1,v5.2.2.2.2.2.2.2.1,v5.2.2.2.2.2.2.2.2.1,v5.2.2.1,v5.2.2.2.1,List.take v5.2.2.2.2.2.1.length (List.drop 0 v5.2.2.2.2.2.1),()),()))) (Int.ofNat (nat_lit 0), {data:= #[]},IntKind.i64.wrap ((3:Int)+y4.1.2.2.2.1), {data:= #[(65:UInt8),(66:UInt8)]},[],[],y4.1.1,y4.1.2.1,y4.1.2.2.1,PUnit.unit))=fnMW aJ (look [(23,Mg),(42,bF)]) yO Tryz.f10 (b,i,h,()) P:=by kernel_rfl
abbrev Acj:Type:=(List Int×Int×Int×Int×PUnit)×PUnit
theorem Ar1 (b:List Int) (i h m:Int) (P:((List Int×Int×Int×Int×Unit)×Unit)->Prop):(∃(y5:Acj),Mg.fn (b,i,h,m,())=some y5/\ ∃(y6:Acj),Mg.fn (y5.1.1,y5.1.2.1,y5.1.2.2.1,(2:Int),())=some y6/\Br (y6.1.2.2.2.1==(0:Int)) (P ((y6.1.1,y6.1.2.1,y6.1.2.2.1,IntKind.i64.wrap ((0:Int)-IntKind.i64.wrap ((1:Int)+y5.1.2.2.2.1)),()),())) (P ((y6.1.1,y6.1.2.1,y6.1.2.2.1,IntKind.i64.wrap ((1:Int)+y5.1.2.2.2.1),()),())))=fnMW aJ (look [(23,Mg)]) yN Tryz.f76 (b,i,h,m,()) P:=by kernel_rfl
abbrev Acl:Type:=Int×List Int×List Int×Int×Int×PUnit
abbrev Aco:Type:=(List Int×Int×Int×Int×PUnit)×PUnit
theorem Ar4 (b:List Int) (i h m k:Int) (P:((List Int×Int×Int×List Int×Unit)×Unit)->Prop):(∃(y6:Aco),Mg.fn (b,i,h,IntKind.i64.wrap (k+(1:Int)),())=some y6/\0=0/\0=([]:List Int).length/\Dn (λ(v7:Acl) (k8:Acl->Prop)=>Br (decide (v7.1>(0:Int))) (∃(y9:Aco),yN.fn (v7.2.2.1,v7.2.2.2.1,v7.2.2.2.2.1,m,())=some y9/\0=0/\v7.2.1.length=v7.2.1.length/\v7.2.1.length+(List.take 1 (List.drop 0 [y9.1.2.2.2.1])).length<=Ea/\0=0/\(v7.2.1++List.take 1 (List.drop 0 [y9.1.2.2.2.1])).length=(v7.2.1++List.take 1 (List.drop 0 [y9.1.2.2.2.1])).length/\k8 (IntKind.i64.wrap (v7.1-(1:Int)),v7.2.1++List.take 1 (List.drop 0 [y9.1.2.2.2.1]),y9.1.1,y9.1.2.1,y9.1.2.2.1,())) (P ((v7.2.2.1,v7.2.2.2.1,v7.2.2.2.2.1,List.take v7.2.1.length (List.drop 0 v7.2.1),()),()))) (y6.1.2.2.2.1,[],y6.1.1,y6.1.2.1,y6.1.2.2.1,PUnit.unit))=fnMW aJ (look [(23,Mg),(76,yN)]) rq Tryz.f32 (b,i,h,m,k,()) P:=by kernel_rfl
theorem Ais (h:Int):0<=xN h/\xN h<=16777215:=by
 obtain ⟨a,ha⟩: ∃a,BitVec.ofInt IntKind.u64.bits (h.fdiv ((2:Int)^min (Int.toNat (33:Int)) IntKind.u64.bits))=a:=⟨_,rfl⟩
 have h1:(a&&&BitVec.ofInt IntKind.u64.bits (16777215:Int)).toNat<=16777215:=by
  rw [BitVec.toNat_and]
  exact Nat.and_le_right
 unfold xN
 rw [ha]
 obtain ⟨x,hx⟩: ∃x,(a&&&BitVec.ofInt IntKind.u64.bits (16777215:Int)).toNat=x:=⟨_,rfl⟩
 rw [hx] at h1⊢
 have e:IntKind.u64.wrap (x:Int)=x:=by
  unfold IntKind.wrap
  have e1:IntKind.signed .u64=false:=rfl
  have e2:IntKind.bits .u64=64:=rfl
  rw [e1,e2]
  simp only [Cq,Dh,Si]
  omega
 rw [e,Ct (by omega) (by omega)]
 omega
theorem eY.Dp {b:List Int} {i:Int} (h:eY b i) (hi:i<b.length):0<=Dp b i/\Dp b i<256:=by
 have h0:=h.lo
 have hl:i.toNat<b.length:=by omega
 refine h.byte _ ?_
 unfold Go.Proofs.YtkkdpknjohcekaaGreat.Dp
 rw [Ak,Ac hl]
 exact Am hl
theorem eY.next {b:List Int} {i:Int} (h:eY b i):eY b (dI b i):=by
 have h0:=h.lo
 have h1:=h.hi
 unfold dI
 split
 ·exact ⟨h.len,h.byte,by omega,by omega⟩
 ·exact h
theorem gG {b:List Int} {i n:Int} (h:eY b i) (hn:1<=n) (s:Int):0<=dR b i s n/\dR b i s n<n:=by
 have hx:=Ais (hN s)
 unfold dR
 split
 ·rename_i hi
  have:=h.Dp hi
  exact ⟨Int.tmod_nonneg _ (by omega),Int.tmod_lt_of_pos _ (by omega)⟩
 ·exact ⟨Int.tmod_nonneg _ (by omega),Int.tmod_lt_of_pos _ (by omega)⟩
theorem Al3 (code:List Int) (OP:Int) (h:code.length<=4096):fnMW aJ (look []) qd Tryz.f9 (code,OP,()) (λ(z:(List Int×Int×Int×Unit)×Unit)=>z=((code,0,pP code OP,()),())):=by
 obtain ⟨R,hR⟩: ∃R,pP code OP=R:=⟨_,rfl⟩
 rw [hR]
 unfold pP at hR
 refine Eq.mp (Alv code OP _) ?_
 refine Bo code.length (λv=>v.1) (λj v=>v.2.1=code/\v.2.2.1=0/\II (code.drop j) v.2.2.2.1=R) rfl ⟨rfl,rfl,hR⟩ ?_
 rintro j ⟨jj,c,i,s,⟨⟩⟩ K hj so ⟨r1,r2,r3⟩ hK
 dsimp only at so r1 r2 r3⊢
 subst so r1 r2
 refine Br.dec (λhl=>?_) λhl=>?_
 ·have hl:j<c.length:=by omega
  refine ⟨_,Bn hl,?_⟩
  rw [Bj (by omega)]
  rw [Cc hl,II] at r3
  exact hK hl _ rfl ⟨rfl,rfl,r3⟩
 ·have:j=c.length:=by omega
  subst this
  rw [Fe,II] at r3
  rw [r3]
theorem PB:Eu Tryz.prog 9 qd:=
 Eu.pb Zh Bl mixed Tryz.func9 (by kernel_rfl) (by kernel_rfl) λx h=>Al3 x.1 x.2.1 h
theorem Afy (b:List Int) (i h n:Int) (hd:eY b i/\1<=n):fnMW aJ (look []) Mg Tryz.f23 (b,i,h,n,()) (λ(z:(List Int×Int×Int×Int×Unit)×Unit)=>z=((b,dI b i,hN h,dR b i h n,()),())):=by
 obtain ⟨hd,hn⟩:=hd
 have h0:=hd.lo
 have hlen:=hd.len
 have hx:=Ais (hN h)
 refine Eq.mp (Agt b i h n _) ⟨by omega,Br.dec (λhl=>?_) λhl=>?_⟩
 ·have hg:=hd.Dp hl
  refine ⟨_,a8 h0 hl,by omega,?_⟩
  rw [Ct (n:=Dp b i) (by omega) (by omega)]
  show ((b,IntKind.i64.wrap (i+1),hN h,(IntKind.i64.wrap (xN (hN h)+Dp b i)).tmod n,()),())=_
  rw [Ct (by omega) (by omega),Ct (by omega) (by omega)]
  unfold dI dR
  rw [Ab hl,Ab hl]
 ·refine ⟨by omega,?_⟩
  show ((b,i,hN h,(xN (hN h)).tmod n,()),())=_
  unfold dI dR
  rw [Ai hl,Ai hl]
theorem dm:Eu Tryz.prog 23 Mg:=
 Eu.pb Zh Bl mixed Tryz.func23 (by kernel_rfl) (by kernel_rfl) λx h=>Afy x.1 x.2.1 x.2.2.1 x.2.2.2.1 h
theorem Apx (code:List Int) (_:True):fnW Fl (look []) yB Tryz.f8 (code,()) (λ(z:Bool)=>z=decide ((code.length:Int)>4096)):=Eq.mp (Aqo code _) rfl
theorem WJ:Sound Tryz.prog 8 yB:=
 Sound.Gk Dl Bl mixed Tryz.func8 (by kernel_rfl) (by kernel_rfl) λx h=>Apx x.1 h
theorem Aqa (b:List Int) (i h m:Int) (hd:eY b i/\1<=m/\m<=8):fnMW aJ (look [(23,Mg)]) yN Tryz.f76 (b,i,h,m,()) (λ(z:(List Int×Int×Int×Int×Unit)×Unit)=>z=((b,(ag b i h m).1,(ag b i h m).2.1,(ag b i h m).2.2,()),())):=by
 obtain ⟨hd,h1,h8⟩:=hd
 have hr:=gG hd h1 h
 refine Eq.mp (Ar1 b i h m _) ⟨_,Ab ⟨hd,h1⟩,_,Ab ⟨hd.next,by show (1:Int)<=2;decide⟩,Br.of (λhz=>?_) λhz=>?_⟩
 ·have hz:dR b (dI b i) (hN h) 2=0:=by simpa using hz
  show ((b,dI b (dI b i),hN (hN h),IntKind.i64.wrap (0-IntKind.i64.wrap (1+dR b i h m)),()),())=_
  rw [Ct (n:=1+dR b i h m) (by omega) (by omega),Ct (by omega) (by omega)]
  unfold ag
  rw [Ab hz,Int.zero_sub]
 ·have hz: ¬dR b (dI b i) (hN h) 2=0:=by simpa using hz
  show ((b,dI b (dI b i),hN (hN h),IntKind.i64.wrap (1+dR b i h m),()),())=_
  rw [Ct (by omega) (by omega)]
  unfold ag
  rw [Ai hz]
theorem WY:Eu Tryz.prog 76 yN:=
 Eu.pb Zh (Ic dm Bl) mixed Tryz.func76 (by kernel_rfl) (by kernel_rfl) λx h=>Aqa x.1 x.2.1 x.2.2.1 x.2.2.2.1 h
theorem NU (a b:List Int) (h:short a/\short b):fnW Fl (look []) Vj Tryz.f16 (a,b,()) (λ(z:Bool)=>z=Vx a b):=by
 refine Eq.mp (QH a b _) ⟨λhl=>?_,λhl=>?_⟩
 ·simp only [bne_iff_ne,ne_eq,Rv] at hl
  exact (Dx λFT=>hl (by rw [FT])).symm
 ·simp only [gE,Rv] at hl
  exact RF a b hl h.1
theorem vq:Sound Tryz.prog 16 Vj:=
 Sound.Gk Dl Bl mixed Tryz.func16 (by kernel_rfl) (by kernel_rfl) λx h=>NU x.1 x.2.1 h
theorem Abq (n:Int) (h:0<=n/\n<=20):fnMW aJ (look []) eN Tryz.f96 (n,()) (λ(z:(List Int×Unit)×Unit)=>z=((upto n.toNat,()),())):=by
 refine Eq.mp (Adc n _) ⟨rfl,rfl,?_⟩
 refine Bo n.toNat (λv=>v.1) (λj v=>v.2.1=upto j) rfl rfl ?_
 rintro j ⟨i,ys,⟨⟩⟩ K hj hi h1 hK
 dsimp only at hi h1⊢
 subst hi h1
 refine Br.dec (λhl=>?_) λhl=>?_
 ·refine ⟨rfl,rfl,?_,rfl,rfl,?_⟩
  ·show (upto j).length+1<=4294967296
   rw [Li];omega
  ·rw [Bj (by omega)]
   exact hK (by omega) _ rfl (bI j).symm
 ·have:j=n.toNat:=by omega
  subst this
  rw [Dj]
theorem CB:Eu Tryz.prog 96 eN:=
 Eu.vV Zh Bl mixed Tryz.func96 (by kernel_rfl) (by kernel_rfl) λx h=>Abq x.1 h
theorem VU (n:Int) (h:1<=n/\n<=20):fnMW aJ (look [(95,Ch),(96,eN)]) bF Tryz.f42 (n,()) (λ(z:(List Int×Unit)×Unit)=>z=((upto n.toNat,()),())):=by
 refine Eq.mp (XY n _) ⟨true,Ab trivial|>.trans (Et some (Cb ⟨h.1,h.2⟩)),λhc=>(by cases hc),λ_=>⟨_,Ab ⟨by show 0<=n;omega,h.2⟩,?_⟩⟩
 rw [Dj]
theorem wX:Eu Tryz.prog 42 bF:=
 Eu.vV Zh (Au Ph (Ic CB Bl)) mixed Tryz.func42 (by kernel_rfl) (by kernel_rfl) λx h=>VU x.1 h
theorem Abw (n:Int) (h:1<=n/\n<=20):fnW Fl (look [(95,Ch),(96,Dy)]) Ow Tryz.f42 (n,()) (λ(z:List Int)=>z=upto n.toNat):=
 Eq.mp (Adj n _) ⟨true,Ab trivial|>.trans (Et some (Cb ⟨h.1,h.2⟩)),λhc=>(by cases hc),λ_=>⟨_,Ab ⟨by show 0<=n;omega,h.2⟩,rfl⟩⟩
theorem oM:Sound Tryz.prog 42 Ow:=
 Sound.Gk Dl (Au Ph (Au cz Bl)) mixed Tryz.func42 (by kernel_rfl) (by kernel_rfl) λx h=>Abw x.1 h
theorem TI {b:List Int} {i:Int} (hd:eY b i) (h m:Int):eY b (ag b i h m).1:=hd.next.next
theorem Aqd (b:List Int) (i h m k:Int) (hd:eY b i/\(1<=m/\m<=8)/\0<=k/\k<=20):fnMW aJ (look [(23,Mg),(76,yN)]) rq Tryz.f32 (b,i,h,m,k,()) (λ(z:(List Int×Int×Int×List Int×Unit)×Unit)=>z=((b,(Vy b i h m k).1,(Vy b i h m k).2.1,(Vy b i h m k).2.2,()),())):=by
 obtain ⟨hd,hm,tM,hk⟩:=hd
 have hr:=gG hd (show 1<=k+1 by omega) h
 obtain ⟨R,hR⟩: ∃R,Vy b i h m k=R:=⟨_,rfl⟩
 rw [hR]
 unfold Vy at hR
 refine Eq.mp (Ar4 b i h m k _) ?_
 rw [Ct (by omega) (by omega)]
 refine ⟨_,Ab ⟨hd,by show 1<=k+1;omega⟩,rfl,rfl,?_⟩
 refine Dn.mk (λy=> ∃(f:Nat) (i h:Int) (w:List Int),y=((f:Int),w,b,i,h,())/\eY b i/\f+w.length<=20/\wGo b m f i h w=R) (λy=>y.1.toNat)
  ⟨(dR b i h (k+1)).toNat,dI b i,hN h,[],by rw [Int.toNat_of_nonneg hr.1],hd.next,by simp only [Gp];omega,hR⟩ ?_
 rintro y ⟨f,i,h,w,rfl,hd,hl,hv⟩
 dsimp only
 refine Br.dec (λhf=>?_) λhf=>?_
 ·obtain ⟨f,rfl⟩: ∃f',f=f'+1:=⟨f-1,by omega⟩
  refine ⟨_,Ab ⟨hd,hm⟩,rfl,rfl,by show w.length+1<=4294967296;omega,rfl,rfl,?_⟩
  rw [Ct (by omega) (by omega)]
  rw [wGo] at hv
  exact ⟨⟨f,_,_,_,by rw [show ((f+1:Nat):Int)-1=(f:Int) by omega];rfl,TI hd h m,by rw [Aw];show f+(w.length+1)<=20;omega,hv⟩,by show ((((f+1:Nat):Int)-1).toNat)<(((f+1:Nat):Int)).toNat;omega⟩
 ·obtain rfl:f=0:=by omega
  rw [wGo] at hv
  rw [<-hv]
  simp only [Dj]
theorem XB:Eu Tryz.prog 32 rq:=
 Eu.pb Zh (Ic dm (Ic WY Bl)) mixed Tryz.func32 (by kernel_rfl) (by kernel_rfl) λx h=>Aqd x.1 x.2.1 x.2.2.1 x.2.2.2.1 x.2.2.2.2.1 h
theorem JH {b:List Int} (n:Int): ∀(k:Nat) (i h:Int) (mv:List Int),eY b i->eY b (gq b n k i h mv).1
 |0,_,_,_,hd=>hd
 |k+1,i,h,mv,hd=>by rw [gq];exact JH n k _ _ _ hd.next.next
theorem um {b:List Int} {n i:Int} (hd:eY b i) (h:Int):eY b (pT b n i h).1:=JH n _ _ _ _ hd.next
theorem SV (b:List Int) (n:Int): ∀(k:Nat) (i h:Int) (ms:List (List Int)),(aQ b n k i h ms).2.2.length=k+ms.length
 |0,_,_,ms=>by rw [aQ];show ms.length=0+ms.length;omega
 |k+1,i,h,ms=>by rw [aQ,SV b n k,Aw,Bq];omega
theorem SU {b:List Int} (n:Int): ∀(k:Nat) (i h:Int) (ms:List (List Int)),eY b i->eY b (aQ b n k i h ms).1
 |0,_,_,_,hd=>hd
 |k+1,i,h,ms,hd=>by rw [aQ];exact SU n k _ _ _ (um hd h)
theorem Amz {xs:List Int} {y:Int} (h0:0<=y) (h:y<xs.length):xs[0+y.toNat]?=some (Dp xs y):=by
 have hl:y.toNat<xs.length:=by omega
 unfold Dp
 rw [Bt,Ak,Ac hl]
 rfl
theorem Aqb (b:List Int) (i h:Int) (hd:eY b i):fnMW aJ (look [(23,Mg),(42,bF)]) yO Tryz.f10 (b,i,h,()) (λ(z:(List Int×Int×Int×Int×ByteArray×List (List Int)×Unit)×Unit)=>z=((b,(aP b i h).1,(aP b i h).2.1,(aP b i h).2.2.1,(aP b i h).2.2.2.1,(aP b i h).2.2.2.2.1,()),())):=by
 have hr:=gG hd (show (1:Int)<=3 by decide) h
 obtain ⟨n,hn⟩: ∃n,3+dR b i h 3=n:=⟨_,rfl⟩
 obtain ⟨R,hR⟩: ∃R,aQ b n 2 (dI b i) (hN h) []=R:=⟨_,rfl⟩
 have hm:aP b i h=(R.1,R.2.1,(n,Abf,R.2.2,())):=by unfold aP;rw [hn,hR]
 rw [hm]
 refine Eq.mp (Ar2 b i h _) ⟨_,Ab ⟨hd,by show (1:Int)<=3;decide⟩,rfl,rfl,rfl,rfl,?_⟩
 dsimp only
 rw [Ct (n:=3+dR b i h 3) (by omega) (by omega),hn]
 have hn3:3<=n/\n<=5:=by omega
 refine Dn.mk (λy=> ∃(f:Nat) (i h:Int) (ms:List (List Int)),y=((0:Int), {data:= #[]},n,Abf,[],ms,b,i,h,())/\eY b i/\f+ms.length=2/\aQ b n f i h ms=R) (λy=>2-y.2.2.2.2.2.1.length)
  ⟨2,dI b i,hN h,[],rfl,hd.next,rfl,hR⟩ ?_
 rintro y ⟨f,i,h,ms,rfl,hd,hl,hv⟩
 dsimp only
 refine Br.dec (λhf=>?_) λhf=>?_
 ·obtain ⟨f,rfl⟩: ∃f',f=f'+1:=⟨f-1,by omega⟩
  rw [aQ] at hv
  obtain ⟨M,hM⟩: ∃M,pT b n i h=M:=⟨_,rfl⟩
  have hMd:eY b M.1:=by rw [<-hM];exact um hd h
  rw [hM] at hv
  unfold pT at hM
  have hr:=gG hd (show (1:Int)<=3 by decide) h
  refine ⟨_,Ab ⟨by show 1<=n;omega,by show n<=20;omega⟩,_,Ab ⟨hd,by show (1:Int)<=3;decide⟩,rfl,rfl,rfl,rfl,rfl,rfl,?_⟩
  dsimp only
  rw [Ct (n:=1+dR b i h 3) (by omega) (by omega)]
  refine Dn.mk (λz=> ∃(c:Nat) (i h:Int) (mv:List Int),z=((c:Int),(0:Int), {data:= #[]},n,Abf,[],ms,mv,b,i,h,())/\eY b i/\c<=3/\mv.length=n.toNat/\gq b n c i h mv=M) (λz=>z.1.toNat)
   ⟨(1+dR b i h 3).toNat,dI b i,hN h,upto n.toNat,by rw [Int.toNat_of_nonneg (by omega)],hd.next,by omega,Li _,hM⟩ ?_
  rintro z ⟨c,i',h',mv,rfl,KK,hc,jh,hsw⟩
  dsimp only
  refine Br.dec (λkV=>?_) λkV=>?_
  ·obtain ⟨c,rfl⟩: ∃c',c=c'+1:=⟨c-1,by omega⟩
   rw [gq] at hsw
   have r1:=gG KK (show 1<=n by omega) h'
   have r2:=gG KK.next (show 1<=n by omega) (hN h')
   have l1:dR b i' h' n<mv.length:=by omega
   have l2:dR b (dI b i') (hN h') n<mv.length:=by omega
   refine ⟨_,Ab ⟨KK,by show 1<=n;omega⟩,_,Ab ⟨KK.next,by show 1<=n;omega⟩,⟨r1.1,l1⟩,_,Amz r1.1 l1,⟨r2.1,l2⟩,_,Amz r2.1 l2,⟨r1.1,l1⟩,by show 0+(dR b i' h' n).toNat<mv.length;omega,⟨r2.1,l2⟩,
    by rw [Co];show 0+(dR b (dI b i') (hN h') n).toNat<mv.length;omega,rfl,by simp only [Co],rfl,rfl,rfl,rfl,?_⟩
   dsimp only
   rw [Ct (by omega) (by omega),Bt,Bt]
   exact ⟨⟨c,_,_,_,by rw [show ((c+1:Nat):Int)-1=(c:Int) by omega],KK.next.next,by omega,by simp only [Co];exact jh,hsw⟩,by show ((((c+1:Nat):Int)-1).toNat)<(((c+1:Nat):Int)).toNat;omega⟩
  ·obtain rfl:c=0:=by omega
   rw [gq] at hsw
   subst hsw
   refine ⟨rfl,rfl,by show ms.length+1<=4294967296;omega,rfl,rfl,rfl,rfl,?_⟩
   rw [Dj]
   exact ⟨⟨f,_,_,_,rfl,hMd,by rw [Aw];show f+(ms.length+1)=2;omega,hv⟩,by show 2-(ms++ [mv]).length<2-ms.length;rw [Aw,Bq];omega⟩
 ·obtain rfl:f=0:=by omega
  rw [aQ] at hv
  rw [<-hv]
  simp only [Dj]
theorem WZ:Eu Tryz.prog 10 yO:=
 Eu.pb Zh (Ic dm (Ic wX Bl)) mixed Tryz.func10 (by kernel_rfl) (by kernel_rfl) λx h=>Aqb x.1 x.2.1 x.2.2.1 h
end Go.Proofs.YtkkdpknjohcekaaGreat
