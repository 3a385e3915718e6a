/-
  Part 44 of the proof that the statement FnExactSolveByMethod holds.
-/
import Derived.Test.YtjbdmibbbpdnnaaCSolveByMethod42
namespace Go.Proofs.Ytjbdmibbbpdnnaa
open Go.RowKit
noncomputable abbrev Me:Spec:=Cz (.pair tU (.pair tU .unit)) (.pair tU (.pair tU .unit)) true true (λx=>x.1=1/\0<=x.2.1/\x.2.1<=100000) (λx=>(0,x.2.1,()))
noncomputable abbrev Zn:MSpec:=jR [none,none] [(false, .Ft tL),(false, .Ft tI)] false [none] [rL] (λx=>(∃v,x.1= [v])/\1<=x.2.1/\x.2.1<=100000) (λx=>((List.replicate x.2.1.toNat (x.1.getD 0 0),()),()))
theorem SW (x y:Int) (P:(Int×Int×Unit)->Prop):(¬(32:Int)<(0:Int)/\ ¬(32:Int)<(0:Int)/\ ¬(32:Int)<(0:Int)/\ ¬(32:Int)<(0:Int)/\ ¬(32:Int)<(0:Int)/\P (IntKind.u64.wrap (IntKind.u64.wrap (IntKind.u64.wrap (x.fdiv ((2:Int)^min (Int.toNat (32:Int)) IntKind.u64.bits)*y.fdiv ((2:Int)^min (Int.toNat (32:Int)) IntKind.u64.bits))+(IntKind.u64.wrap (IntKind.u64.wrap (x.fdiv ((2:Int)^min (Int.toNat (32:Int)) IntKind.u64.bits)*IntKind.u64.wrap (↑(BitVec.ofInt IntKind.u64.bits y&&&BitVec.ofInt IntKind.u64.bits (4294967295:Int)).toNat:Int))+(IntKind.u64.wrap (IntKind.u64.wrap (↑(BitVec.ofInt IntKind.u64.bits x&&&BitVec.ofInt IntKind.u64.bits (4294967295:Int)).toNat:Int)*IntKind.u64.wrap (↑(BitVec.ofInt IntKind.u64.bits y&&&BitVec.ofInt IntKind.u64.bits (4294967295:Int)).toNat:Int))).fdiv ((2:Int)^min (Int.toNat (32:Int)) IntKind.u64.bits))).fdiv ((2:Int)^min (Int.toNat (32:Int)) IntKind.u64.bits))+(IntKind.u64.wrap (IntKind.u64.wrap (↑(BitVec.ofInt IntKind.u64.bits (IntKind.u64.wrap (IntKind.u64.wrap (x.fdiv ((2:Int)^min (Int.toNat (32:Int)) IntKind.u64.bits)*IntKind.u64.wrap (↑(BitVec.ofInt IntKind.u64.bits y&&&BitVec.ofInt IntKind.u64.bits (4294967295:Int)).toNat:Int))+(IntKind.u64.wrap (IntKind.u64.wrap (↑(BitVec.ofInt IntKind.u64.bits x&&&BitVec.ofInt IntKind.u64.bits (4294967295:Int)).toNat:Int)*IntKind.u64.wrap (↑(BitVec.ofInt IntKind.u64.bits y&&&BitVec.ofInt IntKind.u64.bits (4294967295:Int)).toNat:Int))).fdiv ((2:Int)^min (Int.toNat (32:Int)) IntKind.u64.bits)))&&&BitVec.ofInt IntKind.u64.bits (4294967295:Int)).toNat:Int)+IntKind.u64.wrap (IntKind.u64.wrap (↑(BitVec.ofInt IntKind.u64.bits x&&&BitVec.ofInt IntKind.u64.bits (4294967295:Int)).toNat:Int)*y.fdiv ((2:Int)^min (Int.toNat (32:Int)) IntKind.u64.bits)))).fdiv ((2:Int)^min (Int.toNat (32:Int)) IntKind.u64.bits)),IntKind.u64.wrap (x*y),()))=fnW eI (look []) Me Try.f172 (x,y,()) P:=by kernel_rfl
theorem ZE (x y:Int) (P:(Int×Int×Unit)->Prop):(∃(y3:Int×Int×PUnit),Me.fn (x,y,())=some y3/\P (y3.1,y3.2.1,()))=fnW eI (look [(172,Me)]) Me Try.f152 (x,y,()) P:=by kernel_rfl
theorem OA (xs:List Int) (n:Int) (P:((List Int×Unit)×Unit)->Prop):(Br (decide (n<(0:Int))) False (∃(y3:Int×Int×PUnit),Me.fn (IntKind.u64.wrap (↑xs.length:Int),IntKind.u64.wrap n,())=some y3/\Br (decide (y3.1>(0:Int))) False (Br (decide (y3.2.1>(9223372036854775807:Int))) False (((0:Int)<=IntKind.i64.wrap y3.2.1/\IntKind.i64.wrap y3.2.1<(↑Bp:Int)+(1:Int))/\IntKind.i64.wrap y3.2.1=IntKind.i64.wrap y3.2.1/\0=0/\(List.replicate (IntKind.i64.wrap y3.2.1).toNat (Int.ofNat (nat_lit 0))).length=(Bj (List.replicate (IntKind.i64.wrap y3.2.1).toNat (Int.ofNat (nat_lit 0))) 0 (List.take (List.replicate (IntKind.i64.wrap y3.2.1).toNat (Int.ofNat (nat_lit 0))).length xs)).length/\Bk (λ(v4:Int×List Int×PUnit) (k5:Int×List Int×PUnit->Prop)=>Br (decide (v4.1<(↑v4.2.1.length:Int))) (((0:Int)<=v4.1/\v4.1<=(↑v4.2.1.length:Int)/\(↑v4.2.1.length:Int)<=(↑v4.2.1.length:Int))/\((0:Int)<=(0:Int)/\(0:Int)<=v4.1/\v4.1<=(↑v4.2.1.length:Int))/\0=0/\v4.2.1.length=(Bj v4.2.1 (0+v4.1.toNat) (List.take ((↑v4.2.1.length:Int).toNat-v4.1.toNat) (List.take (v4.1.toNat-Int.toNat (0:Int)) (List.drop (0+Int.toNat (0:Int)) v4.2.1)))).length/\k5 (IntKind.i64.wrap (v4.1+(↑(min ((↑v4.2.1.length:Int).toNat-v4.1.toNat) (List.take (v4.1.toNat-Int.toNat (0:Int)) (List.drop (0+Int.toNat (0:Int)) v4.2.1)).length):Int)),Bj v4.2.1 (0+v4.1.toNat) (List.take ((↑v4.2.1.length:Int).toNat-v4.1.toNat) (List.take (v4.1.toNat-Int.toNat (0:Int)) (List.drop (0+Int.toNat (0:Int)) v4.2.1))),())) (P ((List.take v4.2.1.length (List.drop 0 v4.2.1),()),()))) ((↑(min (List.replicate (IntKind.i64.wrap y3.2.1).toNat (Int.ofNat (nat_lit 0))).length xs.length):Int),Bj (List.replicate (IntKind.i64.wrap y3.2.1).toNat (Int.ofNat (nat_lit 0))) 0 (List.take (List.replicate (IntKind.i64.wrap y3.2.1).toNat (Int.ofNat (nat_lit 0))).length xs),PUnit.unit)))))=fnMW eI (look [(152,Me)]) Zn Try.f122 (xs,n,()) P:=by kernel_rfl
theorem JE {y:Int} (h0:0<=y) (h:y<4294967296):(((BitVec.ofInt IntKind.u64.bits y)&&&(BitVec.ofInt IntKind.u64.bits 4294967295)).toNat:Int)=y:=by
 obtain ⟨n,rfl⟩:=Int.eq_ofNat_of_zero_le h0
 show ((((BitVec.ofInt 64 (n:Int))&&&(BitVec.ofInt 64 4294967295)).toNat:Nat):Int)=(n:Int)
 have e1:(BitVec.ofInt 64 (n:Int)).toNat=n:=by rw [BitVec.toNat_ofInt];omega
 have e2:(BitVec.ofInt 64 4294967295).toNat=2^32-1:=by decide
 rw [BitVec.toNat_and,e1,e2,Nat.and_two_pow_sub_one_eq_mod]
 omega
theorem yi {n:Int} (h1:0<=n) (h2:n<18446744073709551616):IntKind.u64.wrap n=n:=by rw [IntKind.wrap_u64];omega
theorem RR (x y:Int) (h:x=1/\0<=y/\y<=100000):fnW eI (look []) Me Try.f172 (x,y,()) (λ(z:Int×Int×Unit)=>z=(0,y,())):=by
 obtain ⟨rfl,h1,h2⟩:=h
 have e32:(2:Int)^min (Int.toNat (32:Int)) IntKind.u64.bits=4294967296:=by decide
 have e1:(1:Int).fdiv 4294967296=0:=by decide
 have e0:(0:Int).fdiv 4294967296=0:=by decide
 have ey:y.fdiv 4294967296=0:=by rw [Int.fdiv_eq_ediv_of_nonneg _ (by omega)];omega
 refine Eq.mp (SW 1 y _) ⟨by omega,by omega,by omega,by omega,by omega,?_⟩
 rw [e32]
 simp only [e1,ey,e0,JE h1 (show y<4294967296 by omega),JE (show (0:Int)<=1 by omega) (show (1:Int)<4294967296 by omega),JE (show (0:Int)<=0 by omega) (show (0:Int)<4294967296 by omega),Int.zero_mul,Int.mul_zero,Int.one_mul,Int.zero_add,Int.add_zero,
  yi h1 (show y<18446744073709551616 by omega),yi (show (0:Int)<=0 by omega) (show (0:Int)<18446744073709551616 by omega),yi (show (0:Int)<=1 by omega) (show (1:Int)<18446744073709551616 by omega)]
theorem xH:Sound Try.prog 172 Me:=
 Sound.Cz AS Ap mixed Try.func172 (by kernel_rfl) (by kernel_rfl) λx h=>RR x.1 x.2.1 h
theorem YD (x y:Int) (h:x=1/\0<=y/\y<=100000):fnW eI (look [(172,Me)]) Me Try.f152 (x,y,()) (λ(z:Int×Int×Unit)=>z=(0,y,())):=
 Eq.mp (ZE x y _) ⟨_,if_pos h,rfl⟩
theorem AL:Sound Try.prog 152 Me:=
 Sound.Cz AS (Ah xH Ap) mixed Try.func152 (by kernel_rfl) (by kernel_rfl) λx h=>YD x.1 x.2.1 h
theorem lr {α:Type} (a b:α) {k m j:Nat} (h1:k+j<=m):Bj (List.replicate k a++List.replicate (m-k) b) k (List.replicate j a)=List.replicate (k+j) a++List.replicate (m-(k+j)) b:=by
 unfold Bj
 have e1:(List.replicate k a++List.replicate (m-k) b).take k=List.replicate k a:=List.take_left' (by simp)
 have e2:(List.replicate k a++List.replicate (m-k) b).drop (k+(List.replicate j a).length)=List.replicate (m-(k+j)) b:=by
  rw [List.length_replicate,List.drop_append,List.length_replicate,List.drop_replicate,List.drop_replicate,show k-(k+j)=0 by omega,show m-k-(k+j-k)=m-(k+j) by omega]
  rfl
 rw [e1,e2,<-List.replicate_append_replicate (n:=k) (m:=j)]
theorem MG (xs:List Int) (n:Int) (h:(∃v,xs= [v])/\1<=n/\n<=100000):fnMW eI (look [(152,Me)]) Zn Try.f122 (xs,n,()) (λ(z:(List Int×Unit)×Unit)=>z=((List.replicate n.toNat (xs.getD 0 0),()),())):=by
 obtain ⟨⟨v,rfl⟩,h1,h2⟩:=h
 obtain ⟨m,rfl⟩:=Int.eq_ofNat_of_zero_le (show 0<=n by omega)
 have e1:IntKind.u64.wrap (([v]:List Int).length:Int)=1:=yi (by simp) (by simp)
 have e2:IntKind.u64.wrap (m:Int)=(m:Int):=yi (by omega) (by omega)
 have e3:IntKind.i64.wrap (m:Int)=(m:Int):=Bu (by omega) (by omega)
 have hmul:Me.fn (IntKind.u64.wrap (([v]:List Int).length:Int),IntKind.u64.wrap (m:Int),())=some (0,(m:Int),()):=by
  rw [e1,e2];exact if_pos ⟨rfl,by show (0:Int)<=m;omega,by show (m:Int)<=100000;omega⟩
 refine Eq.mp (OA [v] m _) (Br.dec (λhb=>absurd hb (by omega)) λ_=>⟨_,hmul,Br.dec (λhb=>absurd hb (by show ¬(0:Int)>0;omega)) λ_=>Br.dec (λhb=>absurd hb (by show ¬(m:Int)>9223372036854775807;omega)) λ_=>?_⟩)
 dsimp only
 rw [e3]
 have Ahx:Bj (List.replicate (m:Int).toNat (Int.ofNat 0)) 0 (List.take (List.replicate (m:Int).toNat (Int.ofNat 0)).length [v])=List.replicate 1 v++List.replicate (m-1) 0:=by
  rw [Int.toNat_natCast,List.length_replicate,List.take_of_length_le (by simp;omega)]
  have:=lr v (0:Int) (k:=0) (m:=m) (j:=1) (by omega)
  simpa using this
 rw [Ahx]
 refine ⟨⟨by omega,by show (m:Int)<(4294967296:Int)+1;omega⟩,rfl,rfl,by simp;omega,?_⟩
 refine Bk.mk (λw=> ∃k:Nat,1<=k/\k<=m/\w=((k:Int),List.replicate k v++List.replicate (m-k) 0,())) (λw=>m-w.1.toNat) ⟨1,Nat.le_refl _,by omega,?_⟩ ?_
 ·have:min (List.replicate (m:Int).toNat (Int.ofNat 0)).length ([v]:List Int).length=1:=by simp;omega
  rw [this]
  first|rfl|skip
 rintro w ⟨k,k1,k2,rfl⟩
 dsimp only
 have hlen:(List.replicate k v++List.replicate (m-k) (0:Int)).length=m:=by simp;omega
 rw [hlen]
 refine Br.dec (λhl=>?_) λhl=>?_
 ·have hl:k<m:=by omega
  obtain ⟨j,hj⟩: ∃j,min (m-k) k=j:=⟨_,rfl⟩
  have QU:List.take (((k:Int)).toNat-Int.toNat (0:Int)) (List.drop (0+Int.toNat (0:Int)) (List.replicate k v++List.replicate (m-k) (0:Int)))=List.replicate k v:=by
   have e0:Int.toNat (0:Int)=0:=rfl
   rw [e0,Int.toNat_natCast,Nat.add_zero,Nat.sub_zero,List.drop_zero,List.take_left' (by simp)]
  have ht:List.take ((m:Int).toNat-((k:Int)).toNat) (List.replicate k v)=List.replicate j v:=by
   rw [Int.toNat_natCast,Int.toNat_natCast,List.take_replicate,hj]
  have Abg:min ((m:Int).toNat-((k:Int)).toNat) (List.replicate k v).length=j:=by rw [List.length_replicate,Int.toNat_natCast,Int.toNat_natCast];exact hj
  rw [QU,ht,Abg,Int.toNat_natCast,Nat.zero_add,lr v (0:Int) (by omega)]
  refine ⟨⟨by omega,by omega,by omega⟩,⟨by omega,by omega,by omega⟩,rfl,by simp;omega,⟨k+j,by omega,by omega,?_⟩,?_⟩
  ·rw [Bu (by omega) (by omega)]
   rfl
  ·rw [Bu (by omega) (by omega)]
   omega
 ·have:k=m:=by omega
  subst this
  rw [Nat.sub_self,List.replicate_zero,List.append_nil,List.drop_zero,List.take_of_length_le (by simp),Int.toNat_natCast]
  rfl
theorem uk:Ck Try.prog 122 Zn:=
 Ck.jR AS (Ah AL Ap) mixed Try.func122 (by kernel_rfl) (by kernel_rfl) λx h=>MG x.1 x.2.1 h
end Go.Proofs.Ytjbdmibbbpdnnaa

namespace Go.Proofs.Ytjbdmibbbpdnnaa
open Go.RowKit
def rj (g:List (List Int)) (L:List (List Int)) (x:List Int):List Int:=(Ag g.length).map λl=>((L.idxOf (Aa x (Af g l)):Nat):Int)
theorem Uf {g:List (List Int)} {k:Int} {x:List Int} {d:Int} : ∀(ls:List Int) (s:EX) (row:List Int),∃A,(Wg g k x d ls s row).1.1=s.1++A
 | [],s,row=>⟨[],by simp [Wg]⟩
 |l::ls,s,row=>by
  simp only [Wg]
  split
  ·exact Uf ls s _
  ·obtain ⟨A,h⟩:=Uf (g:=g) (k:=k) (x:=x) (d:=d) ls (s.1++ [Aa x (Af g l)],s.2.1++ [d+1],s.2.2.1++ [k],s.2.2.2++ [l]) (row++ [(s.1.length:Int)])
   exact ⟨_::A,by rw [h,List.append_assoc];rfl⟩
theorem zf {L A:List (List Int)} {y:List Int} (h:y∈L):(L++A).idxOf y=L.idxOf y:=by rw [List.idxOf_append,if_pos h]
theorem EW {L A:List (List Int)} {y:List Int} (h:y∉L):(L++y::A).idxOf y=L.length:=by
 rw [List.idxOf_append,if_neg h,List.idxOf_cons_self];simp
theorem jv {g:List (List Int)} {k:Int} {x:List Int} {d:Int} : ∀(ls:List Int) (s:EX) (row:List Int) (A:List (List Int)),
  (Wg g k x d ls s row).2=row++ls.map λl=>((((Wg g k x d ls s row).1.1++A).idxOf (Aa x (Af g l)):Nat):Int)
 | [],s,row,A=>by simp [Wg]
 |l::ls,s,row,A=>by
  simp only [Wg]
  split
  ·rename_i hm
   obtain ⟨B,hB⟩:=Uf (g:=g) (k:=k) (x:=x) (d:=d) ls s (row++ [(s.1.idxOf (Aa x (Af g l)):Int)])
   rw [jv ls s _ A,List.append_assoc,List.map_cons,hB,List.append_assoc,zf hm]
   rfl
  ·rename_i hm
   obtain ⟨B,hB⟩:=Uf (g:=g) (k:=k) (x:=x) (d:=d) ls (s.1++ [Aa x (Af g l)],s.2.1++ [d+1],s.2.2.1++ [k],s.2.2.2++ [l]) (row++ [(s.1.length:Int)])
   rw [jv ls _ _ A,List.append_assoc,List.map_cons,hB]
   dsimp only
   rw [List.append_assoc,List.append_assoc,List.singleton_append,List.cons_append,EW hm]
   try rfl
theorem qK {g:List (List Int)} {ls:List Int} : ∀(f k:Nat) (s:EX) (N:List (List Int)),∃A,(Xr g ls f k s N).1.1=s.1++A
 |0,k,s,N=>⟨[],by simp [Xr]⟩
 |f+1,k,s,N=>by
  simp only [Xr]
  split
  ·obtain ⟨A,hA⟩:=Uf (g:=g) (k:=(k:Int)) (x:=s.1.getD k []) (d:=s.2.1.getD k 0) ls s []
   obtain ⟨B,hB⟩:=qK (g:=g) (ls:=ls) f (k+1) (Wg g (k:Int) (s.1.getD k []) (s.2.1.getD k 0) ls s []).1 (N++ [(Wg g (k:Int) (s.1.getD k []) (s.2.1.getD k 0) ls s []).2])
   exact ⟨A++B,by rw [hB,hA,List.append_assoc]⟩
  ·exact ⟨[],by simp⟩
theorem qL {g:List (List Int)} : ∀(f k:Nat) (s:EX) (N:List (List Int)),(Xr g (Ag g.length) f k s N).1.1.length<=f+k->
  (Xr g (Ag g.length) f k s N).2=N++((Xr g (Ag g.length) f k s N).1.1.drop k).map (rj g (Xr g (Ag g.length) f k s N).1.1)
 |0,k,s,N,h=>by
  simp only [Xr] at h⊢
  rw [List.drop_of_length_le (by omega)]
  simp
 |f+1,k,s,N,h=>by
  simp only [Xr] at h⊢
  split
  ·rename_i hk
   rw [if_pos hk] at h
   obtain ⟨A,hA⟩:=Uf (g:=g) (k:=(k:Int)) (x:=s.1.getD k []) (d:=s.2.1.getD k 0) (Ag g.length) s []
   obtain ⟨B,hB⟩:=qK (g:=g) (ls:=Ag g.length) f (k+1) (Wg g (k:Int) (s.1.getD k []) (s.2.1.getD k 0) (Ag g.length) s []).1 (N++ [(Wg g (k:Int) (s.1.getD k []) (s.2.1.getD k 0) (Ag g.length) s []).2])
   have Qp:=jv (g:=g) (k:=(k:Int)) (x:=s.1.getD k []) (d:=s.2.1.getD k 0) (Ag g.length) s [] B
   rw [<-hB,List.nil_append] at Qp
   rw [qL f (k+1) _ _ (by omega),List.append_assoc]
   congr 1
   generalize hR:Xr g (Ag g.length) f (k+1) _ _=R at*
   have hkR:k<R.1.1.length:=by rw [hB,hA,List.length_append,List.length_append];omega
   rw [List.drop_eq_getElem_cons hkR,List.map_cons,List.singleton_append]
   congr 1
   have e:R.1.1[k]=s.1.getD k []:=by
    rw [<-Cy (d:= []) hkR,hB,hA,List.append_assoc,Ff hk]
   rw [Qp,e]
   rfl
  ·rename_i hk
   rw [List.drop_of_length_le (by show s.1.length<=k;omega)]
   simp
theorem EF {p:PP} (hw:Bl p=true):(Ic p).2.2.2.2.2.2.1=(Ab p).map (rj p.2.2.1 (Ab p)):=by
 have h1:=(sH hw).1
 have h2:=oL (Cq hw).1
 have h3:=qL (g:=p.2.2.1) 3001 0 ([upto p.1.toNat],[0],[0],[0]) [] (by
  show (Ic p).2.1.length<=3001+0
  rw [h1];omega)
 have h4:(Xr p.2.2.1 (Ag p.2.2.1.length) 3001 0 ([upto p.1.toNat],[0],[0],[0]) []).1.1=Ab p:=h1
 rw [h4,List.nil_append,List.drop_zero] at h3
 exact h3
noncomputable def Fy (p:PP) (i:Nat):List Int:=rj p.2.2.1 (Ab p) ((Ab p).getD i [])
theorem Oq {p:PP} (hw:Bl p=true):mi p.2.2.1 (Ag p.2.2.1.length) (Ab p):=by
 obtain ⟨hv,hb⟩:=Cq hw
 have hV:=valid hv
 have hn:=hV.n
 exact Xu hV (ur hv) (fO hv (by rw [Py];omega) (λy hy=>by have:=Ir.1 hy;omega) hb)
theorem HJ {p:PP} (hw:Bl p=true):ji p.2.2.1 (Ag p.2.2.1.length) (Ab p) (cT p):=by
 obtain ⟨hv,hb⟩:=Cq hw
 have hn:=(valid hv).n
 exact fO hv (by rw [Py];omega) (λy hy=>by have:=Ir.1 hy;omega) hb
theorem zz {p:PP} (hw:Bl p=true) {i:Nat} (hi:i<(Ab p).length) {l:Int} (hl:l∈Ag p.2.2.1.length):
  (Ab p).idxOf (Aa ((Ab p).getD i []) (Af p.2.2.1 l))<(Ab p).length/\
  (Ab p).getD ((Ab p).idxOf (Aa ((Ab p).getD i []) (Af p.2.2.1 l))) []=Aa ((Ab p).getD i []) (Af p.2.2.1 l):=by
 have hm:=(Oq hw).next _ (Jr hi) l hl
 have h1:=List.idxOf_lt_length_of_mem hm
 exact ⟨h1,by rw [Cy h1];exact List.getElem_idxOf h1⟩
theorem iO {p:PP} (hw:Bl p=true):fI (Fy p) (Ab p).length:= λi hi t ht=>by
 obtain ⟨l,hl,rfl⟩:=List.mem_map.1 ht
 have:=(zz hw hi hl).1
 omega
theorem j6 {p:PP} (hw:Bl p=true) (Q:List Int->Prop) (hQ: ∀x∈Ab p,Q x-> ∀l∈Ag p.2.2.1.length,Q (Aa x (Af p.2.2.1 l))) {x:List Int} (hx:x∈Ab p) (hq:Q x):
  ∀y∈Ab p,Q y:=by
 have hc:=Oq hw
 have hL:=HJ hw
 have up: ∀(j:Nat),j<(Ab p).length->Q ((Ab p).getD j [])->Q ((Ab p).getD 0 []):=by
  intro j
  induction j using Nat.strongRecOn with
  |_ j ih=>
   intro hj hqj
   by_cases e:j=0
   ·subst e;exact hqj
   ·obtain ⟨i,l,h1,h2,h3,_⟩:=hL.par j (by omega) hj
    have hi:i<(Ab p).length:=by omega
    obtain ⟨b1,b2⟩:=hc.back _ (Jr hi) l h2
    refine ih i h1 hi ?_
    have:=hQ _ (Jr hj) hqj _ b1
    rwa [h3,b2] at this
 have down:Q ((Ab p).getD 0 [])-> ∀(j:Nat),j<(Ab p).length->Q ((Ab p).getD j []):=by
  intro h0 j
  induction j using Nat.strongRecOn with
  |_ j ih=>
   intro hj
   by_cases e:j=0
   ·subst e;exact h0
   ·obtain ⟨i,l,h1,h2,h3,_⟩:=hL.par j (by omega) hj
    have hi:i<(Ab p).length:=by omega
    rw [h3]
    exact hQ _ (Jr hi) (ih i h1 hi) l h2
 obtain ⟨j,hj,rfl⟩:=List.mem_iff_getElem.1 hx
 rw [<-Cy (d:= []) hj] at hq
 intro y hy
 obtain ⟨k,hk,rfl⟩:=List.mem_iff_getElem.1 hy
 rw [<-Cy (d:= []) hk]
 exact down (up j hj hq) k hk
theorem PQ {p:PP} (hw:Bl p=true) (S:Nat->Bool) {i0:Nat} (hi0:i0<(Ab p).length) (hS:S i0=true):
  Iv p.2.2.1 (Ag p.2.2.1.length) (Ab p) (λx=>S ((Ab p).idxOf x)=true) (λx=>(lM (Fy p) S (Ab p).length).getD ((Ab p).idxOf x) 0):=by
 have hd:=TG (S:=S) (iO hw)
 have pD:=(DJ hw).nodup
 have hc:=Oq hw
 have ix: ∀ {x:List Int},x∈Ab p->(Ab p).idxOf x<(Ab p).length/\(Ab p).getD ((Ab p).idxOf x) []=x:= λ {x} hx=>by
  have h1:=List.idxOf_lt_length_of_mem hx
  exact ⟨h1,by rw [Cy h1];exact List.getElem_idxOf h1⟩
 have st: ∀x∈Ab p,0<=(lM (Fy p) S (Ab p).length).getD ((Ab p).idxOf x) 0-> ∀l∈Ag p.2.2.1.length,
   0<=(lM (Fy p) S (Ab p).length).getD ((Ab p).idxOf (Aa x (Af p.2.2.1 l))) 0/\
   (lM (Fy p) S (Ab p).length).getD ((Ab p).idxOf (Aa x (Af p.2.2.1 l))) 0<=(lM (Fy p) S (Ab p).length).getD ((Ab p).idxOf x) 0+1:= λx hx h0 l hl=>by
  obtain ⟨i1,i2⟩:=ix hx
  have:=hd.done _ i1 h0 (by simp) (λh=>h) (((Ab p).idxOf (Aa x (Af p.2.2.1 l)):Nat):Int) (List.mem_map.2 ⟨l,hl,by rw [i2]⟩)
  rwa [Int.toNat_natCast] at this
 have nn: ∀x∈Ab p,0<=(lM (Fy p) S (Ab p).length).getD ((Ab p).idxOf x) 0:=by
  refine j6 hw _ (λx hx h0 l hl=>(st x hx h0 l hl).1) (Jr hi0) ?_
  rw [Jb pD hi0,hd.src i0 hi0 hS]
  exact Int.le_refl _
 refine ⟨nn,λx hx=>⟨λh0=>hd.SC _ (ix hx).1 h0,λhs=>hd.src _ (ix hx).1 hs⟩,λx hx l hl=>(st x hx (nn x hx) l hl).2,λx hx h0=>?_⟩
 obtain ⟨j,j1,j2,j3⟩:=hd.par _ (ix hx).1 h0
 obtain ⟨l,hl,ZW⟩:=List.mem_map.1 j2
 obtain ⟨n1,n2⟩:=zz hw j1 hl
 have e:(Ab p).idxOf (Aa ((Ab p).getD j []) (Af p.2.2.1 l))=(Ab p).idxOf x:=by omega
 obtain ⟨b1,b2⟩:=hc.back _ (Jr j1) l hl
 rw [e,(ix hx).2] at n2
 refine ⟨-l,b1,?_⟩
 have e5:Aa x (Af p.2.2.1 (-l))=(Ab p).getD j []:=(congrArg (λz=>Aa z (Af p.2.2.1 (-l))) n2).trans b2
 rw [e5,Jb pD j1,j3]
end Go.Proofs.Ytjbdmibbbpdnnaa

namespace Go.Proofs.Ytjbdmibbbpdnnaa
open Go.RowKit
abbrev tGD:Ty:= .clo 120 (.pair (.ptr tL) (.pair (.ptr (.optr Xg)) .unit))
def IX (e:Option XP):Prop:= ∃e':XP,e=some e'/\se e'
noncomputable def Nc (goal:List Int) (e:Option XP) (i:Int):Bool:=match e with|some e=>Wy goal ((Ab e.1).getD i.toNat [])|none=>false
def DT (goal:List Int) (e:Option XP):Prop:= ∃e':XP,e=some e'/\se e'/\Fg e'.1.1 goal=true
def UX (e:Option XP):Nat:=match e with|some e=>e.2.1.length|none=>0
noncomputable abbrev o9:Spec:=Cz (.pair tI (.pair (.ptr tL) (.pair (.ptr (.optr Xg)) .unit))) .bool false true (λx=>DT x.2.1 x.2.2.1/\0<=x.1/\x.1<UX x.2.2.1) (λx=>Nc x.2.1 x.2.2.1 x.1)
noncomputable def cU (e:Option XP) (S:Nat->Bool):List Int:=match e with|some e=>lM (Fy e.1) S (Ab e.1).length|none=> []
noncomputable abbrev Vv:Spec:=Cz (.pair (.optr Xg) (.pair tGD .unit)) tL false true (λx=>IX x.1/\x.2.1.2.1=x.1/\DT x.2.1.1 x.1) (λx=>cU x.1 λi=>Nc x.2.1.1 x.1 (i:Int))
noncomputable abbrev Nx:Spec:=Cz (.pair (.optr Xg) (.pair tL .unit)) tL false true (λx=>DT x.2.1 x.1) (λx=>cU x.1 λi=>Nc x.2.1 x.1 (i:Int))
abbrev tDs:Ty:= .clo 119 (.pair (.ptr tL) (.pair (.ptr tI) .unit))
noncomputable abbrev rP:Spec:=Cz (.pair tI (.pair (.ptr tL) (.pair (.ptr tI) .unit))) .bool false true (λx=>(0<=x.1/\x.1<List.length x.2.1)/\0<=x.2.2.1/\x.2.2.1<List.length x.2.1) (λx=>decide (Ce x.2.1 x.1<Ce x.2.1 x.2.2.1))
noncomputable abbrev kh:Spec:=Cz (.pair tL (.pair tDs .unit)) tI false true (λx=>short x.1/\Ha (List.length x.2.1.1) x.1/\0<=x.2.1.2.1/\x.2.1.2.1<List.length x.2.1.1) (λx=>Bx (λy=>decide (Ce x.2.1.1 y<Ce x.2.1.1 x.2.1.2.1)) x.1 0)
def Uz (N:Nat->List Int) (ls d:List Int):Nat->Int->List Int->List Int×Int
 |0,i,w=>(w,i)
 |f+1,i,w=>if 0<Ce d i then Uz N ls d f ((N i.toNat).getD (Bx (λy=>decide (Ce d y<Ce d i)) (N i.toNat) 0).toNat 0) (w++ [ls.getD (Bx (λy=>decide (Ce d y<Ce d i)) (N i.toNat) 0).toNat 0]) else (w,i)
noncomputable def Ug (p:PP) (d:List Int) (i:Int):List Int×Int×Bool×Unit:=
 if Ce d i>200 then ([],0,false,()) else ((Uz (Fy p) (Ag p.2.2.1.length) d (Ce d i).toNat i []).1,(Uz (Fy p) (Ag p.2.2.1.length) d (Ce d i).toNat i []).2,true,())
noncomputable def tz (e:Option XP) (d:List Int) (i:Int):(List Int×Int×Bool×Unit)×Unit:=match e with|some e=>(Ug e.1 d i,())|none=>(([],0,false,()),())
structure yq (p:PP) (d:List Int):Prop where
 len:d.length=(Ab p).length
 nn: ∀i,i<d.length->0<=d.getD i 0
 dn: ∀i,i<d.length->0<d.getD i 0-> ∃t∈Fy p i,d.getD t.toNat 0<d.getD i 0
noncomputable abbrev Ra:MSpec:=jR [none,none,none] [(false, .Ft (.optr Xg)),(false, .Ft tL),(false, .Ft tI)] true [none,none,none] [rL, .Ft tI, .Ft .bool]
 (λx=> ∃e':XP,x.1=some e'/\se e'/\yq e'.1 x.2.1/\0<=x.2.2.1/\x.2.2.1<List.length x.2.1) (λx=>tz x.1 x.2.1 x.2.2.1)
theorem Adr (i:Int) (goal:List Int) (e:Option XP) (P:Bool->Prop):(∃(y4:(Int×ByteArray×List (List Int)×PUnit)×List (List Int)×List Int×(ByteArray->Option Int)×List Int×List Int×List (List Int)×PUnit),e=some y4/\ ∃(y5:List Int),idx y4.2.1 i=some y5/\ ∃(y6:Bool),On.fn (goal,y5,())=some y6/\P y6)=fnW Cr (look [(121,On)]) o9 Try.f120 (i,goal,e,()) P:=by kernel_rfl
abbrev kB:Type:=(Int×ByteArray×List (List Int)×PUnit)×List (List Int)×List Int×(ByteArray->Option Int)×List Int×List Int×List (List Int)×PUnit
theorem NV (e:Option XP) (c:List Int×Option XP×Unit) (P:List Int->Prop):(∃(y3:kB),e=some y3/\ ∃(y4:(List Int×PUnit)×PUnit),Zn.fn (List.take 1 (List.drop 0 [(-1:Int)]),(↑y3.2.1.length:Int),())=some y4/\ ∃(y5:kB),e=some y5/\ ∃(y6:Int),Nl.fn (y5.2.1,())=some y6/\0=0/\y4.1.1.length=y4.1.1.length/\0=0/\(List.take 0 (List.drop 0 ([]:List Int))).length=(List.take 0 (List.drop 0 ([]:List Int))).length/\Bk (λ(v7:Int×List Int×List Int×PUnit) (k8:Int×List Int×List Int×PUnit->Prop)=>Br (decide (v7.1<y6)) (∃(y9:Bool),o9.fn (v7.1,c.1,c.2.1,())=some y9/\Br y9 (((0:Int)<=v7.1/\v7.1<(↑v7.2.2.1.length:Int))/\0+v7.1.toNat<v7.2.2.1.length/\0=0/\v7.2.1.length=v7.2.1.length/\v7.2.1.length+(List.take 1 (List.drop 0 [v7.1])).length<=Bp/\0=0/\v7.2.2.1.length=(v7.2.2.1.set (0+v7.1.toNat) (0:Int)).length/\0=0/\(List.take (v7.2.1++List.take 1 (List.drop 0 [v7.1])).length (List.drop 0 (v7.2.1++List.take 1 (List.drop 0 [v7.1])))).length=(List.take (v7.2.1++List.take 1 (List.drop 0 [v7.1])).length (List.drop 0 (v7.2.1++List.take 1 (List.drop 0 [v7.1])))).length/\k8 (IntKind.i64.wrap (v7.1+(1:Int)),List.take (v7.2.1++List.take 1 (List.drop 0 [v7.1])).length (List.drop 0 (v7.2.1++List.take 1 (List.drop 0 [v7.1]))),v7.2.2.1.set (0+v7.1.toNat) (0:Int),())) (0=0/\v7.2.2.1.length=v7.2.2.1.length/\0=0/\(List.take v7.2.1.length (List.drop 0 v7.2.1)).length=(List.take v7.2.1.length (List.drop 0 v7.2.1)).length/\k8 (IntKind.i64.wrap (v7.1+(1:Int)),List.take v7.2.1.length (List.drop 0 v7.2.1),v7.2.2.1,()))) (0=0/\v7.2.2.1.length=v7.2.2.1.length/\0=0/\(List.take v7.2.1.length (List.drop 0 v7.2.1)).length=(List.take v7.2.1.length (List.drop 0 v7.2.1)).length/\Bk (λ(v9:List Int×List Int×PUnit) (k10:List Int×List Int×PUnit->Prop)=>Br (decide ((↑v9.1.length:Int)>(0:Int))) (∃(dN:kB),e=some dN/\((0:Int)<=(0:Int)/\(0:Int)<(↑v9.1.length:Int))/\ ∃(Yg:Int),v9.1[0+Int.toNat (0:Int)]?=some Yg/\ ∃(Wj:List Int),idx dN.2.2.2.2.2.2.1 Yg=some Wj/\0=0/\v9.2.1.length=v9.2.1.length/\0=0/\(List.take v9.1.length (List.drop 0 v9.1)).length=(List.take v9.1.length (List.drop 0 v9.1)).length/\Bk (λ(Wi:Int×List Int×List Int×PUnit) (k15:Int×List Int×List Int×PUnit->Prop)=>Br (decide (Wi.1<(↑Wj.length:Int))) (∃(fD:Int),idx Wj Wi.1=some fD/\((0:Int)<=fD/\fD<(↑Wi.2.2.1.length:Int))/\ ∃(BG:Int),Wi.2.2.1[0+fD.toNat]?=some BG/\Br (decide (BG<(0:Int))) (((0:Int)<=(0:Int)/\(0:Int)<(↑Wi.2.1.length:Int))/\ ∃(IU:Int),Wi.2.1[0+Int.toNat (0:Int)]?=some IU/\((0:Int)<=IU/\IU<(↑Wi.2.2.1.length:Int))/\ ∃(OY:Int),Wi.2.2.1[0+IU.toNat]?=some OY/\((0:Int)<=fD/\fD<(↑Wi.2.2.1.length:Int))/\0+fD.toNat<Wi.2.2.1.length/\0=0/\Wi.2.1.length=Wi.2.1.length/\Wi.2.1.length+(List.take 1 (List.drop 0 [fD])).length<=Bp/\0=0/\Wi.2.2.1.length=(Wi.2.2.1.set (0+fD.toNat) (IntKind.i64.wrap (OY+(1:Int)))).length/\0=0/\(List.take (Wi.2.1++List.take 1 (List.drop 0 [fD])).length (List.drop 0 (Wi.2.1++List.take 1 (List.drop 0 [fD])))).length=(List.take (Wi.2.1++List.take 1 (List.drop 0 [fD])).length (List.drop 0 (Wi.2.1++List.take 1 (List.drop 0 [fD])))).length/\k15 (IntKind.i64.wrap (Wi.1+(1:Int)),List.take (Wi.2.1++List.take 1 (List.drop 0 [fD])).length (List.drop 0 (Wi.2.1++List.take 1 (List.drop 0 [fD]))),Wi.2.2.1.set (0+fD.toNat) (IntKind.i64.wrap (OY+(1:Int))),())) (0=0/\Wi.2.2.1.length=Wi.2.2.1.length/\0=0/\(List.take Wi.2.1.length (List.drop 0 Wi.2.1)).length=(List.take Wi.2.1.length (List.drop 0 Wi.2.1)).length/\k15 (IntKind.i64.wrap (Wi.1+(1:Int)),List.take Wi.2.1.length (List.drop 0 Wi.2.1),Wi.2.2.1,()))) (((0:Int)<=(1:Int)/\(1:Int)<=(↑Wi.2.1.length:Int)/\(↑Wi.2.1.length:Int)<=(↑Wi.2.1.length:Int))/\0=0/\Wi.2.2.1.length=Wi.2.2.1.length/\0=0/\(List.take ((↑Wi.2.1.length:Int).toNat-Int.toNat (1:Int)) (List.drop (0+Int.toNat (1:Int)) Wi.2.1)).length=(List.take ((↑Wi.2.1.length:Int).toNat-Int.toNat (1:Int)) (List.drop (0+Int.toNat (1:Int)) Wi.2.1)).length/\k10 (List.take ((↑Wi.2.1.length:Int).toNat-Int.toNat (1:Int)) (List.drop (0+Int.toNat (1:Int)) Wi.2.1),Wi.2.2.1,()))) ((0:Int),List.take v9.1.length (List.drop 0 v9.1),v9.2.1,PUnit.unit)) (P (List.take v9.2.1.length (List.drop 0 v9.2.1)))) (List.take v7.2.1.length (List.drop 0 v7.2.1),v7.2.2.1,PUnit.unit))) ((0:Int),List.take 0 (List.drop 0 []),y4.1.1,PUnit.unit))=fnW (YR [Ht+6]) (look [(122,Zn),(58,Nl),(120,o9)]) Vv Try.f71 (e,c,()) P:=by kernel_rfl
theorem AY (e:Option XP) (goal:List Int) (P:List Int->Prop):(∃(y3:List Int),Vv.fn (e,(goal,e,()),())=some y3/\P y3)=fnW Cr (look [(71,Vv)]) Nx Try.f68 (e,goal,()) P:=by kernel_rfl
theorem Ado (y:Int) (d:List Int) (i:Int) (P:Bool->Prop):(∃(y4:Int),idx d y=some y4/\ ∃(y5:Int),idx d i=some y5/\P (decide (y4<y5)))=fnW Cr (look []) rP Try.f119 (y,d,i,()) P:=by kernel_rfl
theorem ZC (xs:List Int) (c:List Int×Int×Unit) (P:Int->Prop):(Bk (λ(v3:Int×PUnit) (k4:Int×PUnit->Prop)=>Br (decide (v3.1<(↑xs.length:Int))) (∃(y5:Int),idx xs v3.1=some y5/\ ∃(y6:Bool),rP.fn (y5,c.1,c.2.1,())=some y6/\Br y6 (P v3.1) (k4 (IntKind.i64.wrap (v3.1+(1:Int)),()))) (P (-1:Int))) ((0:Int),PUnit.unit))=fnW Cr (look [(119,rP)]) kh Try.f118 (xs,c,()) P:=by kernel_rfl
abbrev gG:Type:=(Int×ByteArray×List (List Int)×PUnit)×List (List Int)×List Int×(ByteArray->Option Int)×List Int×List Int×List (List Int)×PUnit
theorem HV (e:Option XP) (d:List Int) (i:Int) (P:((List Int×Int×Bool×Unit)×Unit)->Prop):(∃(y4:Int),idx d i=some y4/\Br (decide (y4>(200:Int))) (P ((List.take 0 (List.drop 0 []),(0:Int),false,()),())) (∃(y5:gG),e=some y5/\ ∃(y6:List Int),Ih.fn ((↑y5.1.2.2.1.length:Int),())=some y6/\0=0/\0=([]:List Int).length/\Bk (λ(v7:List Int×Int×List Int×PUnit) (k8:List Int×Int×List Int×PUnit->Prop)=> ∃(y9:Int),idx v7.1 v7.2.1=some y9/\Br (decide (y9>(0:Int))) (∃(bh:gG),e=some bh/\ ∃(dN:List Int),idx bh.2.2.2.2.2.2.1 v7.2.1=some dN/\ ∃(Yg:Int),kh.fn (dN,(v7.1,v7.2.1,()),())=some Yg/\ ∃(Wj:Int),idx y6 Yg=some Wj/\0=0/\v7.2.2.1.length=v7.2.2.1.length/\v7.2.2.1.length+(List.take 1 (List.drop 0 [Wj])).length<=Bp/\ ∃(Zu:gG),e=some Zu/\ ∃(dO:List Int),idx Zu.2.2.2.2.2.2.1 v7.2.1=some dO/\ ∃(fD:Int),idx dO Yg=some fD/\0=0/\(v7.2.2.1++List.take 1 (List.drop 0 [Wj])).length=(v7.2.2.1++List.take 1 (List.drop 0 [Wj])).length/\k8 (v7.1,fD,v7.2.2.1++List.take 1 (List.drop 0 [Wj]),())) (P ((List.take v7.2.2.1.length (List.drop 0 v7.2.2.1),v7.2.1,true,()),()))) (d,i,[],PUnit.unit)))=fnMW Ye (look [(117,Ih),(118,kh)]) Ra Try.f67 (e,d,i,()) P:=by kernel_rfl
theorem TH {e:XP} (h:se e):e.2.1=Ab e.1:=(congrArg (λz:XP=>z.2.1) h.2).trans (sH h.1).1
theorem PR {e:XP} (h:se e):e.2.2.2.2.2.2.1=(Ab e.1).map (rj e.1.2.2.1 (Ab e.1)):=(congrArg (λz:XP=>z.2.2.2.2.2.2.1) h.2).trans (EF h.1)
theorem JQ {e:XP} (h:se e) {i:Nat} (hi:i<(Ab e.1).length):idx e.2.2.2.2.2.2.1 (i:Int)=some (Fy e.1 i):=by
 rw [PR h,Aq (by rw [List.length_map];exact hi),List.getElem_map]
 unfold Fy
 rw [Cy hi]
theorem nL (p:PP) (i:Nat):(Fy p i).length=(Ag p.2.2.1.length).length:=by unfold Fy rj;rw [List.length_map]
theorem cQ {p:PP} (hV:Valid p):(Ag p.2.2.1.length).length<=16:=by rw [Kv];have:=hV.pb;omega
theorem Ad1 (i:Int) (goal:List Int) (e:Option XP) (h:DT goal e/\0<=i/\i<UX e):fnW Cr (look [(121,On)]) o9 Try.f120 (i,goal,e,()) (λ(z:Bool)=>z=Nc goal e i):=by
 obtain ⟨⟨e',rfl,hx,hp⟩,h1,h2⟩:=h
 obtain ⟨k,rfl⟩:=Int.eq_ofNat_of_zero_le h1
 have Ph:=TH hx
 have h2:((k:Nat):Int)<(e'.2.1.length:Int):=h2
 rw [Ph] at h2
 have hk:k<(Ab e'.1).length:=by omega
 have hv:=(Cq hx.1).1
 have ET:=DK hv (List.getElem_mem hk)
 have ht:=Fw (Kd.2 ⟨hv,hp⟩)
 refine Eq.mp (Adr _ _ _ _) ⟨e',rfl,(Ab e'.1)[k],by rw [Ph];exact Aq hk,_,if_pos ⟨by show goal.length<=4294967296;omega,xp ET,PV hv ET hp⟩,?_⟩
 show Wy goal (Ab e'.1)[k]=Wy goal ((Ab e'.1).getD ((k:Nat):Int).toNat [])
 rw [Int.toNat_natCast,Cy hk]
theorem GZ:Sound Try.prog 120 o9:=
 Sound.Cz Bo (Ah lT Ap) mixed Try.func120 (by kernel_rfl) (by kernel_rfl) λx h=>Ad1 x.1 x.2.1 x.2.2.1 h
def OL (S:Nat->Bool) (i:Nat):List Int:=((List.range i).filter S).map λ(k:Nat)=>(k:Int)
theorem vR (S:Nat->Bool) (i:Nat):OL S (i+1)=if S i=true then OL S i++ [(i:Int)] else OL S i:=by
 unfold OL
 rw [List.range_succ,List.filter_append]
 by_cases h:S i=true
 ·rw [if_pos h];simp [h]
 ·rw [if_neg h];simp [h]
theorem PM (S:Nat->Bool) (i:Nat):(OL S i).length<=i:=by
 unfold OL
 rw [List.length_map]
 exact Nat.le_trans (List.length_filter_le _ _) (by simp)
theorem SB {xs:List Int} {i:Nat} {v:Int} {m:Nat} (hl:xs.length=m) (hi:i<m) {f g:Nat->Int} (h: ∀k,k<m->xs.getD k 0=f k) (hg:g i=v) (Ep: ∀k,k≠i->g k=f k): ∀k,k<m->(xs.set i v).getD k 0=g k:= λk hk=>by
 rw [dW (by omega)]
 by_cases e:i=k
 ·subst e;rw [if_pos rfl,hg]
 ·rw [if_neg e,h k hk,Ep k λe'=>e e'.symm]
theorem FH {xs ys:List Int} (h1:xs.length=ys.length) (h: ∀k,k<xs.length->xs.getD k 0=ys.getD k 0):xs=ys:=
 List.ext_getElem h1 λk h2 h3=>by have:=h k h2;rwa [Cy h2,Cy h3] at this
theorem Aam {xs:List Int} {k:Nat} (h:k<xs.length):xs[0+((k:Nat):Int).toNat]?=some (xs.getD k 0):=by
 rw [Nat.zero_add,Int.toNat_natCast,List.getElem?_eq_getElem h,Cy h]
theorem MB (e:Option XP) (c:List Int×Option XP×Unit) (h:IX e/\c.2.1=e/\DT c.1 e):fnW (YR [Ht+6]) (look [(122,Zn),(58,Nl),(120,o9)]) Vv Try.f71 (e,c,()) (λ(z:List Int)=>z=cU e λi=>Nc c.1 e (i:Int)):=by
 obtain ⟨⟨e',rfl,hx⟩,hce,OP⟩:=h
 obtain ⟨goal,ce,⟨⟩⟩:=c
 dsimp only at hce OP
 subst hce
 have Ph:=TH hx
 have hwv:=Cq hx.1
 have hm3:=oL hwv.1
 have UG:=NA hwv.1
 have hR:=iO hx.1
 have hV:=valid hwv.1
 have hlf:=cQ hV
 obtain ⟨m,hm⟩: ∃m,(Ab e'.1).length=m:=⟨_,rfl⟩
 obtain ⟨S,hS⟩: ∃S:Nat->Bool,(λ(i:Nat)=>Nc goal (some e') (i:Int))=S:=⟨_,rfl⟩
 have hSi: ∀i:Nat,Nc goal (some e') (i:Int)=S i:= λi=>congrFun hS i
 show fnW _ _ Vv _ _ (λz=>z=lM (Fy e'.1) (λi=>Nc goal (some e') (i:Int)) (Ab e'.1).length)
 rw [hS]
 have Of: ∀i:Nat,i<m->o9.fn ((i:Int),goal,some e',())=some (S i):= λi hi=>by
  refine (if_pos ⟨OP,by show (0:Int)<=i;omega,?_⟩).trans (congrArg some (hSi i))
  show (i:Int)<((e'.2.1.length:Nat):Int)
  rw [Ph];omega
 rw [hm] at hm3 UG hR⊢
 refine Eq.mp (NV _ _ _) ⟨e',rfl,((List.replicate m (-1),()),()),?_,e',rfl,(m:Int),?_,rfl,rfl,rfl,rfl,?_⟩
 ·rw [Ph,hm]
  refine (if_pos ⟨⟨-1,rfl⟩,by show (1:Int)<=m;omega,by show (m:Int)<=100000;omega⟩).trans ?_
  show some ((List.replicate ((m:Int)).toNat (-1),()),())=_
  rw [Int.toNat_natCast]
 ·exact (if_pos trivial).trans (congrArg some (by show ((e'.2.1.length:Nat):Int)=m;rw [Ph,hm]))
 refine Aj m (λv=>v.1) (λj v=>v.2.1=OL S j/\v.2.2.1.length=m/\ ∀k,k<m->v.2.2.1.getD k 0=if k<j/\S k=true then 0 else-1) rfl ⟨rfl,by simp,λk hk=>?_⟩ ?_
 ·rw [if_neg (by omega),Cy (by simpa using hk),List.getElem_replicate]
 rintro j ⟨i,q,out,⟨⟩⟩ K hj hi ⟨h1,h2,h3⟩ hK
 dsimp only at hi h1 h2 h3⊢
 subst hi h1
 have hql:=PM S j
 refine Br.dec (λhl=>?_) λhl=>⟨rfl,rfl,rfl,rfl,?_⟩
 ·have hl:j<m:=by omega
  refine ⟨S j,Of j hl,Br.of (λhs=>?_) λhs=>?_⟩
  ·refine ⟨⟨by omega,by omega⟩,by rw [Int.toNat_natCast];omega,rfl,rfl,by show (OL S j).length+1<=4294967296;omega,rfl,by rw [List.length_set],rfl,rfl,?_⟩
   rw [Bi,Al (by omega),Int.toNat_natCast,Nat.zero_add]
   refine hK hl _ rfl ⟨?_,by rw [List.length_set];exact h2,?_⟩
   ·show OL S j++ [(j:Int)]=_
    rw [vR,if_pos hs]
   ·refine SB h2 hl h3 (by rw [if_pos ⟨by omega,hs⟩]) λk hk=>?_
    by_cases hc:k<j/\S k=true
    ·rw [if_pos hc,if_pos ⟨by omega,hc.2⟩]
    ·rw [if_neg hc,if_neg λh=>hc ⟨by omega,h.2⟩]
  ·refine ⟨rfl,rfl,rfl,rfl,?_⟩
   rw [Bi,Al (by omega)]
   refine hK hl _ rfl ⟨?_,h2,λk hk=>?_⟩
   ·show OL S j=_
    rw [vR,if_neg (by rw [hs];decide)]
   ·rw [h3 k hk]
    by_cases hc:k<j/\S k=true
    ·rw [if_pos hc,if_pos ⟨by omega,hc.2⟩]
    ·rw [if_neg hc,if_neg λh=>hc ⟨by
      by_cases e:k=j
      ·subst e;rw [hs] at h;exact absurd h.2 (by decide)
      ·omega,h.2⟩]
 ·have:j=m:=by omega
  subst this
  have sT:out=IJ S j:=FH (by rw [h2];simp [IJ]) λk hk=>by
   rw [h3 k (by omega),Va (by omega)]
   by_cases hs:S k=true
   ·rw [if_pos ⟨by omega,hs⟩,if_pos hs]
   ·rw [if_neg λh=>hs h.2,if_neg hs]
  subst sT
  rw [Bi]
  show Bk _ (PK S j,IJ S j,PUnit.unit)
  refine Bk.mk (λv=> ∃(q out:List Int) (f T:Nat),v=(q,out,())/\DQ (Fy e'.1) S j out q/\q.length+aD out<f/\EE (Fy e'.1) f out q=lM (Fy e'.1) S j/\T+(q.length+aD out)<=j/\ ∀i,i<j->out.getD i 0<=T) (λv=>v.1.length+aD v.2.1)
   ⟨PK S j,IJ S j,j+1,0,rfl,vQ _ _ _,by rw [LU];omega,rfl,by rw [LU];omega,λi hi=>by rw [Va hi];split<;>omega⟩ ?_
  rintro v ⟨q,out,f,T,rfl,g1,g2,g3,g4,g5⟩
  dsimp only
  have hol:=g1.base.len
  refine Br.dec (λhl=>?_) λhl=>?_
  ·obtain ⟨x,q',rfl⟩: ∃x q',q=x::q':=by
    cases q with
    |nil=>simp at hl
    |cons x q'=>exact ⟨x,q',rfl⟩
   obtain ⟨x1,x2,x3⟩:=g1.base.inq x (by simp)
   obtain ⟨xn,rfl⟩:=Int.eq_ofNat_of_zero_le x1
   have CW:xn<j:=by omega
   rw [Int.toNat_natCast] at x3
   obtain ⟨f,rfl⟩: ∃f',f=f'+1:=⟨f-1,by omega⟩
   simp only [EE,Int.toNat_natCast] at g3
   simp only [List.length_cons] at g2 g4
   refine ⟨e',rfl,⟨by omega,by omega⟩,(xn:Int),by simp,Fy e'.1 xn,JQ hx (by omega),rfl,rfl,rfl,rfl,?_⟩
   rw [Bi]
   obtain ⟨o1,o2⟩:=List.pairwise_cons.1 g1.base.ord
   simp only [Int.toNat_natCast] at o1
   have hX0:DX (Fy e'.1) S j xn (out.getD xn 0) out q':=by
    refine ⟨⟨g1.base.len,g1.base.ge,λy hy=>g1.base.inq y (List.mem_cons_of_mem _ hy),g1.base.src,g1.base.SC,g1.base.par,λi hi h0 hn hw=>g1.base.done i hi h0 (λhm=>?_) (λh=>h),o2⟩,CW,rfl,x3,o1,?_⟩
    ·rcases List.mem_cons.1 hm with e|hm
     ·exact hw (by omega)
     ·exact hn hm
    ·have:=g1.hi (xn:Int) q' rfl
     rwa [Int.toNat_natCast] at this
   have hnl:(Fy e'.1 xn).length<=16:=by rw [nL];exact hlf
   obtain ⟨d,hd⟩: ∃d,out.getD xn 0=d:=⟨_,rfl⟩
   rw [hd] at hX0
   have hdT:d<=T:=by rw [<-hd];exact g5 xn CW
   refine Aj (Fy e'.1 xn).length (λv=>v.1) (λk v=> ∃(qq o:List Int),v=((k:Int),(xn:Int)::qq,o,())/\DX (Fy e'.1) S j xn d o qq/\qq.length+aD o=q'.length+aD out/\
     Ts (xn:Int) ((Fy e'.1 xn).drop k) (o,qq)=Ts (xn:Int) (Fy e'.1 xn) (out,q')) rfl ⟨q',out,rfl,hX0,rfl,by rw [List.drop_zero]⟩ ?_
   rintro k v K2 hk hki ⟨qq,o,rfl,hX,hc,Ns⟩ hK2
   dsimp only
   have hXb:=hX.base.len
   refine Br.dec (λIz=>?_) λIz=>?_
   ·have Iz:k<(Fy e'.1 xn).length:=by omega
    have htm:=hR xn CW _ (List.getElem_mem Iz)
    obtain ⟨tn,XF⟩:=Int.eq_ofNat_of_zero_le htm.1
    have htj:tn<j:=by omega
    rw [List.drop_eq_getElem_cons Iz] at Ns
    simp only [Ts] at Ns
    have hox:o.getD ((xn:Nat):Int).toNat 0=d:=by rw [Int.toNat_natCast];exact hX.Ss
    refine ⟨_,Aq Iz,?_⟩
    rw [XF] at Ns⊢
    rw [Int.toNat_natCast] at Ns
    refine ⟨⟨by omega,by omega⟩,o.getD tn 0,Aam (by omega),Br.dec (λlI=>?_) λlI=>?_⟩
    ·rw [if_pos lI,hox] at Ns
     have CT:=BV hR hX (List.getElem_mem Iz) htm (by rw [XF,Int.toNat_natCast];exact lI)
     rw [XF,Int.toNat_natCast] at CT
     have ZZ:=wY (xs:=o) (i:=tn) (v:=d+1) (by omega) lI (by have:=hX.d0;omega)
     have hd0:=hX.d0
     refine ⟨⟨by omega,by simp only [List.length_cons];omega⟩,(xn:Int),by simp,⟨by omega,by omega⟩,d,by rw [Aam (by omega),<-hX.Ss],⟨by omega,by omega⟩,by rw [Int.toNat_natCast];omega,rfl,rfl,?_,rfl,by rw [List.length_set],rfl,rfl,?_⟩
     ·show qq.length+1+1<=4294967296
      omega
     ·rw [Bi,Al (by omega),Int.toNat_natCast,Nat.zero_add,Bu (n:=d+1) (by omega) (by omega)]
      refine hK2 Iz _ rfl ⟨qq++ [(tn:Int)],o.set tn (d+1),rfl,CT,?_,Ns⟩
      rw [List.length_append,List.length_singleton]
      omega
    ·rw [if_neg lI] at Ns
     refine ⟨rfl,rfl,rfl,rfl,?_⟩
     rw [Bi,Al (by omega)]
     exact hK2 Iz _ rfl ⟨qq,o,rfl,hX,hc,Ns⟩
   ·have Iz:k=(Fy e'.1 xn).length:=by omega
    subst Iz
    rw [List.drop_length,Ts] at Ns
    rw [<-Ns] at g3
    have Abq:=(JN hR g1).1
    rw [Int.toNat_natCast,<-Ns] at Abq
    have ht:List.take ((((xn:Int)::qq).length:Int).toNat-Int.toNat (1:Int)) (List.drop (0+Int.toNat (1:Int)) ((xn:Int)::qq))=qq:=by
     rw [Int.toNat_natCast,List.length_cons]
     show List.take (qq.length+1-1) qq=qq
     rw [Nat.add_sub_cancel,List.take_length]
    rw [ht]
    refine ⟨⟨by omega,by simp only [List.length_cons];omega,by omega⟩,rfl,rfl,rfl,rfl,⟨qq,o,f,T+1,rfl,Abq,by omega,g3,by omega,λi hi=>?_⟩,?_⟩
    ·have:=hX.hi i hi
     push_cast
     omega
    ·show qq.length+aD o<((xn:Int)::q').length+aD out
     simp only [List.length_cons]
     omega
  ·have:q= []:=by
    cases q with
    |nil=>rfl
    |cons x q'=>simp at hl
   subst this
   rw [Bi]
   cases f with
   |zero=>exact g3
   |succ f=>exact g3
theorem ug:Sound Try.prog 71 Vv:=
 Sound.Cz (YS [Ht+6]) (Gz uk (Ah dy (Ah GZ Ap))) mixed Try.func71 (by kernel_rfl) (by kernel_rfl) λx h=>MB x.1 x.2.1 h
theorem zH (e:Option XP) (goal:List Int) (h:DT goal e):fnW Cr (look [(71,Vv)]) Nx Try.f68 (e,goal,()) (λ(z:List Int)=>z=cU e λi=>Nc goal e (i:Int)):=by
 obtain ⟨e',rfl,h1,h2⟩:=h
 exact Eq.mp (AY _ _ _) ⟨_,if_pos ⟨⟨e',rfl,h1⟩,rfl,e',rfl,h1,h2⟩,rfl⟩
theorem ov:Sound Try.prog 68 Nx:=
 Sound.Cz Bo (Ah ug Ap) mixed Try.func68 (by kernel_rfl) (by kernel_rfl) λx h=>zH x.1 x.2.1 h
theorem Acy (y:Int) (d:List Int) (i:Int) (h:(0<=y/\y<(List.length d:Int))/\0<=i/\i<(List.length d:Int)):fnW Cr (look []) rP Try.f119 (y,d,i,()) (λ(z:Bool)=>z=decide (Ce d y<Ce d i)):=
 Eq.mp (Ado y d i _) ⟨_,Vi h.1.1 h.1.2,_,Vi h.2.1 h.2.2,rfl⟩
theorem GX:Sound Try.prog 119 rP:=
 Sound.Cz Bo Ap mixed Try.func119 (by kernel_rfl) (by kernel_rfl) λx h=>Acy x.1 x.2.1 x.2.2.1 h
theorem YB (xs:List Int) (c:List Int×Int×Unit) (h:short xs/\Ha (List.length c.1) xs/\0<=c.2.1/\c.2.1<(List.length c.1:Int)):fnW Cr (look [(119,rP)]) kh Try.f118 (xs,c,()) (λ(z:Int)=>z=Bx (λy=>decide (Ce c.1 y<Ce c.1 c.2.1)) xs 0):=by
 obtain ⟨h,h5,h6⟩:=h
 unfold short at h
 refine Eq.mp (ZC xs c _) ?_
 refine Aj xs.length (λv=>v.1) (λj _=>Bx (λy=>decide (Ce c.1 y<Ce c.1 c.2.1)) (xs.drop j) j=Bx (λy=>decide (Ce c.1 y<Ce c.1 c.2.1)) xs 0) rfl (by simp) ?_
 rintro j ⟨i,⟨⟩⟩ K hj hi hR hK
 dsimp only at hi⊢
 subst hi
 refine Br.dec (λhl=>?_) λhl=>?_
 ·have hl:j<xs.length:=by omega
  rw [List.drop_eq_getElem_cons hl] at hR
  simp only [Bx] at hR
  refine ⟨_,Aq hl,_,if_pos ⟨h5 _ (List.getElem_mem hl),h6⟩,⟨λhe=>?_,λhe=>?_⟩⟩
  ·have he:decide (Ce c.1 xs[j]<Ce c.1 c.2.1)=true:=he
   rw [if_pos he] at hR
   exact hR
  ·have he:decide (Ce c.1 xs[j]<Ce c.1 c.2.1)=false:=he
   rw [if_neg (by rw [he];decide)] at hR
   rw [Al (by omega)]
   exact hK hl _ rfl (by push_cast;exact hR)
 ·have:j=xs.length:=by omega
  subst this
  rw [List.drop_length] at hR
  exact hR
theorem AK:Sound Try.prog 118 kh:=
 Sound.Cz Bo (Ah GX Ap) mixed Try.func118 (by kernel_rfl) (by kernel_rfl) λx h=>YB x.1 x.2.1 h
theorem jI {α:Type} {P:α->Bool} : ∀(l:List α) (i:Nat),l.any P=true-> ∃k,∃h:k<l.length,Bx P l (i:Int)=((i+k:Nat):Int)/\P l[k]=true/\ ∀j (h:j<k),P (l[j]'(by omega))=false
 | [],i,h=>by simp at h
 |y::r,i,h=>by
  simp only [Bx]
  by_cases hy:P y=true
  ·rw [if_pos hy]
   exact ⟨0,by simp,rfl,hy,λj hj=>absurd hj (Nat.not_lt_zero _)⟩
  ·rw [if_neg hy]
   have hr:r.any P=true:=by
    rw [List.any_cons,Bool.or_eq_true] at h
    exact h.resolve_left hy
   obtain ⟨k,hk,h1,h2,h3⟩:=jI r (i+1) hr
   refine ⟨k+1,by simpa using hk,?_,h2,λj hj=>?_⟩
   ·rw [show ((i:Int)+1)=((i+1:Nat):Int) by push_cast;rfl,h1]
    congr 1
    omega
   ·cases j with
    |zero=>exact Bool.not_eq_true _|>.mp hy
    |succ j=>exact h3 j (by omega)
theorem PJ {p:PP} (hw:Bl p=true) {d:List Int} (h:yq p d) {i:Nat} (hi:i<d.length) (hp:0<d.getD i 0):
  ∃k,∃(h1:k<(Ag p.2.2.1.length).length) (h2:k<(Fy p i).length),Bx (λy=>decide (Ce d y<Ce d (i:Int))) (Fy p i) 0=(k:Int)/\
   ∃t:Nat,(Fy p i)[k]=(t:Int)/\t<d.length/\d.getD t 0<d.getD i 0:=by
 obtain ⟨t,ht,htl⟩:=h.dn i hi hp
 have VR:(Fy p i).any (λy=>decide (Ce d y<Ce d (i:Int)))=true:=List.any_eq_true.2 ⟨t,ht,decide_eq_true htl⟩
 obtain ⟨k,hk,h1,h2,_⟩:=jI (Fy p i) 0 VR
 have hl:=h.len
 obtain ⟨r1,r2⟩:=iO hw i (by omega) _ (List.getElem_mem hk)
 obtain ⟨tn,XF⟩:=Int.eq_ofNat_of_zero_le r1
 refine ⟨k,by rw [<-nL];exact hk,hk,by rw [Nat.zero_add] at h1;exact h1,tn,XF,by omega,?_⟩
 have h2:=of_decide_eq_true h2
 unfold Ce at h2
 rw [XF,Int.toNat_natCast,Int.toNat_natCast] at h2
 exact h2
theorem FU (e:Option XP) (d:List Int) (i:Int) (h: ∃e':XP,e=some e'/\se e'/\yq e'.1 d/\0<=i/\i<(List.length d:Int)):
  fnMW Ye (look [(117,Ih),(118,kh)]) Ra Try.f67 (e,d,i,()) (λ(z:(List Int×Int×Bool×Unit)×Unit)=>z=tz e d i):=by
 obtain ⟨e',rfl,hx,hd,h1,h2⟩:=h
 have hwv:=Cq hx.1
 have hV:=valid hwv.1
 have hf:=hV.pb
 have hdl:=hd.len
 refine Eq.mp (HV _ _ _ _) ⟨_,Vi h1 h2,?_⟩
 show Br _ (_=(Ug e'.1 d i,())) _
 unfold tz Ug
 dsimp only
 refine Br.dec (λhb=>by rw [if_pos hb];rfl) λhb=>?_
 rw [if_neg hb]
 refine ⟨e',rfl,Ag e'.1.2.2.1.length,(if_pos ⟨by show (0:Int)<=((e'.1.2.2.1.length:Nat):Int);omega,by show ((e'.1.2.2.1.length:Nat):Int)<=8;omega⟩).trans (congrArg some (by show Ag (((e'.1.2.2.1.length:Nat):Int)).toNat=_;rw [Int.toNat_natCast])),rfl,rfl,?_⟩
 have hnn: ∀k:Nat,k<d.length->0<=Ce d (k:Int):= λk hk=>by unfold Ce;rw [Int.toNat_natCast];exact hd.nn k hk
 obtain ⟨R,hRR⟩: ∃R,Uz (Fy e'.1) (Ag e'.1.2.2.1.length) d (Ce d i).toNat i []=R:=⟨_,rfl⟩
 rw [hRR]
 obtain ⟨i0,rfl⟩:=Int.eq_ofNat_of_zero_le h1
 refine Bk.mk (λv=> ∃(k:Nat) (w:List Int) (f:Nat),v=(d,(k:Int),w,())/\k<d.length/\Ce d (k:Int)<=f/\w.length+f<=200/\Uz (Fy e'.1) (Ag e'.1.2.2.1.length) d f (k:Int) w=R) (λv=>(Ce d v.2.1).toNat)
  ⟨i0,[],(Ce d (i0:Int)).toNat,rfl,by omega,by omega,by have:=hnn i0 (by omega);simp only [List.length_nil];omega,hRR⟩ ?_
 rintro v ⟨k,w,f,rfl,k1,k2,k3,k4⟩
 dsimp only
 refine ⟨Ce d (k:Int),Vi (by omega) (by omega),Br.dec (λhl=>?_) λhl=>?_⟩
 ·have Hg:0<d.getD k 0:=by unfold Ce at hl;rwa [Int.toNat_natCast] at hl
  obtain ⟨f,rfl⟩: ∃f',f=f'+1:=⟨f-1,by omega⟩
  obtain ⟨n,n1,n2,n3,t,n4,n5,n6⟩:=PJ hx.1 hd k1 Hg
  simp only [Uz] at k4
  rw [if_pos hl,Int.toNat_natCast,n3,Int.toNat_natCast,Cy n2,n4,Cy n1] at k4
  have hnl:(Fy e'.1 k).length<=16:=by rw [nL];exact cQ hV
  have Agy:Ha d.length (Fy e'.1 k):= λy hy=>by
   have:=iO hx.1 k (by omega) y hy
   omega
  refine ⟨e',rfl,Fy e'.1 k,JQ hx (by omega),(n:Int),(if_pos ⟨by show (Fy e'.1 k).length<=4294967296;omega,Agy,by show (0:Int)<=(k:Int);omega,by show (k:Int)<(d.length:Int);omega⟩).trans (congrArg some n3),_,Aq n1,rfl,rfl,?_,e',rfl,Fy e'.1 k,JQ hx (by omega),(t:Int),by rw [Aq n2,n4],rfl,rfl,?_⟩
  ·show w.length+1<=4294967296;omega
  ·have e6:Ce d (t:Int)<Ce d (k:Int):=by unfold Ce;rw [Int.toNat_natCast,Int.toNat_natCast];exact n6
   have h0:=hnn t n5
   refine ⟨⟨t,w++ [(Ag e'.1.2.2.1.length)[n]],f,rfl,n5,by omega,by rw [List.length_append,List.length_singleton];omega,k4⟩,?_⟩
   show (Ce d (t:Int)).toNat<(Ce d (k:Int)).toNat
   omega
 ·rw [Bi]
  have:Uz (Fy e'.1) (Ag e'.1.2.2.1.length) d f (k:Int) w=(w,(k:Int)):=by
   cases f with
   |zero=>rfl
   |succ f=>simp only [Uz];rw [if_neg (by omega)]
  rw [this] at k4
  subst k4
  rfl
theorem qb:Ck Try.prog 67 Ra:=
 Ck.jR Wc (Ah Yb (Ah AK Ap)) mixed Try.func67 (by kernel_rfl) (by kernel_rfl) λx h=>FU x.1 x.2.1 x.2.2.1 h
end Go.Proofs.Ytjbdmibbbpdnnaa

namespace Go.Proofs.Ytjbdmibbbpdnnaa
open Go.RowKit
theorem Lt {s q t:List Int} (h:Ha s.length t):Ci (Aa s q) t=Aa (Ci s t) q:=by
 unfold Ci Aa
 rw [List.map_map]
 refine List.map_congr_left λy hy=>?_
 obtain ⟨h1,h2⟩:=h y hy
 have hy':y.toNat<s.length:=by omega
 show Ce (s.map (Ce q)) y=Ce q (Ce s y)
 unfold Ce
 rw [Cy (by rw [List.length_map];exact hy'),List.getElem_map,Cy hy']
 try rfl
theorem jZ {n:Nat} {t:List Int} (h: ∀y∈t,0<=y/\y<(n:Int)):Ci (upto n) t=t:=by
 unfold Ci
 refine (List.map_congr_left λy hy=>?_).trans (List.map_id t)
 obtain ⟨h1,h2⟩:=h y hy
 obtain ⟨k,rfl⟩:=Int.eq_ofNat_of_zero_le h1
 have hk:k<n:=by omega
 show Ce (upto n) (k:Int)=(k:Int)
 unfold Ce
 rw [Int.toNat_natCast,List.getD_eq_getElem?_getD,oX hk]
 rfl
theorem sat_iff {goal s:List Int} :Wy goal s=true↔Ci s goal=goal:=by
 unfold Wy Ci
 rw [List.all_eq_true]
 constructor
 ·intro h
  exact (List.map_congr_left λy hy=>of_decide_eq_true (h y hy)).trans (List.map_id goal)
 ·intro h y hy
  obtain ⟨j,hj,rfl⟩:=List.mem_iff_getElem.1 hy
  have h2:(goal.map (Ce s))[j]?=goal[j]?:=congrArg (λz:List Int=>z[j]?) h
  rw [List.getElem?_map,List.getElem?_eq_getElem hj] at h2
  exact decide_eq_true (Option.some.inj h2)
theorem cA {p:PP} (hv:Ax p=true):(Ab p).getD 0 []=upto p.1.toNat/\upto p.1.toNat∈Ab p:=by
 obtain ⟨A,h⟩:=(Zj hv).first
 have h:Ab p=upto p.1.toNat::A:=h
 rw [h]
 exact ⟨rfl,by simp⟩
noncomputable def Xv (p:PP) (t:List Int):List (List Int):=(Ds p.2.2.1 t).1
noncomputable def tB (p:PP) (t:List Int):List Int:=(Ds p.2.2.1 t).2.1
noncomputable def Dz (p:PP) (t x:List Int):Int:=kZ (Xv p t) (tB p t) x
theorem dF {p:PP} {t:List Int} (ht:Dp p t=true): ∀y∈t,0<=y/\y<((p.1.toNat:Nat):Int):= λy hy=>by
 have h1:=(Fw ht).2 y hy
 have:=(valid (Kd.1 ht).1).n
 omega
theorem GG {p:PP} {t:List Int} (hw:Bl p=true) (ht:Dp p t=true):(Ds p.2.2.1 t).2.2=true:=by
 have hv:=(Cq hw).1
 have hV:=valid hv
 obtain ⟨t1,t2⟩:=Fw ht
 have Yz:=nW ht
 obtain ⟨a1,_,a3⟩:=BQ hv t1 t2 (λx=> ∃s∈Ab p,x=Ci s t) ⟨_,(cA hv).2,(jZ (dF ht)).symm⟩ λx ⟨s,hs,hx⟩ l hl=>by
  refine ⟨_,(Oq hw).next s hs l hl,?_⟩
  rw [hx,Lt (eg hv hs ht)]
 refine Classical.byContradiction λhn=>?_
 obtain ⟨h1,z,⟨s,hs,hz⟩,h3⟩:=a3 (by simpa using hn)
 have h5:=cY (l1:=z::(Ds p.2.2.1 t).1) (l2:=(Ab p).map λs=>Ci s t) (List.nodup_cons.2 ⟨h3,Yz.ok.nodup⟩) λx hx=>by
  rcases List.mem_cons.1 hx with rfl|hx
  ·exact List.mem_map.2 ⟨s,hs,hz.symm⟩
  ·obtain ⟨s',qV,e⟩:=a1 x hx
   exact List.mem_map.2 ⟨s',qV,e.symm⟩
 have h6:=oL hv
 simp only [List.length_cons,List.length_map] at h5
 omega
theorem Iv.congr {g:List (List Int)} {ls:List Int} {L:List (List Int)} {S S':List Int->Prop} {d:List Int->Int} (h:Iv g ls L S d) (e: ∀x∈L,S x↔S' x):Iv g ls L S' d:=
 ⟨h.nn,λx hx=>(h.zero x hx).trans (e x hx),h.step,h.down⟩
theorem aH {p:PP} {t:List Int} (hw:Bl p=true) (ht:Dp p t=true):ji p.2.2.1 (Ag p.2.2.1.length) (Xv p t) (tB p t):=
 fO (Cq hw).1 (Fw ht).1 (Fw ht).2 (GG hw ht)
theorem rz {p:PP} {t:List Int} (ht:Dp p t=true):(Xv p t).getD 0 []=t/\t∈Xv p t:=by
 obtain ⟨_,A,h⟩:=ss (Kd.1 ht).1 (Fw ht).1 (Fw ht).2
 have h:Xv p t=t::A:=h
 rw [h]
 exact ⟨rfl,by simp⟩
theorem tS {p:PP} {t:List Int} (hw:Bl p=true) (ht:Dp p t=true): ∀s∈Ab p,Ci s t∈Xv p t:=by
 have hv:=(Cq hw).1
 have hc:=Xu (valid hv) (nW ht) (aH hw ht)
 refine j6 hw (λs=>Ci s t∈Xv p t) (λx hx hq l hl=>?_) (cA hv).2 ?_
 ·rw [Lt (eg hv hx ht)]
  exact hc.next _ hq l hl
 ·rw [jZ (dF ht)]
  exact (rz ht).2
theorem MM {p:PP} {t:List Int} (hw:Bl p=true) (ht:Dp p t=true):
  Iv p.2.2.1 (Ag p.2.2.1.length) (Ab p) (λs=>Wy t s=true) (λs=>Dz p t (Ci s t)):=by
 have hv:=(Cq hw).1
 have hd:=cR (valid hv) (nW ht) (aH hw ht)
 have Ns:=tS hw ht
 refine ⟨λx hx=>hd.nn _ (Ns x hx),λx hx=>(hd.zero _ (Ns x hx)).trans ?_,λx hx l hl=>?_,λx hx h0=>?_⟩
 ·rw [show (Ds p.2.2.1 t).1.getD 0 []=t from (rz ht).1]
  exact sat_iff.symm
 ·rw [Lt (eg hv hx ht)]
  exact hd.step _ (Ns x hx) l hl
 ·obtain ⟨l,hl,h1⟩:=hd.down _ (Ns x hx) h0
  refine ⟨l,hl,?_⟩
  rw [Lt (eg hv hx ht)]
  exact h1
noncomputable def iG (p:PP) (goal:List Int):List Int:=lM (Fy p) (λi=>Wy goal ((Ab p).getD i [])) (Ab p).length
theorem Aak {p:PP} (hw:Bl p=true) (goal:List Int):cU (some (Ic p)) (λi=>Nc goal (some (Ic p)) (i:Int))=iG p goal:=by
 show lM (Fy p) (λi=>Wy goal ((Ab p).getD ((i:Nat):Int).toNat [])) (Ab p).length=_
 rfl
theorem XL {p:PP} {t:List Int} (ht:Dp p t=true):Wy t (upto p.1.toNat)=true:=sat_iff.2 (jZ (dF ht))
theorem m4 {p:PP} {t:List Int} (hw:Bl p=true) (ht:Dp p t=true):
  Iv p.2.2.1 (Ag p.2.2.1.length) (Ab p) (λs=>Wy t s=true) (λx=>(iG p t).getD ((Ab p).idxOf x) 0):=by
 have hv:=(Cq hw).1
 have nq:=NA hv
 refine (PQ hw (λi=>Wy t ((Ab p).getD i [])) (i0:=0) (by omega) (by rw [(cA hv).1];exact XL ht)).congr λx hx=>?_
 have h1:=List.idxOf_lt_length_of_mem hx
 rw [Cy h1,List.getElem_idxOf h1]
theorem TK {p:PP} {t:List Int} (hw:Bl p=true) (ht:Dp p t=true) {x:List Int} (hx:x∈Ab p):(iG p t).getD ((Ab p).idxOf x) 0=Dz p t (Ci x t):=
 (m4 hw ht).eq (Oq hw) (MM hw ht) hx
theorem PH {p:PP} (hw:Bl p=true) {S:List Int->Prop} {d:List Int} (hl:d.length=(Ab p).length) (h:Iv p.2.2.1 (Ag p.2.2.1.length) (Ab p) S (λx=>d.getD ((Ab p).idxOf x) 0)):yq p d:=by
 have pD:=(DJ hw).nodup
 refine ⟨hl,λi hi=>?_,λi hi h0=>?_⟩
 ·have:=h.nn _ (Jr (show i<(Ab p).length by omega))
  rwa [Jb pD (by omega)] at this
 ·have gf:i<(Ab p).length:=by omega
  obtain ⟨l,h1,h2⟩:=h.down _ (Jr gf) (by rw [Jb pD gf];exact h0)
  rw [Jb pD gf] at h2
  refine ⟨_,List.mem_map.2 ⟨l,h1,rfl⟩,?_⟩
  rw [Int.toNat_natCast,h2]
  omega
theorem JS {p:PP} (hw:Bl p=true) (t:List Int):(iG p t).length=(Ab p).length:=(TG (iO hw)).len
theorem JR {p:PP} {t:List Int} (hw:Bl p=true) (ht:Dp p t=true):yq p (iG p t):=PH hw (JS hw t) (m4 hw ht)
def gC (g:List (List Int)) (dep:List Int->Int) (ls:List Int):Nat->List Int->List Int->List Int×List Int
 |0,x,w=>(w,x)
 |n+1,x,w=>match ls.find? (λl=>decide (dep (Aa x (Af g l))=n)) with
  |some l=>gC g dep ls n (Aa x (Af g l)) (w++ [l])
  |none=>gC g dep ls n x w
theorem BY {α:Type} {P:α->Bool} : ∀(l:List α) (k:Nat) (h:k<l.length),P l[k]=true->(∀j (hj:j<k),P (l[j]'(by omega))=false)->l.find? P=some l[k]
 | [],k,h,_,_=>by simp at h
 |y::r,0,_,h1,_=>by rw [List.find?_cons_of_pos (show P y=true from h1)];rfl
 |y::r,k+1,h,h1,h2=>by
  rw [List.find?_cons_of_neg (by have:=h2 0 (by omega);simp at this;simp [this])]
  exact BY r k (by simpa using h) h1 λj hj=>h2 (j+1) (by omega)
theorem yQ {p:PP} (hw:Bl p=true) {S:List Int->Prop} {d:List Int} (QF:yq p d) (hd:Iv p.2.2.1 (Ag p.2.2.1.length) (Ab p) S (λx=>d.getD ((Ab p).idxOf x) 0))
  {see:List Int->List Int} {dep:List Int->Int} (hs: ∀x∈Ab p,∀l∈Ag p.2.2.1.length,see (Aa x (Af p.2.2.1 l))=Aa (see x) (Af p.2.2.1 l))
  (he: ∀x∈Ab p,d.getD ((Ab p).idxOf x) 0=dep (see x)):
  ∀(n i:Nat) (w:List Int),i<(Ab p).length->d.getD i 0=n->
   (Uz (Fy p) (Ag p.2.2.1.length) d n (i:Int) w).1=(gC p.2.2.1 dep (Ag p.2.2.1.length) n (see ((Ab p).getD i [])) w).1/\
   (Uz (Fy p) (Ag p.2.2.1.length) d n (i:Int) w).1.length=w.length+n/\
   ∃j:Nat,(Uz (Fy p) (Ag p.2.2.1.length) d n (i:Int) w).2=(j:Int)/\j<(Ab p).length/\d.getD j 0=0/\see ((Ab p).getD j [])=(gC p.2.2.1 dep (Ag p.2.2.1.length) n (see ((Ab p).getD i [])) w).2
 |0,i,w,hi,e=>⟨rfl,rfl,i,rfl,hi,e,rfl⟩
 |n+1,i,w,hi,e=>by
  have pD:=(DJ hw).nodup
  have hl:=QF.len
  have nq:0<d.getD i 0:=by omega
  have hg:Ce d (i:Int)=d.getD i 0:=by unfold Ce;rw [Int.toNat_natCast]
  obtain ⟨t0,QU,htl⟩:=QF.dn i (by omega) nq
  have VR:(Fy p i).any (λy=>decide (Ce d y<Ce d (i:Int)))=true:=List.any_eq_true.2 ⟨t0,QU,decide_eq_true htl⟩
  obtain ⟨k,hk,k1,k2,k3⟩:=jI (Fy p i) 0 VR
  have k1:Bx (λy=>decide (Ce d y<Ce d (i:Int))) (Fy p i) 0=(k:Int):=by rw [Nat.zero_add] at k1;exact k1
  have Iz:k<(Ag p.2.2.1.length).length:=by rw [<-nL p i];exact hk
  have hx:=Jr (L:=Ab p) hi
  have ZQ: ∀j (hj:j<(Ag p.2.2.1.length).length),∃h2:j<(Fy p i).length,(Fy p i)[j]=(((Ab p).idxOf (Aa ((Ab p).getD i []) (Af p.2.2.1 (Ag p.2.2.1.length)[j])):Nat):Int):= λj hj=>
   ⟨by rw [nL];exact hj,by simp only [Fy,rj,List.getElem_map]⟩
  have lL: ∀j (hj:j<(Ag p.2.2.1.length).length) (h2:j<(Fy p i).length),decide (Ce d (Fy p i)[j]<Ce d (i:Int))=decide (dep (Aa (see ((Ab p).getD i [])) (Af p.2.2.1 (Ag p.2.2.1.length)[j]))=n):= λj hj h2=>by
   obtain ⟨_,h3⟩:=ZQ j hj
   have z8:=List.getElem_mem hj
   have h4:=hd.FK (Oq hw) hx z8
   rw [Jb pD hi] at h4
   have h5:=he _ ((Oq hw).next _ hx _ z8)
   rw [hs _ hx _ z8] at h5
   rw [h3,hg,<-h5]
   unfold Ce
   rw [Int.toNat_natCast,Bool.eq_iff_iff,decide_eq_true_iff,decide_eq_true_iff]
   omega
  have CI:(Ag p.2.2.1.length).find? (λl=>decide (dep (Aa (see ((Ab p).getD i [])) (Af p.2.2.1 l))=n))=some (Ag p.2.2.1.length)[k]:=by
   refine BY _ k Iz ?_ λj hj=>?_
   ·rw [<-lL k Iz hk];exact k2
   ·rw [<-lL j (by omega) (by omega)];exact k3 j hj
  obtain ⟨_,hkn⟩:=ZQ k Iz
  have z8:=List.getElem_mem Iz
  obtain ⟨n1,n2⟩:=zz hw hi z8
  have gb:Ce d (i:Int)>0:=by rw [hg];exact nq
  simp only [Uz,gC]
  rw [if_pos gb,Int.toNat_natCast,k1,Int.toNat_natCast,Cy hk,hkn,Cy Iz,CI]
  dsimp only
  have hdk:d.getD ((Ab p).idxOf (Aa ((Ab p).getD i []) (Af p.2.2.1 (Ag p.2.2.1.length)[k]))) 0=n:=by
   have h6:=of_decide_eq_true ((lL k Iz hk).symm.trans k2)
   rw [he _ ((Oq hw).next _ hx _ z8),hs _ hx _ z8]
   exact h6
  obtain ⟨r1,r2,r3⟩:=yQ hw QF hd hs he n _ (w++ [(Ag p.2.2.1.length)[k]]) n1 hdk
  rw [n2,hs _ hx _ z8] at r1 r3
  refine ⟨r1,?_,r3⟩
  rw [r2,List.length_append,List.length_singleton]
  omega
end Go.Proofs.Ytjbdmibbbpdnnaa

namespace Go.Proofs.Ytjbdmibbbpdnnaa
open Go.RowKit
noncomputable abbrev Ok:Spec:=Cz (.pair Xh (.pair tL .unit)) tI false true (λx=>Cx (List.length x.2.1) x.1.1 x.1.2.2.1/\List.length x.1.2.1=List.length x.1.1) (λx=>kZ x.1.1 x.1.2.1 x.2.1)
noncomputable def Fp (p:PP) (goal s:List Int):List Int:=(gC p.2.2.1 (Dz p goal) (Ag p.2.2.1.length) (Dz p goal (Ci s goal)).toNat (Ci s goal) []).1
noncomputable abbrev Vx:Spec:=Cz (.pair Dl (.pair tL (.pair tL .unit))) tL false true (λx=>Dn x.1/\Dp x.1 x.2.1=true/\Bl x.1=true/\x.2.2.1∈Ab x.1) (λx=>Fp x.1 x.2.1 x.2.2.1)
theorem HU (f:List (List Int)×List Int×List Int×Bool×Unit) (s:List Int) (P:Int->Prop):(∃(y3:Int),Kr.fn ((f.1,f.2.1,f.2.2.1,f.2.2.2.1,()),s,())=some y3/\Br (decide (y3<(0:Int))) (P (-1:Int)) (∃(y4:Int),idx f.2.1 y3=some y4/\P y4))=fnW Cr (look [(54,Kr)]) Ok Try.f114 (f,s,()) P:=by kernel_rfl
abbrev eA:Type:=List Int×Int×Int×ByteArray×List (List Int)×List (List Int)×List Int×List Int×Bool×List Int×PUnit
theorem OD (p:Int×ByteArray×List (List Int)×Unit) (goal s:List Int) (P:List Int->Prop):(∃(y4:List (List Int)×List Int×List Int×Bool×PUnit),De.fn ((p.1,p.2.1,p.2.2.1,()),goal,())=some y4/\ ∃(y5:List Int),It.fn ((p.1,p.2.1,p.2.2.1,()),())=some y5/\ ∃(y6:List Int),Up.fn (goal,s,())=some y6/\ ∃(y7:Int),Ok.fn ((y4.1,y4.2.1,y4.2.2.1,y4.2.2.2.1,()),y6,())=some y7/\0=0/\0=([]:List Int).length/\Bk (λ(v8:eA) (k9:eA->Prop)=>Br (decide (v8.2.1>(0:Int))) (0=0/\v8.2.2.2.2.2.2.2.2.2.1.length=v8.2.2.2.2.2.2.2.2.2.1.length/\Bk (λ(v10:eA) (k11:eA->Prop)=>Br (decide (v10.2.1<(↑y5.length:Int))) (∃(Yg:Int),idx y5 v10.2.1=some Yg/\ ∃(Wj:List Int),Kp.fn ((v10.2.2.1,v10.2.2.2.1,v10.2.2.2.2.1,()),v10.1,Yg,())=some Wj/\ ∃(Zu:Int),Ok.fn ((v10.2.2.2.2.2.1,v10.2.2.2.2.2.2.1,v10.2.2.2.2.2.2.2.1,v10.2.2.2.2.2.2.2.2.1,()),Wj,())=some Zu/\Br (Zu==IntKind.i64.wrap (v8.2.1-(1:Int))) (∃(dO:Int),idx y5 v10.2.1=some dO/\0=0/\v10.2.2.2.2.2.2.2.2.2.1.length=v10.2.2.2.2.2.2.2.2.2.1.length/\v10.2.2.2.2.2.2.2.2.2.1.length+(List.take 1 (List.drop 0 [dO])).length<=Bp/\0=0/\(v10.2.2.2.2.2.2.2.2.2.1++List.take 1 (List.drop 0 [dO])).length=(v10.2.2.2.2.2.2.2.2.2.1++List.take 1 (List.drop 0 [dO])).length/\k9 (Wj,IntKind.i64.wrap (v8.2.1-(1:Int)),v10.2.2.1,v10.2.2.2.1,v10.2.2.2.2.1,v10.2.2.2.2.2.1,v10.2.2.2.2.2.2.1,v10.2.2.2.2.2.2.2.1,v10.2.2.2.2.2.2.2.2.1,v10.2.2.2.2.2.2.2.2.2.1++List.take 1 (List.drop 0 [dO]),())) (0=0/\v10.2.2.2.2.2.2.2.2.2.1.length=v10.2.2.2.2.2.2.2.2.2.1.length/\k11 (v10.1,IntKind.i64.wrap (v10.2.1+(1:Int)),v10.2.2.1,v10.2.2.2.1,v10.2.2.2.2.1,v10.2.2.2.2.2.1,v10.2.2.2.2.2.2.1,v10.2.2.2.2.2.2.2.1,v10.2.2.2.2.2.2.2.2.1,v10.2.2.2.2.2.2.2.2.2.1,()))) (0=0/\v10.2.2.2.2.2.2.2.2.2.1.length=v10.2.2.2.2.2.2.2.2.2.1.length/\k9 (v10.1,IntKind.i64.wrap (v8.2.1-(1:Int)),v10.2.2.1,v10.2.2.2.1,v10.2.2.2.2.1,v10.2.2.2.2.2.1,v10.2.2.2.2.2.2.1,v10.2.2.2.2.2.2.2.1,v10.2.2.2.2.2.2.2.2.1,v10.2.2.2.2.2.2.2.2.2.1,()))) (v8.1,(0:Int),v8.2.2.1,v8.2.2.2.1,v8.2.2.2.2.1,v8.2.2.2.2.2.1,v8.2.2.2.2.2.2.1,v8.2.2.2.2.2.2.2.1,v8.2.2.2.2.2.2.2.2.1,v8.2.2.2.2.2.2.2.2.2.1,PUnit.unit)) (P (List.take v8.2.2.2.2.2.2.2.2.2.1.length (List.drop 0 v8.2.2.2.2.2.2.2.2.2.1)))) (y6,y7,p.1,p.2.1,p.2.2.1,y4.1,y4.2.1,y4.2.2.1,y4.2.2.2.1,[],PUnit.unit))=fnW Cr (look [(112,De),(96,It),(113,Up),(114,Ok),(115,Kp)]) Vx Try.f64 (p,goal,s,()) P:=by kernel_rfl
theorem FT (f:SS) (s:List Int) (h:Cx (List.length s) f.1 f.2.2.1/\List.length f.2.1=List.length f.1):fnW Cr (look [(54,Kr)]) Ok Try.f114 (f,s,()) (λ(z:Int)=>z=kZ f.1 f.2.1 s):=by
 obtain ⟨h1,h2⟩:=h
 refine Eq.mp (HU f s _) ⟨_,if_pos h1,?_⟩
 show Br (decide (bz f.1 s<0)) _ _
 unfold bz kZ
 by_cases hm:s∈f.1
 ·have hl:=List.idxOf_lt_length_of_mem hm
  rw [if_pos hm,if_pos hm]
  refine Br.dec (λhn=>absurd hn (by omega)) λ_=>?_
  have IP:List.idxOf s f.1<f.2.1.length:=by omega
  refine ⟨f.2.1[List.idxOf s f.1],?_,by rw [Cy IP]⟩
  show idx f.2.1 (if s∈f.1 then ((List.idxOf s f.1:Nat):Int) else-1)=_
  rw [if_pos hm]
  exact Aq IP
 ·rw [if_neg hm,if_neg hm]
  exact ⟨λ_=>rfl,λhn=>by simp at hn⟩
theorem qa:Sound Try.prog 114 Ok:=
 Sound.Cz Bo (Ah aV Ap) mixed Try.func114 (by kernel_rfl) (by kernel_rfl) λx h=>FT x.1 x.2.1 h
theorem jY {p:PP} {goal:List Int} (hw:Bl p=true) (ht:Dp p goal=true) {x:List Int} (hx:x∈Xv p goal):0<=Dz p goal x/\Dz p goal x<=3000:=by
 have Yz:=nW ht
 have wj:=Yz.ok.pb
 refine ⟨(cR (valid (Cq hw).1) Yz (aH hw ht)).nn x hx,?_⟩
 obtain ⟨i,hi,rfl⟩:=List.mem_iff_getElem.1 hx
 have hiD:i<(Ds p.2.2.1 goal).2.1.length:=by rw [Yz.len];exact hi
 have h1:=Yz.dep i hiD
 have h2:Dz p goal ((Xv p goal)[i])=(tB p goal).getD i 0:=by
  rw [<-Cy (d:= []) hi];exact fT Yz.ok.nodup hi
 have h3:(tB p goal).getD i 0=(Ds p.2.2.1 goal).2.1[i]:=Cy hiD
 rw [h2,h3]
 have:i<(Ds p.2.2.1 goal).1.length:=hi
 omega
theorem MI (p:PP) (goal s:List Int) (h:Dn p/\Dp p goal=true/\Bl p=true/\s∈Ab p):fnW Cr (look [(112,De),(96,It),(113,Up),(114,Ok),(115,Kp)]) Vx Try.f64 (p,goal,s,()) (λ(z:List Int)=>z=Fp p goal s):=by
 obtain ⟨hp,ht,hw,hs⟩:=h
 have hv:=(Cq hw).1
 have hV:=valid hv
 have hn:=hV.n
 obtain ⟨t1,t2⟩:=Fw ht
 have Yz:=nW ht
 have wj:=Yz.ok.pb
 have Abe:=aH hw ht
 have hc:=Xu hV Yz Abe
 have hd:=cR hV Yz Abe
 have QX:=tS hw ht s hs
 obtain ⟨ls,kT⟩: ∃ls,Ag p.2.2.1.length=ls:=⟨_,rfl⟩
 have jG: ∀l∈ls,Es (List.length p.2.2.1) l:= λl hl=>Iq (kT▸hl)
 have IL: ∀x,kZ (Ds p.2.2.1 goal).1 (Ds p.2.2.1 goal).2.1 x=Dz p goal x:= λx=>rfl
 rw [kT] at hc hd
 have hdo: ∀x:List Int,x.length=goal.length->Ok.fn (((Dh p.2.2.1 goal).1,(Dh p.2.2.1 goal).2.1,(Dh p.2.2.1 goal).2.2.1,(Dh p.2.2.1 goal).2.2.2.1,()),x,())=some (Dz p goal x):= λx hx=>
  if_pos ⟨by show Cx x.length (Ds p.2.2.1 goal).1 (Tl (Ds p.2.2.1 goal).1);rw [hx];exact Yz.ok,Yz.len⟩
 have e8:(Ci s goal).length=goal.length:=xo _ _
 have hlf:=cQ hV
 rw [kT] at hlf
 have Agk:= λx hx=>jY hw ht (x:=x) hx
 unfold Fp
 rw [kT]
 refine Eq.mp (OD p goal s _) ⟨Dh p.2.2.1 goal,if_pos ⟨hv,t1,t2⟩,ls,(if_pos hV.pb.2).trans (congrArg some kT),Ci s goal,if_pos ⟨by show short goal;unfold short;omega,eg hv hs ht⟩,_,hdo _ e8,rfl,rfl,?_⟩
 obtain ⟨R,hR⟩: ∃R,gC p.2.2.1 (Dz p goal) ls (Dz p goal (Ci s goal)).toNat (Ci s goal) []=R:=⟨_,rfl⟩
 rw [hR]
 have hd0:=Agk _ QX
 obtain ⟨n0,ZY⟩:=Int.eq_ofNat_of_zero_le hd0.1
 rw [ZY] at hR hd0⊢
 rw [Int.toNat_natCast] at hR
 refine Bk.mk (λv=> ∃(x:List Int) (n:Nat) (w:List Int),v=(x,(n:Int),p.1,p.2.1,p.2.2.1,(Dh p.2.2.1 goal).1,(Dh p.2.2.1 goal).2.1,(Dh p.2.2.1 goal).2.2.1,(Dh p.2.2.1 goal).2.2.2.1,w,())/\x∈Xv p goal/\Dz p goal x=n/\w.length+n<=3000/\gC p.2.2.1 (Dz p goal) ls n x w=R) (λv=>v.2.1.toNat)
  ⟨Ci s goal,n0,[],rfl,QX,ZY,by simp only [List.length_nil];omega,hR⟩ ?_
 rintro v ⟨x,n,w,rfl,g1,g2,g3,g4⟩
 dsimp only
 refine Br.dec (λhl=>⟨rfl,rfl,?_⟩) λhl=>?_
 ·obtain ⟨n,rfl⟩: ∃n',n=n'+1:=⟨n-1,by omega⟩
  simp only [gC] at g4
  have QY:x.length=goal.length:=Yz.ok.len x g1
  have OW: ∀y∈x,0<=y/\y<p.1:=Yz.row x g1
  have hwr:IntKind.i64.wrap (((n+1:Nat):Int)-1)=(n:Int):=by rw [Bu (by omega) (by omega)];omega
  rw [hwr]
  refine Aj ls.length (λv=>v.2.1) (λi v=>v=(x,(i:Int),p.1,p.2.1,p.2.2.1,(Dh p.2.2.1 goal).1,(Dh p.2.2.1 goal).2.1,(Dh p.2.2.1 goal).2.2.1,(Dh p.2.2.1 goal).2.2.2.1,w,())/\
   (ls.drop i).find? (λl=>decide (Dz p goal (Aa x (Af p.2.2.1 l))=n))=ls.find? (λl=>decide (Dz p goal (Aa x (Af p.2.2.1 l))=n))) rfl ⟨rfl,by rw [List.drop_zero]⟩ ?_
  rintro i v K hi hii ⟨rfl,hf⟩ hK
  dsimp only
  refine Br.dec (λOQ=>?_) λOQ=>?_
  ·have OQ:i<ls.length:=by omega
   have z8:=List.getElem_mem OQ
   have sR:=jG _ z8
   obtain ⟨nl,nr⟩:=me hV OW sR
   have hnx:=hc.next x g1 _ z8
   rw [List.drop_eq_getElem_cons OQ] at hf
   refine ⟨_,Aq OQ,_,if_pos ⟨hv,by show x.length<=20;omega,OW,sR⟩,_,hdo _ (by rw [<-QY];exact nl),Br.of (λhb=>?_) λhb=>?_⟩
   ·have hb:Dz p goal (Aa x (Af p.2.2.1 ls[i]))=n:=by simpa using hb
    rw [List.find?_cons_of_pos (by simpa using hb)] at hf
    rw [<-hf] at g4
    refine ⟨_,Aq OQ,rfl,rfl,?_,rfl,rfl,⟨_,n,w++ [ls[i]],rfl,hnx,hb,by rw [List.length_append,List.length_singleton];omega,g4⟩,?_⟩
    ·show w.length+1<=4294967296;omega
    ·show ((n:Int)).toNat<(((n+1:Nat):Int)).toNat
     omega
   ·have hb: ¬Dz p goal (Aa x (Af p.2.2.1 ls[i]))=n:=by simpa using hb
    rw [List.find?_cons_of_neg (by simpa using hb)] at hf
    refine ⟨rfl,rfl,?_⟩
    rw [Al (by omega)]
    exact hK OQ _ rfl ⟨rfl,hf⟩
  ·have:i=ls.length:=by omega
   subst this
   rw [List.drop_length,List.find?_nil] at hf
   obtain ⟨l,z8,hle⟩:=hd.down x g1 (by rw [IL,g2];omega)
   have:=List.find?_eq_none.1 hf.symm l z8
   rw [IL,IL,g2] at hle
   exact absurd (decide_eq_true (by rw [hle];omega)) this
 ·rw [Bi]
  have:n=0:=by omega
  subst this
  rw [<-g4]
  rfl
theorem um:Sound Try.prog 64 Vx:=
 Sound.Cz Bo (Ah lp (Ah bG (Ah qh (Ah qa (Ah aU Ap))))) mixed Try.func64 (by kernel_rfl) (by kernel_rfl) λx h=>MI x.1 x.2.1 x.2.2.1 h
theorem ky {p:PP} {goal s:List Int} (hw:Bl p=true) (ht:Dp p goal=true) (hs:s∈Ab p):
  (Fp p goal s).length=(Dz p goal (Ci s goal)).toNat/\(Fp p goal s).length<=3000/\
  (Ce (iG p goal) (Qb p s).1=Dz p goal (Ci s goal))/\(Uz (Fy p) (Ag p.2.2.1.length) (iG p goal) (Dz p goal (Ci s goal)).toNat (Qb p s).1 []).1=Fp p goal s:=by
 have hv:=(Cq hw).1
 have hb:=jY hw ht (tS hw ht s hs)
 have he:=TK hw ht hs
 have hi:=List.idxOf_lt_length_of_mem hs
 have QK:(Qb p s).1=(((Ab p).idxOf s:Nat):Int):=by unfold Qb;rw [if_pos hs]
 have hsi:(Ab p).getD ((Ab p).idxOf s) []=s:=by rw [Cy hi];exact List.getElem_idxOf hi
 obtain ⟨r1,r2,_⟩:=yQ hw (JR hw ht) (m4 hw ht) (see:= λx=>Ci x goal) (dep:=Dz p goal) (λx hx l _=>Lt (eg hv hx ht)) (λx hx=>TK hw ht hx)
  (Dz p goal (Ci s goal)).toNat ((Ab p).idxOf s) [] hi (by rw [he];omega)
 rw [hsi] at r1
 have r1:_=Fp p goal s:=r1
 rw [r1] at r2
 simp only [List.length_nil,Nat.zero_add] at r2
 refine ⟨r2,by omega,?_,by rw [QK];exact r1⟩
 rw [QK,<-he]
 unfold Ce
 rw [Int.toNat_natCast]
end Go.Proofs.Ytjbdmibbbpdnnaa

namespace Go.Proofs.Ytjbdmibbbpdnnaa
open Go.RowKit
theorem gD {g:List (List Int)} {dep:List Int->Int} {ls:List Int} : ∀(n:Nat) (x w:List Int),(∀l∈w,l∈ls)-> ∀l∈(gC g dep ls n x w).1,l∈ls
 |0,x,w,h=>h
 |n+1,x,w,h=>by
  simp only [gC]
  split
  ·rename_i l hf
   refine gD n _ _ λl' hl=>?_
   rcases List.mem_append.1 hl with h2|h2
   ·exact h l' h2
   ·rw [List.mem_singleton.1 h2];exact List.mem_of_find?_eq_some hf
  ·exact gD n x w h
end Go.Proofs.Ytjbdmibbbpdnnaa

namespace Go.Proofs.Ytjbdmibbbpdnnaa
open Go.RowKit
noncomputable abbrev Ui:Spec:=Cz (.pair Dl (.pair tL (.pair tL .unit))) tL false false (λx=>Ax x.1=true/\Pm x.1.1.toNat x.2.1/\short x.2.2.1/\ ∀l∈x.2.2.1,Es (List.length x.1.2.2.1) l) (λx=>Io x.1.2.2.1 x.2.1 x.2.2.1)
noncomputable def Et (p:PP):List (List Int)->List Int->List (List Int)
 | [],_=> []
 |goal::gs,s=>Fp p goal s::Et p gs (Io p.2.2.1 s (Fp p goal s))
def Zx (p:PP) (gs:List (List Int)):Prop:=gs.length<=5/\ ∀g∈gs,Dp p g=true
noncomputable abbrev Vy:Spec:=Cz (.pair Dl (.pair bL (.pair tL .unit))) bL false true (λx=>Dn x.1/\Zx x.1 x.2.1/\Bl x.1=true/\x.2.2.1∈Ab x.1) (λx=>Et x.1 x.2.1 x.2.2.1)
def cV (ws:List (List Int)):Bool:=List.all ws λw=>decide (w.length<=200)
noncomputable abbrev kf:Spec:=Cz (.pair bL .unit) .bool false true (λx=>Cd x.1) (λx=>cV x.1)
noncomputable def Gb (p:PP) (gs:List (List Int)) (s:List Int):List (List Int)×Bool×Unit:=
 if (Ni p s&&Jd p gs)=true then (if cV (Et p gs s)=true then (Et p gs s,true,()) else ([],false,())) else ([],false,())
noncomputable abbrev Rf:Spec:=Cz (.pair Dl (.pair bL (.pair tL .unit))) (.pair bL (.pair .bool .unit)) true false (λx=>Dn x.1/\Cd x.2.1/\short x.2.2.1) (λx=>Gb x.1 x.2.1 x.2.2.1)
abbrev oR:Type:=List Int×Int×Int×ByteArray×List (List Int)×PUnit
theorem HT (p:Int×ByteArray×List (List Int)×Unit) (s w:List Int) (P:List Int->Prop):(∃(y4:List Int),Kk.fn (s,())=some y4/\Bk (λ(v5:oR) (k6:oR->Prop)=>Br (decide (v5.2.1<(↑w.length:Int))) (∃(y7:Int),idx w v5.2.1=some y7/\ ∃(y8:List Int),Kp.fn ((v5.2.2.1,v5.2.2.2.1,v5.2.2.2.2.1,()),v5.1,y7,())=some y8/\k6 (y8,IntKind.i64.wrap (v5.2.1+(1:Int)),v5.2.2.1,v5.2.2.2.1,v5.2.2.2.2.1,())) (P v5.1)) (y4,(0:Int),p.1,p.2.1,p.2.2.1,PUnit.unit))=fnW Cr (look [(123,Kk),(115,Kp)]) Ui Try.f73 (p,s,w,()) P:=by kernel_rfl
abbrev s8:Type:=List Int×Int×Int×ByteArray×List (List Int)×List (List Int)×PUnit
theorem OE (p:Int×ByteArray×List (List Int)×Unit) (gs:List (List Int)) (s:List Int) (P:List (List Int)->Prop):(0=0/\0=([]:List Int).length/\Bk (λ(v4:s8) (k5:s8->Prop)=>Br (decide (v4.2.1<(↑gs.length:Int))) (∃(y6:List Int),idx gs v4.2.1=some y6/\ ∃(y7:List Int),Vx.fn ((v4.2.2.1,v4.2.2.2.1,v4.2.2.2.2.1,()),y6,v4.1,())=some y7/\0=0/\v4.2.2.2.2.2.1.length=v4.2.2.2.2.2.1.length/\v4.2.2.2.2.2.1.length+(List.take 1 (List.drop 0 [y7])).length<=Bp/\ ∃(y8:List Int),Ui.fn ((v4.2.2.1,v4.2.2.2.1,v4.2.2.2.2.1,()),v4.1,y7,())=some y8/\0=0/\(v4.2.2.2.2.2.1++List.take 1 (List.drop 0 [y7])).length=(v4.2.2.2.2.2.1++List.take 1 (List.drop 0 [y7])).length/\k5 (y8,IntKind.i64.wrap (v4.2.1+(1:Int)),v4.2.2.1,v4.2.2.2.1,v4.2.2.2.2.1,v4.2.2.2.2.2.1++List.take 1 (List.drop 0 [y7]),())) (P (List.take v4.2.2.2.2.2.1.length (List.drop 0 v4.2.2.2.2.2.1)))) (s,(0:Int),p.1,p.2.1,p.2.2.1,[],PUnit.unit))=fnW Cr (look [(64,Vx),(73,Ui)]) Vy Try.f77 (p,gs,s,()) P:=by kernel_rfl
theorem ZB (ws:List (List Int)) (P:Bool->Prop):(Bk (λ(v2:Int×PUnit) (k3:Int×PUnit->Prop)=>Br (decide (v2.1<(↑ws.length:Int))) (∃(y4:List Int),idx ws v2.1=some y4/\Br (decide ((↑y4.length:Int)>(200:Int))) (P false) (k3 (IntKind.i64.wrap (v2.1+(1:Int)),()))) (P true)) ((0:Int),PUnit.unit))=fnW Cr (look []) kf Try.f78 (ws,()) P:=by kernel_rfl
theorem BD (p:Int×ByteArray×List (List Int)×Unit) (gs:List (List Int)) (s:List Int) (P:(List (List Int)×Bool×Unit)->Prop):(∃(y4:Bool),Gx.fn ((p.1,p.2.1,p.2.2.1,()),gs,())=some y4/\Br (!y4) (P (List.take 0 (List.drop 0 []),false,())) (∃(y5:Bool),Mf.fn ((p.1,p.2.1,p.2.2.1,()),s,())=some y5/\Br (!y5) (P (List.take 0 (List.drop 0 []),false,())) (∃(y6:List (List Int)),Vy.fn ((p.1,p.2.1,p.2.2.1,()),gs,s,())=some y6/\ ∃(y7:Bool),kf.fn (y6,())=some y7/\Br (!y7) (P (List.take 0 (List.drop 0 []),false,())) (P (y6,true,())))))=fnW Cr (look [(76,Gx),(63,Mf),(77,Vy),(78,kf)]) Rf Try.f39 (p,gs,s,()) P:=by kernel_rfl
theorem FR (p:PP) (s w:List Int) (h:Ax p=true/\Pm p.1.toNat s/\short w/\ ∀l∈w,Es (List.length p.2.2.1) l):fnW Cr (look [(123,Kk),(115,Kp)]) Ui Try.f73 (p,s,w,()) (λ(z:List Int)=>z=Io p.2.2.1 s w):=by
 obtain ⟨hv,hs,w1,w2⟩:=h
 have hV:=valid hv
 have w1:w.length<=4294967296:=w1
 refine Eq.mp (HT p s w _) ⟨_,if_pos (xp hs),?_⟩
 refine Aj w.length (λv=>v.2.1) (λj v=>v=(Io p.2.2.1 s (w.take j),(j:Int),p.1,p.2.1,p.2.2.1,())) rfl rfl ?_
 rintro j v K hj hi hR hK
 subst hR
 dsimp only
 have hq:=vu hV (w.take j) _ (λl hl=>w2 l (List.mem_of_mem_take hl)) hs
 refine Br.dec (λhl=>?_) λhl=>?_
 ·have hl:j<w.length:=by omega
  have sR:=w2 _ (List.getElem_mem hl)
  refine ⟨_,Aq hl,_,if_pos ⟨hv,YL hq,MN hV hq,sR⟩,?_⟩
  rw [Al (by omega)]
  refine hK hl _ rfl ?_
  rw [yy hl]
 ·have:j=w.length:=by omega
  subst this
  rw [List.take_length]
theorem q9:Sound Try.prog 73 Ui:=
 Sound.Cz Bo (Ah dx (Ah aU Ap)) mixed Try.func73 (by kernel_rfl) (by kernel_rfl) λx h=>FR x.1 x.2.1 x.2.2.1 h
theorem oK {g:List (List Int)} {dep:List Int->Int} {ls:List Int} : ∀(n:Nat) (x w:List Int),∃u,(gC g dep ls n x w).1=w++u/\(gC g dep ls n x w).2=Io g x u
 |0,x,w=>⟨[],by simp [gC],rfl⟩
 |n+1,x,w=>by
  simp only [gC]
  split
  ·rename_i l _
   obtain ⟨u,h1,h2⟩:=oK (g:=g) (dep:=dep) (ls:=ls) n (Aa x (Af g l)) (w++ [l])
   exact ⟨l::u,by rw [h1,List.append_assoc];rfl,h2⟩
  ·exact oK n x w
theorem mY {p:PP} {gs:List (List Int)} (h:Jd p gs=true):Zx p gs:=by
 obtain ⟨h1,h2,_,_⟩:=Fm.1 h
 refine ⟨h2.2,λg hg=>?_⟩
 obtain ⟨j,hj,rfl⟩:=List.mem_iff_getElem.1 hg
 exact Kd.2 ⟨h1,wW h hj⟩
theorem Zx.take {p:PP} {gs:List (List Int)} (h:Zx p gs) (j:Nat):Zx p (gs.take j):=⟨by rw [List.length_take];have:=h.1;omega,λg hg=>h.2 g (List.mem_of_mem_take hg)⟩
theorem PN {p:PP} (hw:Bl p=true) {S:List Int->Prop} {d:List Int} (QF:yq p d) (hd:Iv p.2.2.1 (Ag p.2.2.1.length) (Ab p) S (λx=>d.getD ((Ab p).idxOf x) 0)) {i n:Nat} (hi:i<(Ab p).length) (hn:d.getD i 0=n):
  ∃j:Nat,(Uz (Fy p) (Ag p.2.2.1.length) d n (i:Int) []).2=(j:Int)/\j<(Ab p).length/\(Ab p).getD j []=Io p.2.2.1 ((Ab p).getD i []) (Uz (Fy p) (Ag p.2.2.1.length) d n (i:Int) []).1:=by
 obtain ⟨e1,_,j,e3,e4,_,e6⟩:=yQ hw QF hd (see:= λx=>x) (dep:= λx=>d.getD ((Ab p).idxOf x) 0) (λ_ _ _ _=>rfl) (λ_ _=>rfl) n i [] hi hn
 obtain ⟨u,u1,u2⟩:=oK (g:=p.2.2.1) (dep:= λx=>d.getD ((Ab p).idxOf x) 0) (ls:=Ag p.2.2.1.length) n ((Ab p).getD i []) []
 refine ⟨j,e3,e4,?_⟩
 rw [e1,u1]
 exact e6.trans u2
theorem kz {p:PP} {goal s:List Int} (hw:Bl p=true) (ht:Dp p goal=true) (hs:s∈Ab p):
  Io p.2.2.1 s (Fp p goal s)∈Ab p/\(∀l∈Fp p goal s,Es (List.length p.2.2.1) l)/\
  Ug p (iG p goal) (Qb p s).1=(if (Fp p goal s).length>200 then ([],0,false,()) else (Fp p goal s,(Qb p (Io p.2.2.1 s (Fp p goal s))).1,true,())):=by
 obtain ⟨a1,a2,a3,a4⟩:=ky hw ht hs
 have hb:=jY hw ht (tS hw ht s hs)
 obtain ⟨n,hn⟩:=Int.eq_ofNat_of_zero_le hb.1
 have hi:=List.idxOf_lt_length_of_mem hs
 have QK:(Qb p s).1=(((Ab p).idxOf s:Nat):Int):=by unfold Qb;rw [if_pos hs]
 rw [hn] at a1 a3 a4
 rw [QK] at a3 a4
 rw [Int.toNat_natCast] at a1 a4
 have a3':(iG p goal).getD ((Ab p).idxOf s) 0=n:=by
  have h:=a3
  unfold Ce at h
  rwa [Int.toNat_natCast] at h
 obtain ⟨j,e1,e2,e3⟩:=PN hw (JR hw ht) (m4 hw ht) hi a3'
 rw [a4,Cy hi,List.getElem_idxOf hi] at e3
 have hm:Io p.2.2.1 s (Fp p goal s)∈Ab p:=by rw [<-e3];exact Jr e2
 have hj:(Qb p (Io p.2.2.1 s (Fp p goal s))).1=(j:Int):=by
  unfold Qb
  rw [if_pos hm,<-e3]
  show ((List.idxOf ((Ab p).getD j []) (Ab p):Nat):Int)=j
  rw [Jb (DJ hw).nodup e2]
 refine ⟨hm,λl hl=>?_,?_⟩
 ·refine Iq (gD (g:=p.2.2.1) (dep:=Dz p goal) (ls:=Ag p.2.2.1.length) (Dz p goal (Ci s goal)).toNat (Ci s goal) [] (by simp) l ?_)
  exact hl
 ·unfold Ug
  rw [QK,a3,Int.toNat_natCast,a4,e1,hj,a1]
  by_cases hc:n>200
  ·rw [if_pos (by omega),if_pos hc]
  ·rw [if_neg (by omega),if_neg hc]
theorem gE {p:PP} (hw:Bl p=true): ∀(gs:List (List Int)) (s:List Int),(∀g∈gs,Dp p g=true)->s∈Ab p->(Et p gs s).length=gs.length/\ ∀w∈Et p gs s,w.length<=3000
 | [],_,_,_=>⟨rfl,λw hw=>by cases hw⟩
 |g::gs,s,hg,hs=>by
  have ht:=hg g (by simp)
  obtain ⟨h1,h2⟩:=gE hw gs _ (λg' h=>hg g' (List.mem_cons_of_mem _ h)) (kz hw ht hs).1
  refine ⟨by simp only [Et,List.length_cons,h1],λw KR=>?_⟩
  simp only [Et,List.mem_cons] at KR
  rcases KR with rfl|KR
  ·exact (ky hw ht hs).2.1
  ·exact h2 w KR
theorem j7 {p:PP} {gs:List (List Int)} {s:List Int} (hg:Zx p gs) (hw:Bl p=true) (hs:s∈Ab p):Cd (Et p gs s):=by
 obtain ⟨h1,h2⟩:=gE hw gs s hg.2 hs
 have:=hg.1
 exact ⟨by omega,λr hr=>by have:=h2 r hr;unfold short;omega⟩
theorem MJ (p:PP) (gs:List (List Int)) (s:List Int) (h:Dn p/\Zx p gs/\Bl p=true/\s∈Ab p):fnW Cr (look [(64,Vx),(73,Ui)]) Vy Try.f77 (p,gs,s,()) (λ(z:List (List Int))=>z=Et p gs s):=by
 obtain ⟨hp,hg,hw,hs⟩:=h
 have hv:=(Cq hw).1
 have hl5:=hg.1
 obtain ⟨R,hR⟩: ∃R,Et p gs s=R:=⟨_,rfl⟩
 rw [hR]
 refine Eq.mp (OE p gs s _) ⟨rfl,rfl,?_⟩
 refine Aj gs.length (λv=>v.2.1) (λj v=> ∃x out,v=(x,(j:Int),p.1,p.2.1,p.2.2.1,out,())/\x∈Ab p/\out.length=j/\out++Et p (gs.drop j) x=R) rfl ⟨s,[],rfl,hs,rfl,by rw [List.drop_zero];exact hR⟩ ?_
 rintro j v K hj hi ⟨x,out,rfl,hx,ho,he⟩ hK
 dsimp only
 refine Br.dec (λhl=>?_) λhl=>?_
 ·have hl:j<gs.length:=by omega
  have ht:=hg.2 _ (List.getElem_mem hl)
  obtain ⟨e1,e2,e3⟩:=kz hw ht hx
  have e4:=(ky hw ht hx).2.1
  rw [List.drop_eq_getElem_cons hl] at he
  simp only [Et] at he
  have Ph:Vx.fn (p,gs[j],x,())=some (Fp p gs[j] x):=if_pos ⟨hp,ht,hw,hx⟩
  generalize Fp p gs[j] x=w at*
  refine ⟨_,Aq hl,w,Ph,rfl,rfl,by show out.length+1<=4294967296;omega,_,if_pos ⟨hv,DK hv hx,by show w.length<=4294967296;omega,e2⟩,rfl,rfl,?_⟩
  rw [Al (by omega)]
  exact hK hl _ rfl ⟨_,_,rfl,e1,by show (out++ [w]).length=_;rw [List.length_append,List.length_singleton,ho],by show (out++ [w])++_=_;rw [List.append_assoc];exact he⟩
 ·have:j=gs.length:=by omega
  subst this
  rw [List.drop_length] at he
  rw [Bi,<-he]
  simp only [Et,List.append_nil]
theorem uo:Sound Try.prog 77 Vy:=
 Sound.Cz Bo (Ah um (Ah q9 Ap)) mixed Try.func77 (by kernel_rfl) (by kernel_rfl) λx h=>MJ x.1 x.2.1 x.2.2.1 h
theorem cB {ws:List (List Int)} :cV ws=true↔ ∀w∈ws,w.length<=200:=by
 unfold cV
 rw [List.all_eq_true]
 exact ⟨λh w hw=>of_decide_eq_true (h w hw),λh w hw=>decide_eq_true (h w hw)⟩
theorem YA (ws:List (List Int)) (h:Cd ws):fnW Cr (look []) kf Try.f78 (ws,()) (λ(z:Bool)=>z=cV ws):=by
 have h1:ws.length<=4294967296:=h.1
 refine Eq.mp (ZB ws _) ?_
 refine Aj ws.length (λv=>v.1) (λj _=> ∀w∈ws.take j,w.length<=200) rfl (by simp) ?_
 rintro j ⟨i,⟨⟩⟩ K hj hi hR hK
 dsimp only at hi⊢
 subst hi
 refine Br.dec (λhl=>?_) λhl=>?_
 ·have hl:j<ws.length:=by omega
  refine ⟨_,Aq hl,Br.dec (λhb=>?_) λhb=>?_⟩
  ·cases hf:cV ws with
   |false=>rfl
   |true=>exact absurd (cB.1 hf _ (List.getElem_mem hl)) (by omega)
  ·rw [Al (by omega)]
   refine hK hl _ rfl λw hw=>?_
   rw [List.take_add_one,List.getElem?_eq_getElem hl,Option.toList_some,List.mem_append,List.mem_singleton] at hw
   rcases hw with hw|rfl
   ·exact hR w hw
   ·omega
 ·have:j=ws.length:=by omega
  subst this
  rw [List.take_length] at hR
  exact (cB.2 hR).symm
theorem AJ:Sound Try.prog 78 kf:=
 Sound.Cz Bo Ap mixed Try.func78 (by kernel_rfl) (by kernel_rfl) λx h=>YA x.1 h
theorem zM (p:PP) (gs:List (List Int)) (s:List Int) (h:Dn p/\Cd gs/\short s):fnW Cr (look [(76,Gx),(63,Mf),(77,Vy),(78,kf)]) Rf Try.f39 (p,gs,s,()) (λ(z:List (List Int)×Bool×Unit)=>z=Gb p gs s):=by
 obtain ⟨hp,hg,hs⟩:=h
 unfold Gb
 refine Eq.mp (BD p gs s _) ⟨_,if_pos ⟨hp,hg⟩,Br.of (λhm=>?_) λhm=>?_⟩
 ·have hm:Jd p gs=false:=sv hm
  rw [hm,Bool.and_false,if_neg (by decide)];rfl
 have hm:Jd p gs=true:=by simpa using hm
 refine ⟨_,if_pos ⟨hp,hs⟩,Br.of (λhf=>?_) λhf=>?_⟩
 ·have hf:Ni p s=false:=sv hf
  rw [hf,Bool.false_and,if_neg (by decide)];rfl
 have hf:Ni p s=true:=by simpa using hf
 obtain ⟨hw,Ns⟩:=jB.1 hf
 rw [hf,hm,Bool.and_self,if_pos rfl]
 have z6:=mY hm
 have hsl:=j7 z6 hw Ns
 have e1:Vy.fn (p,gs,s,())=some (Et p gs s):=if_pos ⟨hp,z6,hw,Ns⟩
 generalize Et p gs s=ws at*
 refine ⟨ws,e1,_,if_pos hsl,Br.of (λhb=>?_) λhb=>?_⟩
 ·rw [if_neg (Ch hb)];rfl
 ·have hb:cV ws=true:=by simpa using hb
  rw [if_pos hb]
theorem oE:Sound Try.prog 39 Rf:=
 Sound.Cz Bo (Ah gB (Ah ku (Ah uo (Ah AJ Ap)))) mixed Try.func39 (by kernel_rfl) (by kernel_rfl) λx h=>zM x.1 x.2.1 x.2.2.1 h
theorem mH {p:PP} {gs:List (List Int)} {s:List Int} :((Gb p gs s).1.length<=5/\Cd (Gb p gs s).1)/\ ∀w∈(Gb p gs s).1,w.length<=200:=by
 unfold Gb
 split
 ·rename_i h
  obtain ⟨hf,hm⟩:=Bool.and_eq_true_iff.1 h
  obtain ⟨hw,Ns⟩:=jB.1 hf
  have z6:=mY hm
  split
  ·rename_i Pf
   have h1:=(gE hw gs s z6.2 Ns).1
   have h2:=z6.1
   exact ⟨⟨by show (Et p gs s).length<=5;omega,j7 z6 hw Ns⟩,cB.1 Pf⟩
  ·exact ⟨⟨by simp,by simp [Cd]⟩,by simp⟩
 ·exact ⟨⟨by simp,by simp [Cd]⟩,by simp⟩
end Go.Proofs.Ytjbdmibbbpdnnaa

namespace Go.Proofs.Ytjbdmibbbpdnnaa
open Go.RowKit
noncomputable abbrev Ny:MSpec:=jR [some 3,none,none] [(false, .Ft tI),(false, .Ft .str),(false, .Ft bL),(false, .Ft bL),(false, .Ft tL)] true [none,none] [.Dv tL 25, .Ft .bool]
 (λx=>Dn (x.1,x.2.1,x.2.2.1,())/\Cd x.2.2.2.1/\short x.2.2.2.2.1) (λx=>(((Gb (x.1,x.2.1,x.2.2.1,()) x.2.2.2.1 x.2.2.2.2.1).1,(Gb (x.1,x.2.1,x.2.2.1,()) x.2.2.2.1 x.2.2.2.2.1).2.1,()),()))
theorem BA (n:Int) (str:ByteArray) (g:List (List Int)) (gs:List (List Int)) (s:List Int) (P:((List (List Int)×Bool×Unit)×Unit)->Prop):(∃(y6:Option ((Int×ByteArray×List (List Int)×PUnit)×List (List Int)×List Int×(ByteArray->Option Int)×List Int×List Int×List (List Int)×PUnit)×Int×Bool×PUnit),Uk.fn ((n,str,g,()),s,())=some y6/\Br (!y6.2.2.1) (P ((List.take 0 (List.drop 0 []),false,()),())) (∃(y7:Bool),Gx.fn ((n,str,g,()),gs,())=some y7/\Br (!y7) (P ((List.take 0 (List.drop 0 []),false,()),())) (0=0/\0=([]:List Int).length/\Bk (λ(v8:Int×Int×List (List Int)×PUnit) (k9:Int×Int×List (List Int)×PUnit->Prop)=>Br (decide (v8.2.1<(↑gs.length:Int))) (∃(bh:List Int),idx gs v8.2.1=some bh/\ ∃(dN:List Int),Nx.fn (y6.1,bh,())=some dN/\ ∃(Yg:(List Int×Int×Bool×PUnit)×PUnit),Ra.fn (y6.1,dN,v8.1,())=some Yg/\Br (!Yg.1.2.2.1) (P ((List.take 0 (List.drop 0 []),false,()),())) (0=0/\v8.2.2.1.length=v8.2.2.1.length/\v8.2.2.1.length+(List.take 1 (List.drop 0 [List.take Yg.1.1.length (List.drop 0 Yg.1.1)])).length<=Bp/\0=0/\(v8.2.2.1++List.take 1 (List.drop 0 [List.take Yg.1.1.length (List.drop 0 Yg.1.1)])).length=(v8.2.2.1++List.take 1 (List.drop 0 [List.take Yg.1.1.length (List.drop 0 Yg.1.1)])).length/\k9 (Yg.1.2.1,IntKind.i64.wrap (v8.2.1+(1:Int)),v8.2.2.1++List.take 1 (List.drop 0 [List.take Yg.1.1.length (List.drop 0 Yg.1.1)]),()))) (P ((List.take v8.2.2.1.length (List.drop 0 v8.2.2.1),true,()),()))) (y6.2.1,(0:Int),[],PUnit.unit))))=fnMW Ye (look [(65,Uk),(81,Gx),(68,Nx),(67,Ra)]) Ny Try.f40 (n,str,g,gs,s,()) P:=by kernel_rfl
abbrev aZ:Type:=(Int×ByteArray×List (List Int)×PUnit)×PUnit
abbrev jb:Type:=(List (List Int)×Bool×PUnit)×PUnit
theorem xZ (p:Int×ByteArray×List (List Int)×Unit) (a:List (List Int)) (b:List Int) (P:Bool->Prop):(Br (decide ((↑b.length:Int)>(1048576:Int))) (P true) (∃(y4:Int),rW.fn ((p.1,p.2.1,p.2.2.1,()),(1048576:Int),())=some y4/\Br (decide (y4<(0:Int))) (P true) (∃(y5:Int),aT.fn (a,y4,())=some y5/\Br (decide (y5<(0:Int))) (P true) (∃(y6:aZ),Kc.fn (p.1,p.2.1,p.2.2.1,())=some y6/\ ∃(y7:(List (List Int)×PUnit)×PUnit),Nm.fn (a,())=some y7/\ ∃(y8:(List Int×PUnit)×PUnit),Tb.fn (b,())=some y8/\ ∃(y9:List (List Int)×Bool×PUnit),Rf.fn ((y6.1.1,y6.1.2.1,List.take y6.1.2.2.1.length (List.drop 0 y6.1.2.2.1),()),List.take y7.1.1.length (List.drop 0 y7.1.1),List.take y8.1.1.length (List.drop 0 y8.1.1),())=some y9/\ ∃(bh:aZ),Kc.fn (p.1,p.2.1,p.2.2.1,())=some bh/\ ∃(dN:(List (List Int)×PUnit)×PUnit),Nm.fn (a,())=some dN/\ ∃(Yg:(List Int×PUnit)×PUnit),Tb.fn (b,())=some Yg/\ ∃(Wj:jb),Ny.fn (bh.1.1,bh.1.2.1,List.take bh.1.2.2.1.length (List.drop 0 bh.1.2.2.1),List.take dN.1.1.length (List.drop 0 dN.1.1),List.take Yg.1.1.length (List.drop 0 Yg.1.1),())=some Wj/\ ∃(Zu:Bool),Ta.fn (List.take Wj.1.1.length (List.drop 0 Wj.1.1),y9.1,())=some Zu/\Br (!Zu) (P false) (Br (!Wj.1.2.1==y9.2.1) (P false) (∃(dO:Int×ByteArray×List (List Int)×PUnit),rX.fn ((p.1,p.2.1,p.2.2.1,()),())=some dO/\ ∃(fD:Bool),rQ.fn ((bh.1.1,bh.1.2.1,List.take bh.1.2.2.1.length (List.drop 0 bh.1.2.2.1),()),dO,())=some fD/\Br (!fD) (P false) (∃(BG:(List (List Int)×PUnit)×PUnit),Nm.fn (a,())=some BG/\ ∃(IU:Bool),Ta.fn (List.take dN.1.1.length (List.drop 0 dN.1.1),List.take BG.1.1.length (List.drop 0 BG.1.1),())=some IU/\Br (!IU) (P false) (∃(OY:(List Int×PUnit)×PUnit),Tb.fn (b,())=some OY/\ ∃(OI:Bool),Eh.fn (List.take Yg.1.1.length (List.drop 0 Yg.1.1),List.take OY.1.1.length (List.drop 0 OY.1.1),())=some OI/\Br (!OI) (P false) (0=0/\bh.1.2.2.1.length=bh.1.2.2.1.length/\ ∃(yo:(Int×PUnit)×List (List Int)×PUnit),Md.fn (bh.1.1,bh.1.2.1,bh.1.2.2.1,(1:Int),())=some yo/\(yo.2.1.length=bh.1.2.2.1.length/\bh.1.2.2.1.length=bh.1.2.2.1.length)/\0=0/\dN.1.1.length=dN.1.1.length/\ ∃(y22:(Int×PUnit)×List (List Int)×PUnit),Nd.fn (dN.1.1,yo.1.1,())=some y22/\(y22.2.1.length=dN.1.1.length/\dN.1.1.length=dN.1.1.length)/\0=0/\Yg.1.1.length=Yg.1.1.length/\ ∃(y23:(Int×PUnit)×List Int×PUnit),Ua.fn (Yg.1.1,y22.1.1,())=some y23/\(y23.2.1.length=Yg.1.1.length/\Yg.1.1.length=Yg.1.1.length)/\Br (decide (y23.1.1<(0:Int))) (P false) (∃(y24:Bool),Ta.fn (List.take Wj.1.1.length (List.drop 0 Wj.1.1),y9.1,())=some y24/\Br (!y24) (P false) (Br (!Wj.1.2.1==y9.2.1) (P false) (0=0/\Wj.1.1.length=Wj.1.1.length/\ ∃(y25:(Int×PUnit)×List (List Int)×PUnit),Nd.fn (Wj.1.1,(1:Int),())=some y25/\(y25.2.1.length=Wj.1.1.length/\Wj.1.1.length=Wj.1.1.length)/\ ∃(y26:Int),Vw.fn (List.take Wj.1.1.length (List.drop 0 y25.2.1),(1:Int),())=some y26/\Br (decide (y26<(0:Int))) (P false) (Br (y26 !=y25.1.1) (P false) (∃(y27:aZ),Kc.fn (p.1,p.2.1,p.2.2.1,())=some y27/\ ∃(y28:(List (List Int)×PUnit)×PUnit),Nm.fn (a,())=some y28/\ ∃(y29:(List Int×PUnit)×PUnit),Tb.fn (b,())=some y29/\ ∃(y30:jb),Ny.fn (y27.1.1,y27.1.2.1,List.take y27.1.2.2.1.length (List.drop 0 y27.1.2.2.1),List.take y28.1.1.length (List.drop 0 y28.1.1),List.take y29.1.1.length (List.drop 0 y29.1.1),())=some y30/\ ∃(y31:Bool),Ta.fn (List.take y30.1.1.length (List.drop 0 y30.1.1),y9.1,())=some y31/\Br (!y31) (P false) (Br (!y30.1.2.1==y9.2.1) (P false) (∃(y32:Int),Vw.fn (List.take Wj.1.1.length (List.drop 0 y25.2.1),(1:Int),())=some y32/\Br (decide (y32<(0:Int))) (P false) (Br (y32 !=y25.1.1) (P false) (P true))))))))))))))))))=fnW Cr (look [(14,rW),(34,aT),(39,Rf),(40,Ny),(16,Td.b rX Kc),(36,Td.b dv Nm),(17,Td.b lj Tb),(19,rQ),(38,Ta),(20,Eh),(25,Md),(41,Nd),(26,Ua),(42,Vw)]) ki Try.f10 (p,a,b,()) P:=by kernel_rfl
theorem zJ (n:Int) (str:ByteArray) (g gs:List (List Int)) (s:List Int) (h:Dn (n,str,g,())/\Cd gs/\short s):
  fnMW Ye (look [(65,Uk),(81,Gx),(68,Nx),(67,Ra)]) Ny Try.f40 (n,str,g,gs,s,()) (λ(z:(List (List Int)×Bool×Unit)×Unit)=>z=(((Gb (n,str,g,()) gs s).1,(Gb (n,str,g,()) gs s).2.1,()),())):=by
 obtain ⟨p,hpe⟩: ∃p:PP,p=(n,str,g,()):=⟨_,rfl⟩
 refine Eq.mp (BA n str g gs s _) ?_
 rw [<-hpe] at h⊢
 obtain ⟨hp,hg,hs⟩:=h
 refine ⟨_,if_pos ⟨hp,hs⟩,?_⟩
 show Br (!(Qu p s).2.2.1) _ _
 rw [yV]
 unfold Gb
 refine Br.of (λhf=>?_) λhf=>?_
 ·have hf:Ni p s=false:=sv hf
  rw [hf,Bool.false_and,if_neg (by decide)];rfl
 have hf:Ni p s=true:=by simpa using hf
 refine ⟨_,if_pos ⟨hp,hg⟩,Br.of (λhm=>?_) λhm=>?_⟩
 ·have hm:Jd p gs=false:=sv hm
  rw [hm,Bool.and_false,if_neg (by decide)];rfl
 have hm:Jd p gs=true:=by simpa using hm
 obtain ⟨hw,Ns⟩:=jB.1 hf
 rw [hf,hm,Bool.and_self,if_pos rfl]
 have z6:=mY hm
 have hl5:=z6.1
 have hv:=(Cq hw).1
 have hex:Qu p s=(some (Ic p),(Qb p s).1,(Qb p s).2.1,()):=if_pos hw
 dsimp only
 rw [hex]
 obtain ⟨R,hR⟩: ∃R,Et p gs s=R:=⟨_,rfl⟩
 rw [hR]
 refine ⟨rfl,rfl,?_⟩
 dsimp only
 refine Aj gs.length (λv=>v.2.1) (λj v=> ∃x out,v=((Qb p x).1,(j:Int),out,())/\x∈Ab p/\out.length=j/\out++Et p (gs.drop j) x=R/\ ∀w∈out,w.length<=200) rfl ⟨s,[],rfl,Ns,rfl,by rw [List.drop_zero];exact hR,by simp⟩ ?_
 rintro j v K hj hi ⟨x,out,rfl,hx,ho,he,hfo⟩ hK
 dsimp only
 refine Br.dec (λhl=>?_) λhl=>?_
 ·have hl:j<gs.length:=by omega
  have ht:=z6.2 _ (List.getElem_mem hl)
  obtain ⟨e1,e2,e3⟩:=kz hw ht hx
  obtain ⟨i1,i2,i3⟩:=Acn hx
  rw [List.drop_eq_getElem_cons hl] at he
  simp only [Et] at he
  have OP:Nx.fn (some (Ic p),gs[j],())=some (iG p gs[j]):=(if_pos ⟨Ic p,rfl,⟨hw,rfl⟩,(Kd.1 ht).2⟩).trans (congrArg some (Aak hw gs[j]))
  have hds:Ra.fn (some (Ic p),iG p gs[j],(Qb p x).1,())=some (Ug p (iG p gs[j]) (Qb p x).1,()):=
   if_pos ⟨Ic p,rfl,⟨hw,rfl⟩,JR hw ht,i1,by show (Qb p x).1<((iG p gs[j]).length:Int);rw [JS hw];exact i2⟩
  rw [e3] at hds
  generalize Fp p gs[j] x=w at*
  generalize iG p gs[j]=gd at*
  refine ⟨_,Aq hl,gd,OP,_,hds,?_⟩
  by_cases hc:w.length>200
  ·rw [if_pos hc]
   have hnf: ¬cV R=true:= λhf=>by
    have:=cB.1 hf w (by rw [<-he];simp)
    omega
   rw [if_neg hnf]
   exact ⟨λ_=>rfl,λhb=>by simp at hb⟩
  ·rw [if_neg hc]
   refine ⟨λhb=>by simp at hb,λ_=>⟨rfl,rfl,by show out.length+1<=4294967296;omega,rfl,rfl,?_⟩⟩
   rw [Al (by omega)]
   dsimp only
   rw [Bi]
   refine hK hl _ rfl ⟨_,_,rfl,e1,by show (out++ [w]).length=_;rw [List.length_append,List.length_singleton,ho],by show (out++ [w])++_=_;rw [List.append_assoc];exact he,λw' KR=>?_⟩
   have KR:w'∈out++ [w]:=KR
   rw [List.mem_append,List.mem_singleton] at KR
   rcases KR with KR|rfl
   ·exact hfo w' KR
   ·omega
 ·have:j=gs.length:=by omega
  subst this
  rw [List.drop_length] at he
  simp only [Et,List.append_nil] at he
  subst he
  rw [Bi,if_pos (cB.2 hfo)]
theorem oz:Ck Try.prog 40 Ny:=
 Ck.jR Wc (Ah qc (Ah gz (Ah ov (Gz qb Ap)))) mixed Try.func40 (by kernel_rfl) (by kernel_rfl) λx h=>zJ x.1 x.2.1 x.2.2.1 x.2.2.2.1 x.2.2.2.2.1 h
theorem yF {p:PP} {gs:List (List Int)} {s:List Int} :low (1+(Bf (Gb p gs s).1:Nat)):=by
 obtain ⟨⟨h1,_⟩,h2⟩:=mH (p:=p) (gs:=gs) (s:=s)
 have h3:=nD _ h2
 have h4:(Gb p gs s).1.length*200<=5*200:=Nat.mul_le_mul_right _ h1
 exact ⟨by omega,by omega⟩
theorem xg (p:PP) (a:List (List Int)) (b:List Int) (h:Dn p/\Cd a/\short b):fnW Cr (look [(14,rW),(34,aT),(39,Rf),(40,Ny),(16,Td.b rX Kc),(36,Td.b dv Nm),(17,Td.b lj Tb),(19,rQ),(38,Ta),(20,Eh),(25,Md),(41,Nd),(26,Ua),(42,Vw)]) ki Try.f10 (p,a,b,()) (λ(z:Bool)=>z=true):=by
 have h0:Dn (p.1,p.2.1,p.2.2.1,()):=h.1
 have h1:Cd a:=h.2.1
 have h2:short b:=h.2.2
 refine Eq.mp (xZ p a b _) ?_
 refine Br.dec (λ_=>rfl) λAm2=>?_
 refine ⟨_,if_pos ⟨h0,xu⟩,Br.dec (λ_=>rfl) λAhs=>?_⟩
 have QZ:(((Bf p.2.2.1:Nat):Nat):Int)<=(1048576)-(Ti (p.1,p.2.1,p.2.2.1,()) (1048576))/\roomy (Ti (p.1,p.2.1,p.2.2.1,()) (1048576)):=NC xu Ahs
 have An4:=QZ.1
 have Amg:0<=Ti (p.1,p.2.1,p.2.2.1,()) (1048576)/\Ti (p.1,p.2.1,p.2.2.1,()) (1048576)<=4294967296:=QZ.2
 refine ⟨_,if_pos ⟨h1,QZ.2⟩,Br.dec (λ_=>rfl) λAhr=>?_⟩
 have Acd:(((Bf a:Nat):Nat):Int)<=(Ti (p.1,p.2.1,p.2.2.1,()) (1048576))-(Jt a (Ti (p.1,p.2.1,p.2.2.1,()) (1048576)))/\roomy (Jt a (Ti (p.1,p.2.1,p.2.2.1,()) (1048576))):=HL QZ.2 Ahr
 have An3:=Acd.1
 have Amf:0<=Jt a (Ti (p.1,p.2.1,p.2.2.1,()) (1048576))/\Jt a (Ti (p.1,p.2.1,p.2.2.1,()) (1048576))<=4294967296:=Acd.2
 have l0:low (1+(Bf p.2.2.1:Nat)):=⟨by omega,by omega⟩
 have l1:low (1+(Bf p.2.2.1:Nat)+(Bf a:Nat)):=⟨by omega,by omega⟩
 have l2:low (1+(Bf p.2.2.1:Nat)+(Bf a:Nat)+(b.length:Nat)):=⟨by omega,by omega⟩
 refine ⟨_,if_pos h0,_,if_pos h1,_,if_pos h2,?_⟩
 try simp only [Bi]
 refine ⟨_,if_pos ⟨h0,h1,h2⟩,_,if_pos h0,_,if_pos h1,_,if_pos h2,?_⟩
 try simp only [Bi]
 have QG:Cd ((Gb p a b).1):=mH.1.2
 have UF:low (1+(Bf ((Gb p a b).1):Nat)):=yF
 generalize he0:(Gb p a b).1=g0 at QG UF
 generalize he1:(Gb p a b).2.1=g1
 refine ⟨_,if_pos ⟨h0,h1,h2⟩,?_⟩
 simp only [Bi,he0,he1]
 refine ⟨_,if_pos QG,⟨λhe=>absurd (Ww _) (Ch he),λ_=>?_⟩⟩
 refine ⟨λhe=>jo he,λ_=>?_⟩
 refine ⟨_,if_pos h0,_,if_pos h0,⟨λhe=>absurd (zt _) (Ch he),λ_=>?_⟩⟩
 refine ⟨_,if_pos h1,?_⟩
 try simp only [Bi]
 refine ⟨_,if_pos h1,⟨λhe=>absurd (Ww _) (Ch he),λ_=>?_⟩⟩
 refine ⟨_,if_pos h2,?_⟩
 try simp only [Bi]
 refine ⟨_,if_pos h2,⟨λhe=>absurd (jM _) (Ch he),λ_=>?_⟩⟩
 refine ⟨trivial,trivial,_,if_pos ⟨h0.2,ed,l0⟩,⟨Je _ _,trivial⟩,trivial,trivial,_,if_pos ⟨h1,l0,l1⟩,⟨Je _ _,trivial⟩,trivial,trivial,_,if_pos ⟨h2,l1⟩,⟨Sl _ _,trivial⟩,Br.dec (λhn=>absurd l2.1 (Int.not_le.2 hn)) λ_=>?_⟩
 refine ⟨_,if_pos QG,⟨λhe=>absurd (Ww _) (Ch he),λ_=>?_⟩⟩
 refine ⟨λhe=>jo he,λ_=>?_⟩
 have m0:low (1+(Bf g0:Nat)):=UF
 refine ⟨trivial,trivial,_,if_pos ⟨QG,ed,m0⟩,⟨Je _ _,trivial⟩,?_⟩
 simp only [qA]
 have WR: ∀k,Cd (Cw k g0):= λk=>q8 QG k
 refine ⟨_,if_pos ⟨WR _,ed,by rw [Xw];exact m0⟩,?_⟩
 simp only [Vo _ _ (ed).1]
 refine Br.dec (λhn=>by omega) λ_=>⟨λhe=>by simp at he,λ_=>?_⟩
 refine ⟨_,if_pos h0,_,if_pos h1,_,if_pos h2,?_⟩
 try simp only [Bi]
 refine ⟨_,if_pos ⟨h0,h1,h2⟩,?_⟩
 simp only [Bi,he0,he1]
 refine ⟨_,if_pos QG,⟨λhe=>absurd (Ww _) (Ch he),λ_=>?_⟩⟩
 refine ⟨λhe=>jo he,λ_=>?_⟩
 refine ⟨_,if_pos ⟨WR _,ed,by rw [Xw];exact m0⟩,?_⟩
 simp only [Vo _ _ (ed).1]
 exact Br.dec (λhn=>by omega) λ_=>⟨λhe=>by simp at he,λ_=>trivial⟩
theorem lR:Sound Try.prog 10 ki:=
 Sound.Cz Bo (Ah HG (Ah oG (Ah oE (Gz oz (mM HH lU (mM oH lq (mM s6 oI (Ah GY (Ah ou (Ah s5 (Gz kr (Gz j0 (Gz ll (Ah uh Ap)))))))))))))) mixed Try.func10 (by kernel_rfl) (by kernel_rfl) λx h=>xg x.1 x.2.1 x.2.2.1 h
end Go.Proofs.Ytjbdmibbbpdnnaa
