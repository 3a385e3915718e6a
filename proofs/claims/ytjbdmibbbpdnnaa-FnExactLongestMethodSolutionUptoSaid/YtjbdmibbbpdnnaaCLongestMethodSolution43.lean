/-
  Part 44 of the proof that the statement FnExactLongestMethodSolution holds.
-/
import Derived.Test.YtjbdmibbbpdnnaaCLongestMethodSolution42
namespace Go.Proofs.Ytjbdmibbbpdnnaa
open Go.RowKit
noncomputable abbrev Ly:Spec:=Dg (.pair tU (.pair tU .unit)) (.pair tU (.pair tU .unit)) true true (λx=>x.1=1/\0<=x.2.1/\x.2.1<=100000) (λx=>(0,x.2.1,()))
noncomputable abbrev Yk:MSpec:=CU [none,none] [(false, .Hf tL),(false, .Hf tI)] false [none] [rL] (λx=>(∃v,x.1= [v])/\1<=x.2.1/\x.2.1<=100000) (λx=>((List.replicate x.2.1.toNat (x.1.getD 0 0),()),()))
theorem PZ (x y:Int) (P:(Int×Int×Unit)->Prop):(¬(32:Int)<(0:Int)/\ ¬(32:Int)<(0:Int)/\ ¬(32:Int)<(0:Int)/\ ¬(32:Int)<(0:Int)/\ ¬(32:Int)<(0:Int)/\P (IntKind.u64.wrap (IntKind.u64.wrap (IntKind.u64.wrap (x.fdiv ((2:Int)^min (Int.toNat (32:Int)) IntKind.u64.bits)*y.fdiv ((2:Int)^min (Int.toNat (32:Int)) IntKind.u64.bits))+(IntKind.u64.wrap (IntKind.u64.wrap (x.fdiv ((2:Int)^min (Int.toNat (32:Int)) IntKind.u64.bits)*IntKind.u64.wrap (↑(BitVec.ofInt IntKind.u64.bits y&&&BitVec.ofInt IntKind.u64.bits (4294967295:Int)).toNat:Int))+(IntKind.u64.wrap (IntKind.u64.wrap (↑(BitVec.ofInt IntKind.u64.bits x&&&BitVec.ofInt IntKind.u64.bits (4294967295:Int)).toNat:Int)*IntKind.u64.wrap (↑(BitVec.ofInt IntKind.u64.bits y&&&BitVec.ofInt IntKind.u64.bits (4294967295:Int)).toNat:Int))).fdiv ((2:Int)^min (Int.toNat (32:Int)) IntKind.u64.bits))).fdiv ((2:Int)^min (Int.toNat (32:Int)) IntKind.u64.bits))+(IntKind.u64.wrap (IntKind.u64.wrap (↑(BitVec.ofInt IntKind.u64.bits (IntKind.u64.wrap (IntKind.u64.wrap (x.fdiv ((2:Int)^min (Int.toNat (32:Int)) IntKind.u64.bits)*IntKind.u64.wrap (↑(BitVec.ofInt IntKind.u64.bits y&&&BitVec.ofInt IntKind.u64.bits (4294967295:Int)).toNat:Int))+(IntKind.u64.wrap (IntKind.u64.wrap (↑(BitVec.ofInt IntKind.u64.bits x&&&BitVec.ofInt IntKind.u64.bits (4294967295:Int)).toNat:Int)*IntKind.u64.wrap (↑(BitVec.ofInt IntKind.u64.bits y&&&BitVec.ofInt IntKind.u64.bits (4294967295:Int)).toNat:Int))).fdiv ((2:Int)^min (Int.toNat (32:Int)) IntKind.u64.bits)))&&&BitVec.ofInt IntKind.u64.bits (4294967295:Int)).toNat:Int)+IntKind.u64.wrap (IntKind.u64.wrap (↑(BitVec.ofInt IntKind.u64.bits x&&&BitVec.ofInt IntKind.u64.bits (4294967295:Int)).toNat:Int)*y.fdiv ((2:Int)^min (Int.toNat (32:Int)) IntKind.u64.bits)))).fdiv ((2:Int)^min (Int.toNat (32:Int)) IntKind.u64.bits)),IntKind.u64.wrap (x*y),()))=fnW dQ (look []) Ly Try.f172 (x,y,()) P:=by kernel_rfl
theorem WE (x y:Int) (P:(Int×Int×Unit)->Prop):(∃(y3:Int×Int×PUnit),Ly.fn (x,y,())=some y3/\P (y3.1,y3.2.1,()))=fnW dQ (look [(172,Ly)]) Ly Try.f152 (x,y,()) P:=by kernel_rfl
theorem LM (xs:List Int) (n:Int) (P:((List Int×Unit)×Unit)->Prop):(Br (decide (n<(0:Int))) False (∃(y3:Int×Int×PUnit),Ly.fn (IntKind.u64.wrap (↑xs.length:Int),IntKind.u64.wrap n,())=some y3/\Br (decide (y3.1>(0:Int))) False (Br (decide (y3.2.1>(9223372036854775807:Int))) False (((0:Int)<=IntKind.i64.wrap y3.2.1/\IntKind.i64.wrap y3.2.1<(↑Bo:Int)+(1:Int))/\IntKind.i64.wrap y3.2.1=IntKind.i64.wrap y3.2.1/\0=0/\(List.replicate (IntKind.i64.wrap y3.2.1).toNat (Int.ofNat (nat_lit 0))).length=(Bg (List.replicate (IntKind.i64.wrap y3.2.1).toNat (Int.ofNat (nat_lit 0))) 0 (List.take (List.replicate (IntKind.i64.wrap y3.2.1).toNat (Int.ofNat (nat_lit 0))).length xs)).length/\Bj (λ(v4:Int×List Int×PUnit) (k5:Int×List Int×PUnit->Prop)=>Br (decide (v4.1<(↑v4.2.1.length:Int))) (((0:Int)<=v4.1/\v4.1<=(↑v4.2.1.length:Int)/\(↑v4.2.1.length:Int)<=(↑v4.2.1.length:Int))/\((0:Int)<=(0:Int)/\(0:Int)<=v4.1/\v4.1<=(↑v4.2.1.length:Int))/\0=0/\v4.2.1.length=(Bg v4.2.1 (0+v4.1.toNat) (List.take ((↑v4.2.1.length:Int).toNat-v4.1.toNat) (List.take (v4.1.toNat-Int.toNat (0:Int)) (List.drop (0+Int.toNat (0:Int)) v4.2.1)))).length/\k5 (IntKind.i64.wrap (v4.1+(↑(min ((↑v4.2.1.length:Int).toNat-v4.1.toNat) (List.take (v4.1.toNat-Int.toNat (0:Int)) (List.drop (0+Int.toNat (0:Int)) v4.2.1)).length):Int)),Bg v4.2.1 (0+v4.1.toNat) (List.take ((↑v4.2.1.length:Int).toNat-v4.1.toNat) (List.take (v4.1.toNat-Int.toNat (0:Int)) (List.drop (0+Int.toNat (0:Int)) v4.2.1))),())) (P ((List.take v4.2.1.length (List.drop 0 v4.2.1),()),()))) ((↑(min (List.replicate (IntKind.i64.wrap y3.2.1).toNat (Int.ofNat (nat_lit 0))).length xs.length):Int),Bg (List.replicate (IntKind.i64.wrap y3.2.1).toNat (Int.ofNat (nat_lit 0))) 0 (List.take (List.replicate (IntKind.i64.wrap y3.2.1).toNat (Int.ofNat (nat_lit 0))).length xs),PUnit.unit)))))=fnMW dQ (look [(152,Ly)]) Yk Try.f122 (xs,n,()) P:=by kernel_rfl
theorem GQ {y:Int} (h0:0<=y) (h:y<4294967296):(((BitVec.ofInt IntKind.u64.bits y)&&&(BitVec.ofInt IntKind.u64.bits 4294967295)).toNat:Int)=y:=by
 obtain ⟨n,rfl⟩:=Int.eq_ofNat_of_zero_le h0
 show ((((BitVec.ofInt 64 (n:Int))&&&(BitVec.ofInt 64 4294967295)).toNat:Nat):Int)=(n:Int)
 have e1:(BitVec.ofInt 64 (n:Int)).toNat=n:=by rw [BitVec.toNat_ofInt];omega
 have e2:(BitVec.ofInt 64 4294967295).toNat=2^32-1:=by decide
 rw [BitVec.toNat_and,e1,e2,Nat.and_two_pow_sub_one_eq_mod]
 omega
theorem xb {n:Int} (h1:0<=n) (h2:n<18446744073709551616):IntKind.u64.wrap n=n:=by rw [IntKind.wrap_u64];omega
theorem OX (x y:Int) (h:x=1/\0<=y/\y<=100000):fnW dQ (look []) Ly Try.f172 (x,y,()) (λ(z:Int×Int×Unit)=>z=(0,y,())):=by
 obtain ⟨rfl,h1,h2⟩:=h
 have e32:(2:Int)^min (Int.toNat (32:Int)) IntKind.u64.bits=4294967296:=by decide
 have e1:(1:Int).fdiv 4294967296=0:=by decide
 have e0:(0:Int).fdiv 4294967296=0:=by decide
 have ey:y.fdiv 4294967296=0:=by rw [Int.fdiv_eq_ediv_of_nonneg _ (by omega)];omega
 refine Eq.mp (PZ 1 y _) ⟨by omega,by omega,by omega,by omega,by omega,?_⟩
 rw [e32]
 simp only [e1,ey,e0,GQ h1 (show y<4294967296 by omega),GQ (show (0:Int)<=1 by omega) (show (1:Int)<4294967296 by omega),GQ (show (0:Int)<=0 by omega) (show (0:Int)<4294967296 by omega),Int.zero_mul,Int.mul_zero,Int.one_mul,Int.zero_add,Int.add_zero,
  xb h1 (show y<18446744073709551616 by omega),xb (show (0:Int)<=0 by omega) (show (0:Int)<18446744073709551616 by omega),xb (show (0:Int)<=1 by omega) (show (1:Int)<18446744073709551616 by omega)]
theorem wF:Sound Try.prog 172 Ly:=
 Sound.Dg zi At mixed Try.func172 (by kernel_rfl) (by kernel_rfl) λx h=>OX x.1 x.2.1 h
theorem VG (x y:Int) (h:x=1/\0<=y/\y<=100000):fnW dQ (look [(172,Ly)]) Ly Try.f152 (x,y,()) (λ(z:Int×Int×Unit)=>z=(0,y,())):=
 Eq.mp (WE x y _) ⟨_,if_pos h,rfl⟩
theorem za:Sound Try.prog 152 Ly:=
 Sound.Dg zi (Ah wF At) mixed Try.func152 (by kernel_rfl) (by kernel_rfl) λx h=>VG x.1 x.2.1 h
theorem kE {α:Type} (a b:α) {k m j:Nat} (h1:k+j<=m):Bg (List.replicate k a++List.replicate (m-k) b) k (List.replicate j a)=List.replicate (k+j) a++List.replicate (m-(k+j)) b:=by
 unfold Bg
 have e1:(List.replicate k a++List.replicate (m-k) b).take k=List.replicate k a:=List.take_left' (by simp)
 have e2:(List.replicate k a++List.replicate (m-k) b).drop (k+(List.replicate j a).length)=List.replicate (m-(k+j)) b:=by
  rw [List.length_replicate,List.drop_append,List.length_replicate,List.drop_replicate,List.drop_replicate,show k-(k+j)=0 by omega,show m-k-(k+j-k)=m-(k+j) by omega]
  rfl
 rw [e1,e2,<-List.replicate_append_replicate (n:=k) (m:=j)]
theorem JR (xs:List Int) (n:Int) (h:(∃v,xs= [v])/\1<=n/\n<=100000):fnMW dQ (look [(152,Ly)]) Yk Try.f122 (xs,n,()) (λ(z:(List Int×Unit)×Unit)=>z=((List.replicate n.toNat (xs.getD 0 0),()),())):=by
 obtain ⟨⟨v,rfl⟩,h1,h2⟩:=h
 obtain ⟨m,rfl⟩:=Int.eq_ofNat_of_zero_le (show 0<=n by omega)
 have e1:IntKind.u64.wrap (([v]:List Int).length:Int)=1:=xb (by simp) (by simp)
 have e2:IntKind.u64.wrap (m:Int)=(m:Int):=xb (by omega) (by omega)
 have e3:IntKind.i64.wrap (m:Int)=(m:Int):=Bs (by omega) (by omega)
 have hmul:Ly.fn (IntKind.u64.wrap (([v]:List Int).length:Int),IntKind.u64.wrap (m:Int),())=some (0,(m:Int),()):=by
  rw [e1,e2];exact if_pos ⟨rfl,by show (0:Int)<=m;omega,by show (m:Int)<=100000;omega⟩
 refine Eq.mp (LM [v] m _) (Br.dec (λhb=>absurd hb (by omega)) λ_=>⟨_,hmul,Br.dec (λhb=>absurd hb (by show ¬(0:Int)>0;omega)) λ_=>Br.dec (λhb=>absurd hb (by show ¬(m:Int)>9223372036854775807;omega)) λ_=>?_⟩)
 dsimp only
 rw [e3]
 have Afw:Bg (List.replicate (m:Int).toNat (Int.ofNat 0)) 0 (List.take (List.replicate (m:Int).toNat (Int.ofNat 0)).length [v])=List.replicate 1 v++List.replicate (m-1) 0:=by
  rw [Int.toNat_natCast,List.length_replicate,List.take_of_length_le (by simp;omega)]
  have:=kE v (0:Int) (k:=0) (m:=m) (j:=1) (by omega)
  simpa using this
 rw [Afw]
 refine ⟨⟨by omega,by show (m:Int)<(4294967296:Int)+1;omega⟩,rfl,rfl,by simp;omega,?_⟩
 refine Bj.mk (λw=> ∃k:Nat,1<=k/\k<=m/\w=((k:Int),List.replicate k v++List.replicate (m-k) 0,())) (λw=>m-w.1.toNat) ⟨1,Nat.le_refl _,by omega,?_⟩ ?_
 ·have:min (List.replicate (m:Int).toNat (Int.ofNat 0)).length ([v]:List Int).length=1:=by simp;omega
  rw [this]
  first|rfl|skip
 rintro w ⟨k,k1,k2,rfl⟩
 dsimp only
 have hlen:(List.replicate k v++List.replicate (m-k) (0:Int)).length=m:=by simp;omega
 rw [hlen]
 refine Br.dec (λhl=>?_) λhl=>?_
 ·have hl:k<m:=by omega
  obtain ⟨j,hj⟩: ∃j,min (m-k) k=j:=⟨_,rfl⟩
  have OC:List.take (((k:Int)).toNat-Int.toNat (0:Int)) (List.drop (0+Int.toNat (0:Int)) (List.replicate k v++List.replicate (m-k) (0:Int)))=List.replicate k v:=by
   have e0:Int.toNat (0:Int)=0:=rfl
   rw [e0,Int.toNat_natCast,Nat.add_zero,Nat.sub_zero,List.drop_zero,List.take_left' (by simp)]
  have ht:List.take ((m:Int).toNat-((k:Int)).toNat) (List.replicate k v)=List.replicate j v:=by
   rw [Int.toNat_natCast,Int.toNat_natCast,List.take_replicate,hj]
  have ZC:min ((m:Int).toNat-((k:Int)).toNat) (List.replicate k v).length=j:=by rw [List.length_replicate,Int.toNat_natCast,Int.toNat_natCast];exact hj
  rw [OC,ht,ZC,Int.toNat_natCast,Nat.zero_add,kE v (0:Int) (by omega)]
  refine ⟨⟨by omega,by omega,by omega⟩,⟨by omega,by omega,by omega⟩,rfl,by simp;omega,⟨k+j,by omega,by omega,?_⟩,?_⟩
  ·rw [Bs (by omega) (by omega)]
   rfl
  ·rw [Bs (by omega) (by omega)]
   omega
 ·have:k=m:=by omega
  subst this
  rw [Nat.sub_self,List.replicate_zero,List.append_nil,List.drop_zero,List.take_of_length_le (by simp),Int.toNat_natCast]
  rfl
theorem sT:Ea Try.prog 122 Yk:=
 Ea.CU zi (Ah za At) mixed Try.func122 (by kernel_rfl) (by kernel_rfl) λx h=>JR x.1 x.2.1 h
end Go.Proofs.Ytjbdmibbbpdnnaa

namespace Go.Proofs.Ytjbdmibbbpdnnaa
open Go.RowKit
def qf (g:List (List Int)) (L:List (List Int)) (x:List Int):List Int:=(Ag g.length).map λl=>((L.idxOf (Aa x (Af g l)):Nat):Int)
theorem Tk {g:List (List Int)} {k:Int} {x:List Int} {d:Int} : ∀(ls:List Int) (s:EX) (row:List Int),∃A,(Vk g k x d ls s row).1.1=s.1++A
 | [],s,row=>⟨[],by simp [Vk]⟩
 |l::ls,s,row=>by
  simp only [Vk]
  split
  ·exact Tk ls s _
  ·obtain ⟨A,h⟩:=Tk (g:=g) (k:=k) (x:=x) (d:=d) ls (s.1++ [Aa x (Af g l)],s.2.1++ [d+1],s.2.2.1++ [k],s.2.2.2++ [l]) (row++ [(s.1.length:Int)])
   exact ⟨_::A,by rw [h,List.append_assoc];rfl⟩
theorem y0 {L A:List (List Int)} {y:List Int} (h:y∈L):(L++A).idxOf y=L.idxOf y:=by rw [List.idxOf_append,if_pos h]
theorem CH {L A:List (List Int)} {y:List Int} (h:y∉L):(L++y::A).idxOf y=L.length:=by
 rw [List.idxOf_append,if_neg h,List.idxOf_cons_self];simp
theorem iS {g:List (List Int)} {k:Int} {x:List Int} {d:Int} : ∀(ls:List Int) (s:EX) (row:List Int) (A:List (List Int)),
  (Vk g k x d ls s row).2=row++ls.map λl=>((((Vk g k x d ls s row).1.1++A).idxOf (Aa x (Af g l)):Nat):Int)
 | [],s,row,A=>by simp [Vk]
 |l::ls,s,row,A=>by
  simp only [Vk]
  split
  ·rename_i hm
   obtain ⟨B,hB⟩:=Tk (g:=g) (k:=k) (x:=x) (d:=d) ls s (row++ [(s.1.idxOf (Aa x (Af g l)):Int)])
   rw [iS ls s _ A,List.append_assoc,List.map_cons,hB,List.append_assoc,y0 hm]
   rfl
  ·rename_i hm
   obtain ⟨B,hB⟩:=Tk (g:=g) (k:=k) (x:=x) (d:=d) ls (s.1++ [Aa x (Af g l)],s.2.1++ [d+1],s.2.2.1++ [k],s.2.2.2++ [l]) (row++ [(s.1.length:Int)])
   rw [iS ls _ _ A,List.append_assoc,List.map_cons,hB]
   dsimp only
   rw [List.append_assoc,List.append_assoc,List.singleton_append,List.cons_append,CH hm]
   try rfl
theorem pM {g:List (List Int)} {ls:List Int} : ∀(f k:Nat) (s:EX) (N:List (List Int)),∃A,(Ws g ls f k s N).1.1=s.1++A
 |0,k,s,N=>⟨[],by simp [Ws]⟩
 |f+1,k,s,N=>by
  simp only [Ws]
  split
  ·obtain ⟨A,hA⟩:=Tk (g:=g) (k:=(k:Int)) (x:=s.1.getD k []) (d:=s.2.1.getD k 0) ls s []
   obtain ⟨B,hB⟩:=pM (g:=g) (ls:=ls) f (k+1) (Vk g (k:Int) (s.1.getD k []) (s.2.1.getD k 0) ls s []).1 (N++ [(Vk g (k:Int) (s.1.getD k []) (s.2.1.getD k 0) ls s []).2])
   exact ⟨A++B,by rw [hB,hA,List.append_assoc]⟩
  ·exact ⟨[],by simp⟩
theorem pN {g:List (List Int)} : ∀(f k:Nat) (s:EX) (N:List (List Int)),(Ws g (Ag g.length) f k s N).1.1.length<=f+k->
  (Ws g (Ag g.length) f k s N).2=N++((Ws g (Ag g.length) f k s N).1.1.drop k).map (qf g (Ws g (Ag g.length) f k s N).1.1)
 |0,k,s,N,h=>by
  simp only [Ws] at h⊢
  rw [List.drop_of_length_le (by omega)]
  simp
 |f+1,k,s,N,h=>by
  simp only [Ws] at h⊢
  split
  ·rename_i hk
   rw [if_pos hk] at h
   obtain ⟨A,hA⟩:=Tk (g:=g) (k:=(k:Int)) (x:=s.1.getD k []) (d:=s.2.1.getD k 0) (Ag g.length) s []
   obtain ⟨B,hB⟩:=pM (g:=g) (ls:=Ag g.length) f (k+1) (Vk g (k:Int) (s.1.getD k []) (s.2.1.getD k 0) (Ag g.length) s []).1 (N++ [(Vk g (k:Int) (s.1.getD k []) (s.2.1.getD k 0) (Ag g.length) s []).2])
   have Qc:=iS (g:=g) (k:=(k:Int)) (x:=s.1.getD k []) (d:=s.2.1.getD k 0) (Ag g.length) s [] B
   rw [<-hB,List.nil_append] at Qc
   rw [pN f (k+1) _ _ (by omega),List.append_assoc]
   congr 1
   generalize hR:Ws g (Ag g.length) f (k+1) _ _=R at*
   have hkR:k<R.1.1.length:=by rw [hB,hA,List.length_append,List.length_append];omega
   rw [List.drop_eq_getElem_cons hkR,List.map_cons,List.singleton_append]
   congr 1
   have e:R.1.1[k]=s.1.getD k []:=by
    rw [<-Ch (d:= []) hkR,hB,hA,List.append_assoc,Ez hk]
   rw [Qc,e]
   rfl
  ·rename_i hk
   rw [List.drop_of_length_le (by show s.1.length<=k;omega)]
   simp
theorem BR {p:PP} (hw:Bp p=true):(Jy p).2.2.2.2.2.2.1=(Ab p).map (qf p.2.2.1 (Ab p)):=by
 have h1:=(zO hw).1
 have h2:=cS (Co hw).1
 have h3:=pN (g:=p.2.2.1) 3001 0 ([upto p.1.toNat],[0],[0],[0]) [] (by
  show (Jy p).2.1.length<=3001+0
  rw [h1];omega)
 have h4:(Ws p.2.2.1 (Ag p.2.2.1.length) 3001 0 ([upto p.1.toNat],[0],[0],[0]) []).1.1=Ab p:=h1
 rw [h4,List.nil_append,List.drop_zero] at h3
 exact h3
noncomputable def Fp (p:PP) (i:Nat):List Int:=qf p.2.2.1 (Ab p) ((Ab p).getD i [])
theorem Od {p:PP} (hw:Bp p=true):lB p.2.2.1 (Ag p.2.2.1.length) (Ab p):=by
 obtain ⟨hv,hb⟩:=Co hw
 have hV:=valid hv
 have hn:=hV.n
 exact Wv hV (KL hv) (eZ hv (by rw [Pk];omega) (λy hy=>by have:=Im.1 hy;omega) hb)
theorem EW {p:PP} (hw:Bp p=true):iH p.2.2.1 (Ag p.2.2.1.length) (Ab p) (cn p):=by
 obtain ⟨hv,hb⟩:=Co hw
 have hn:=(valid hv).n
 exact eZ hv (by rw [Pk];omega) (λy hy=>by have:=Im.1 hy;omega) hb
theorem yt {p:PP} (hw:Bp p=true) {i:Nat} (hi:i<(Ab p).length) {l:Int} (hl:l∈Ag p.2.2.1.length):
  (Ab p).idxOf (Aa ((Ab p).getD i []) (Af p.2.2.1 l))<(Ab p).length/\
  (Ab p).getD ((Ab p).idxOf (Aa ((Ab p).getD i []) (Af p.2.2.1 l))) []=Aa ((Ab p).getD i []) (Af p.2.2.1 l):=by
 have hm:=(Od hw).next _ (Ig hi) l hl
 have h1:=List.idxOf_lt_length_of_mem hm
 exact ⟨h1,by rw [Ch h1];exact List.getElem_idxOf h1⟩
theorem hZ {p:PP} (hw:Bp p=true):eT (Fp p) (Ab p).length:= λi hi t ht=>by
 obtain ⟨l,hl,rfl⟩:=List.mem_map.1 ht
 have:=(yt hw hi hl).1
 omega
theorem iv {p:PP} (hw:Bp p=true) (Q:List Int->Prop) (hQ: ∀x∈Ab p,Q x-> ∀l∈Ag p.2.2.1.length,Q (Aa x (Af p.2.2.1 l))) {x:List Int} (hx:x∈Ab p) (hq:Q x):
  ∀y∈Ab p,Q y:=by
 have hc:=Od hw
 have hL:=EW hw
 have up: ∀(j:Nat),j<(Ab p).length->Q ((Ab p).getD j [])->Q ((Ab p).getD 0 []):=by
  intro j
  induction j using Nat.strongRecOn with
  |_ j ih=>
   intro hj hqj
   by_cases e:j=0
   ·subst e;exact hqj
   ·obtain ⟨i,l,h1,h2,h3,_⟩:=hL.par j (by omega) hj
    have hi:i<(Ab p).length:=by omega
    obtain ⟨b1,b2⟩:=hc.back _ (Ig hi) l h2
    refine ih i h1 hi ?_
    have:=hQ _ (Ig hj) hqj _ b1
    rwa [h3,b2] at this
 have down:Q ((Ab p).getD 0 [])-> ∀(j:Nat),j<(Ab p).length->Q ((Ab p).getD j []):=by
  intro h0 j
  induction j using Nat.strongRecOn with
  |_ j ih=>
   intro hj
   by_cases e:j=0
   ·subst e;exact h0
   ·obtain ⟨i,l,h1,h2,h3,_⟩:=hL.par j (by omega) hj
    have hi:i<(Ab p).length:=by omega
    rw [h3]
    exact hQ _ (Ig hi) (ih i h1 hi) l h2
 obtain ⟨j,hj,rfl⟩:=List.mem_iff_getElem.1 hx
 rw [<-Ch (d:= []) hj] at hq
 intro y hy
 obtain ⟨k,hk,rfl⟩:=List.mem_iff_getElem.1 hy
 rw [<-Ch (d:= []) hk]
 exact down (up j hj hq) k hk
theorem MX {p:PP} (hw:Bp p=true) (S:Nat->Bool) {i0:Nat} (YU:i0<(Ab p).length) (hS:S i0=true):
  Ir p.2.2.1 (Ag p.2.2.1.length) (Ab p) (λx=>S ((Ab p).idxOf x)=true) (λx=>(kY (Fp p) S (Ab p).length).getD ((Ab p).idxOf x) 0):=by
 have hd:=QI (S:=S) (hZ hw)
 have oJ:=(wI hw).nodup
 have hc:=Od hw
 have ix: ∀ {x:List Int},x∈Ab p->(Ab p).idxOf x<(Ab p).length/\(Ab p).getD ((Ab p).idxOf x) []=x:= λ {x} hx=>by
  have h1:=List.idxOf_lt_length_of_mem hx
  exact ⟨h1,by rw [Ch h1];exact List.getElem_idxOf h1⟩
 have st: ∀x∈Ab p,0<=(kY (Fp p) S (Ab p).length).getD ((Ab p).idxOf x) 0-> ∀l∈Ag p.2.2.1.length,
   0<=(kY (Fp p) S (Ab p).length).getD ((Ab p).idxOf (Aa x (Af p.2.2.1 l))) 0/\
   (kY (Fp p) S (Ab p).length).getD ((Ab p).idxOf (Aa x (Af p.2.2.1 l))) 0<=(kY (Fp p) S (Ab p).length).getD ((Ab p).idxOf x) 0+1:= λx hx h0 l hl=>by
  obtain ⟨i1,i2⟩:=ix hx
  have:=hd.done _ i1 h0 (by simp) (λh=>h) (((Ab p).idxOf (Aa x (Af p.2.2.1 l)):Nat):Int) (List.mem_map.2 ⟨l,hl,by rw [i2]⟩)
  rwa [Int.toNat_natCast] at this
 have nn: ∀x∈Ab p,0<=(kY (Fp p) S (Ab p).length).getD ((Ab p).idxOf x) 0:=by
  refine iv hw _ (λx hx h0 l hl=>(st x hx h0 l hl).1) (Ig YU) ?_
  rw [Hp oJ YU,hd.src i0 YU hS]
  exact Int.le_refl _
 refine ⟨nn,λx hx=>⟨λh0=>hd.PH _ (ix hx).1 h0,λhs=>hd.src _ (ix hx).1 hs⟩,λx hx l hl=>(st x hx (nn x hx) l hl).2,λx hx h0=>?_⟩
 obtain ⟨j,j1,j2,j3⟩:=hd.par _ (ix hx).1 h0
 obtain ⟨l,hl,WY⟩:=List.mem_map.1 j2
 obtain ⟨n1,n2⟩:=yt hw j1 hl
 have e:(Ab p).idxOf (Aa ((Ab p).getD j []) (Af p.2.2.1 l))=(Ab p).idxOf x:=by omega
 obtain ⟨b1,b2⟩:=hc.back _ (Ig j1) l hl
 rw [e,(ix hx).2] at n2
 refine ⟨-l,b1,?_⟩
 have e5:Aa x (Af p.2.2.1 (-l))=(Ab p).getD j []:=(congrArg (λz=>Aa z (Af p.2.2.1 (-l))) n2).trans b2
 rw [e5,Hp oJ j1,j3]
end Go.Proofs.Ytjbdmibbbpdnnaa

namespace Go.Proofs.Ytjbdmibbbpdnnaa
open Go.RowKit
abbrev tGD:Ty:= .clo 120 (.pair (.ptr tL) (.pair (.ptr (.optr bd)) .unit))
def GJ (e:Option XP):Prop:= ∃e':XP,e=some e'/\tX e'
noncomputable def Mt (goal:List Int) (e:Option XP) (i:Int):Bool:=match e with|some e=>Wa goal ((Ab e.1).getD i.toNat [])|none=>false
def BF (goal:List Int) (e:Option XP):Prop:= ∃e':XP,e=some e'/\tX e'/\Fa e'.1.1 goal=true
def RY (e:Option XP):Nat:=match e with|some e=>e.2.1.length|none=>0
noncomputable abbrev nm:Spec:=Dg (.pair tI (.pair (.ptr tL) (.pair (.ptr (.optr bd)) .unit))) .bool false true (λx=>BF x.2.1 x.2.2.1/\0<=x.1/\x.1<RY x.2.2.1) (λx=>Mt x.2.1 x.2.2.1 x.1)
noncomputable def cp (e:Option XP) (S:Nat->Bool):List Int:=match e with|some e=>kY (Fp e.1) S (Ab e.1).length|none=> []
noncomputable abbrev Uz:Spec:=Dg (.pair (.optr bd) (.pair tGD .unit)) tL false true (λx=>GJ x.1/\x.2.1.2.1=x.1/\BF x.2.1.1 x.1) (λx=>cp x.1 λi=>Mt x.2.1.1 x.1 (i:Int))
noncomputable abbrev Nl:Spec:=Dg (.pair (.optr bd) (.pair tL .unit)) tL false true (λx=>BF x.2.1 x.1) (λx=>cp x.1 λi=>Mt x.2.1 x.1 (i:Int))
abbrev tDs:Ty:= .clo 119 (.pair (.ptr tL) (.pair (.ptr tI) .unit))
noncomputable abbrev qE:Spec:=Dg (.pair tI (.pair (.ptr tL) (.pair (.ptr tI) .unit))) .bool false true (λx=>(0<=x.1/\x.1<List.length x.2.1)/\0<=x.2.2.1/\x.2.2.1<List.length x.2.1) (λx=>decide (Cc x.2.1 x.1<Cc x.2.1 x.2.2.1))
noncomputable abbrev jv:Spec:=Dg (.pair tL (.pair tDs .unit)) tI false true (λx=>short x.1/\Gw (List.length x.2.1.1) x.1/\0<=x.2.1.2.1/\x.2.1.2.1<List.length x.2.1.1) (λx=>Bw (λy=>decide (Cc x.2.1.1 y<Cc x.2.1.1 x.2.1.2.1)) x.1 0)
def Ud (N:Nat->List Int) (ls d:List Int):Nat->Int->List Int->List Int×Int
 |0,i,w=>(w,i)
 |f+1,i,w=>if 0<Cc d i then Ud N ls d f ((N i.toNat).getD (Bw (λy=>decide (Cc d y<Cc d i)) (N i.toNat) 0).toNat 0) (w++ [ls.getD (Bw (λy=>decide (Cc d y<Cc d i)) (N i.toNat) 0).toNat 0]) else (w,i)
noncomputable def Tl (p:PP) (d:List Int) (i:Int):List Int×Int×Bool×Unit:=
 if Cc d i>200 then ([],0,false,()) else ((Ud (Fp p) (Ag p.2.2.1.length) d (Cc d i).toNat i []).1,(Ud (Fp p) (Ag p.2.2.1.length) d (Cc d i).toNat i []).2,true,())
noncomputable def sj (e:Option XP) (d:List Int) (i:Int):(List Int×Int×Bool×Unit)×Unit:=match e with|some e=>(Tl e.1 d i,())|none=>(([],0,false,()),())
structure xh (p:PP) (d:List Int):Prop where
 len:d.length=(Ab p).length
 nn: ∀i,i<d.length->0<=d.getD i 0
 dn: ∀i,i<d.length->0<d.getD i 0-> ∃t∈Fp p i,d.getD t.toNat 0<d.getD i 0
noncomputable abbrev Qn:MSpec:=CU [none,none,none] [(false, .Hf (.optr bd)),(false, .Hf tL),(false, .Hf tI)] true [none,none,none] [rL, .Hf tI, .Hf .bool]
 (λx=> ∃e':XP,x.1=some e'/\tX e'/\xh e'.1 x.2.1/\0<=x.2.2.1/\x.2.2.1<List.length x.2.1) (λx=>sj x.1 x.2.1 x.2.2.1)
theorem Abm (i:Int) (goal:List Int) (e:Option XP) (P:Bool->Prop):(∃(y4:(Int×ByteArray×List (List Int)×PUnit)×List (List Int)×List Int×(ByteArray->Option Int)×List Int×List Int×List (List Int)×PUnit),e=some y4/\ ∃(y5:List Int),idx y4.2.1 i=some y5/\ ∃(y6:Bool),Ob.fn (goal,y5,())=some y6/\P y6)=fnW Cu (look [(121,Ob)]) nm Try.f120 (i,goal,e,()) P:=by kernel_rfl
abbrev jG:Type:=(Int×ByteArray×List (List Int)×PUnit)×List (List Int)×List Int×(ByteArray->Option Int)×List Int×List Int×List (List Int)×PUnit
theorem LK (e:Option XP) (c:List Int×Option XP×Unit) (P:List Int->Prop):(∃(y3:jG),e=some y3/\ ∃(y4:(List Int×PUnit)×PUnit),Yk.fn (List.take 1 (List.drop 0 [(-1:Int)]),(↑y3.2.1.length:Int),())=some y4/\ ∃(y5:jG),e=some y5/\ ∃(y6:Int),Mz.fn (y5.2.1,())=some y6/\0=0/\y4.1.1.length=y4.1.1.length/\0=0/\(List.take 0 (List.drop 0 ([]:List Int))).length=(List.take 0 (List.drop 0 ([]:List Int))).length/\Bj (λ(v7:Int×List Int×List Int×PUnit) (k8:Int×List Int×List Int×PUnit->Prop)=>Br (decide (v7.1<y6)) (∃(y9:Bool),nm.fn (v7.1,c.1,c.2.1,())=some y9/\Br y9 (((0:Int)<=v7.1/\v7.1<(↑v7.2.2.1.length:Int))/\0+v7.1.toNat<v7.2.2.1.length/\0=0/\v7.2.1.length=v7.2.1.length/\v7.2.1.length+(List.take 1 (List.drop 0 [v7.1])).length<=Bo/\0=0/\v7.2.2.1.length=(v7.2.2.1.set (0+v7.1.toNat) (0:Int)).length/\0=0/\(List.take (v7.2.1++List.take 1 (List.drop 0 [v7.1])).length (List.drop 0 (v7.2.1++List.take 1 (List.drop 0 [v7.1])))).length=(List.take (v7.2.1++List.take 1 (List.drop 0 [v7.1])).length (List.drop 0 (v7.2.1++List.take 1 (List.drop 0 [v7.1])))).length/\k8 (IntKind.i64.wrap (v7.1+(1:Int)),List.take (v7.2.1++List.take 1 (List.drop 0 [v7.1])).length (List.drop 0 (v7.2.1++List.take 1 (List.drop 0 [v7.1]))),v7.2.2.1.set (0+v7.1.toNat) (0:Int),())) (0=0/\v7.2.2.1.length=v7.2.2.1.length/\0=0/\(List.take v7.2.1.length (List.drop 0 v7.2.1)).length=(List.take v7.2.1.length (List.drop 0 v7.2.1)).length/\k8 (IntKind.i64.wrap (v7.1+(1:Int)),List.take v7.2.1.length (List.drop 0 v7.2.1),v7.2.2.1,()))) (0=0/\v7.2.2.1.length=v7.2.2.1.length/\0=0/\(List.take v7.2.1.length (List.drop 0 v7.2.1)).length=(List.take v7.2.1.length (List.drop 0 v7.2.1)).length/\Bj (λ(v9:List Int×List Int×PUnit) (k10:List Int×List Int×PUnit->Prop)=>Br (decide ((↑v9.1.length:Int)>(0:Int))) (∃(iD:jG),e=some iD/\((0:Int)<=(0:Int)/\(0:Int)<(↑v9.1.length:Int))/\ ∃(lb:Int),v9.1[0+Int.toNat (0:Int)]?=some lb/\ ∃(eO:List Int),idx iD.2.2.2.2.2.2.1 lb=some eO/\0=0/\v9.2.1.length=v9.2.1.length/\0=0/\(List.take v9.1.length (List.drop 0 v9.1)).length=(List.take v9.1.length (List.drop 0 v9.1)).length/\Bj (λ(Vm:Int×List Int×List Int×PUnit) (k15:Int×List Int×List Int×PUnit->Prop)=>Br (decide (Vm.1<(↑eO.length:Int))) (∃(br:Int),idx eO Vm.1=some br/\((0:Int)<=br/\br<(↑Vm.2.2.1.length:Int))/\ ∃(zw:Int),Vm.2.2.1[0+br.toNat]?=some zw/\Br (decide (zw<(0:Int))) (((0:Int)<=(0:Int)/\(0:Int)<(↑Vm.2.1.length:Int))/\ ∃(FV:Int),Vm.2.1[0+Int.toNat (0:Int)]?=some FV/\((0:Int)<=FV/\FV<(↑Vm.2.2.1.length:Int))/\ ∃(XQ:Int),Vm.2.2.1[0+FV.toNat]?=some XQ/\((0:Int)<=br/\br<(↑Vm.2.2.1.length:Int))/\0+br.toNat<Vm.2.2.1.length/\0=0/\Vm.2.1.length=Vm.2.1.length/\Vm.2.1.length+(List.take 1 (List.drop 0 [br])).length<=Bo/\0=0/\Vm.2.2.1.length=(Vm.2.2.1.set (0+br.toNat) (IntKind.i64.wrap (XQ+(1:Int)))).length/\0=0/\(List.take (Vm.2.1++List.take 1 (List.drop 0 [br])).length (List.drop 0 (Vm.2.1++List.take 1 (List.drop 0 [br])))).length=(List.take (Vm.2.1++List.take 1 (List.drop 0 [br])).length (List.drop 0 (Vm.2.1++List.take 1 (List.drop 0 [br])))).length/\k15 (IntKind.i64.wrap (Vm.1+(1:Int)),List.take (Vm.2.1++List.take 1 (List.drop 0 [br])).length (List.drop 0 (Vm.2.1++List.take 1 (List.drop 0 [br]))),Vm.2.2.1.set (0+br.toNat) (IntKind.i64.wrap (XQ+(1:Int))),())) (0=0/\Vm.2.2.1.length=Vm.2.2.1.length/\0=0/\(List.take Vm.2.1.length (List.drop 0 Vm.2.1)).length=(List.take Vm.2.1.length (List.drop 0 Vm.2.1)).length/\k15 (IntKind.i64.wrap (Vm.1+(1:Int)),List.take Vm.2.1.length (List.drop 0 Vm.2.1),Vm.2.2.1,()))) (((0:Int)<=(1:Int)/\(1:Int)<=(↑Vm.2.1.length:Int)/\(↑Vm.2.1.length:Int)<=(↑Vm.2.1.length:Int))/\0=0/\Vm.2.2.1.length=Vm.2.2.1.length/\0=0/\(List.take ((↑Vm.2.1.length:Int).toNat-Int.toNat (1:Int)) (List.drop (0+Int.toNat (1:Int)) Vm.2.1)).length=(List.take ((↑Vm.2.1.length:Int).toNat-Int.toNat (1:Int)) (List.drop (0+Int.toNat (1:Int)) Vm.2.1)).length/\k10 (List.take ((↑Vm.2.1.length:Int).toNat-Int.toNat (1:Int)) (List.drop (0+Int.toNat (1:Int)) Vm.2.1),Vm.2.2.1,()))) ((0:Int),List.take v9.1.length (List.drop 0 v9.1),v9.2.1,PUnit.unit)) (P (List.take v9.2.1.length (List.drop 0 v9.2.1)))) (List.take v7.2.1.length (List.drop 0 v7.2.1),v7.2.2.1,PUnit.unit))) ((0:Int),List.take 0 (List.drop 0 []),y4.1.1,PUnit.unit))=fnW (VS [Hr+6]) (look [(122,Yk),(58,Mz),(120,nm)]) Uz Try.f71 (e,c,()) P:=by kernel_rfl
theorem zo (e:Option XP) (goal:List Int) (P:List Int->Prop):(∃(y3:List Int),Uz.fn (e,(goal,e,()),())=some y3/\P y3)=fnW Cu (look [(71,Uz)]) Nl Try.f68 (e,goal,()) P:=by kernel_rfl
theorem Abj (y:Int) (d:List Int) (i:Int) (P:Bool->Prop):(∃(y4:Int),idx d y=some y4/\ ∃(y5:Int),idx d i=some y5/\P (decide (y4<y5)))=fnW Cu (look []) qE Try.f119 (y,d,i,()) P:=by kernel_rfl
theorem WC (xs:List Int) (c:List Int×Int×Unit) (P:Int->Prop):(Bj (λ(v3:Int×PUnit) (k4:Int×PUnit->Prop)=>Br (decide (v3.1<(↑xs.length:Int))) (∃(y5:Int),idx xs v3.1=some y5/\ ∃(y6:Bool),qE.fn (y5,c.1,c.2.1,())=some y6/\Br y6 (P v3.1) (k4 (IntKind.i64.wrap (v3.1+(1:Int)),()))) (P (-1:Int))) ((0:Int),PUnit.unit))=fnW Cu (look [(119,qE)]) jv Try.f118 (xs,c,()) P:=by kernel_rfl
abbrev fU:Type:=(Int×ByteArray×List (List Int)×PUnit)×List (List Int)×List Int×(ByteArray->Option Int)×List Int×List Int×List (List Int)×PUnit
theorem FJ (e:Option XP) (d:List Int) (i:Int) (P:((List Int×Int×Bool×Unit)×Unit)->Prop):(∃(y4:Int),idx d i=some y4/\Br (decide (y4>(200:Int))) (P ((List.take 0 (List.drop 0 []),(0:Int),false,()),())) (∃(y5:fU),e=some y5/\ ∃(y6:List Int),Ie.fn ((↑y5.1.2.2.1.length:Int),())=some y6/\0=0/\0=([]:List Int).length/\Bj (λ(v7:List Int×Int×List Int×PUnit) (k8:List Int×Int×List Int×PUnit->Prop)=> ∃(y9:Int),idx v7.1 v7.2.1=some y9/\Br (decide (y9>(0:Int))) (∃(jJ:fU),e=some jJ/\ ∃(iD:List Int),idx jJ.2.2.2.2.2.2.1 v7.2.1=some iD/\ ∃(lb:Int),jv.fn (iD,(v7.1,v7.2.1,()),())=some lb/\ ∃(eO:Int),idx y6 lb=some eO/\0=0/\v7.2.2.1.length=v7.2.2.1.length/\v7.2.2.1.length+(List.take 1 (List.drop 0 [eO])).length<=Bo/\ ∃(Yu:fU),e=some Yu/\ ∃(dd:List Int),idx Yu.2.2.2.2.2.2.1 v7.2.1=some dd/\ ∃(br:Int),idx dd lb=some br/\0=0/\(v7.2.2.1++List.take 1 (List.drop 0 [eO])).length=(v7.2.2.1++List.take 1 (List.drop 0 [eO])).length/\k8 (v7.1,br,v7.2.2.1++List.take 1 (List.drop 0 [eO]),())) (P ((List.take v7.2.2.1.length (List.drop 0 v7.2.2.1),v7.2.1,true,()),()))) (d,i,[],PUnit.unit)))=fnMW zh (look [(117,Ie),(118,jv)]) Qn Try.f67 (e,d,i,()) P:=by kernel_rfl
theorem HF {e:XP} (h:tX e):e.2.1=Ab e.1:=(congrArg (λz:XP=>z.2.1) h.2).trans (zO h.1).1
theorem MY {e:XP} (h:tX e):e.2.2.2.2.2.2.1=(Ab e.1).map (qf e.1.2.2.1 (Ab e.1)):=(congrArg (λz:XP=>z.2.2.2.2.2.2.1) h.2).trans (BR h.1)
theorem HE {e:XP} (h:tX e) {i:Nat} (hi:i<(Ab e.1).length):idx e.2.2.2.2.2.2.1 (i:Int)=some (Fp e.1 i):=by
 rw [MY h,Ap (by rw [List.length_map];exact hi),List.getElem_map]
 unfold Fp
 rw [Ch hi]
theorem mN (p:PP) (i:Nat):(Fp p i).length=(Ag p.2.2.1.length).length:=by unfold Fp qf;rw [List.length_map]
theorem cj {p:PP} (hV:Valid p):(Ag p.2.2.1.length).length<=16:=by rw [Ko];have:=hV.oe;omega
theorem Aaw (i:Int) (goal:List Int) (e:Option XP) (h:BF goal e/\0<=i/\i<RY e):fnW Cu (look [(121,Ob)]) nm Try.f120 (i,goal,e,()) (λ(z:Bool)=>z=Mt goal e i):=by
 obtain ⟨⟨e',rfl,hx,hp⟩,h1,h2⟩:=h
 obtain ⟨k,rfl⟩:=Int.eq_ofNat_of_zero_le h1
 have Og:=HF hx
 have h2:((k:Nat):Int)<(e'.2.1.length:Int):=h2
 rw [Og] at h2
 have hk:k<(Ab e'.1).length:=by omega
 have hv:=(Co hx.1).1
 have IA:=KN hv (List.getElem_mem hk)
 have ht:=Fo (Ju.2 ⟨hv,hp⟩)
 refine Eq.mp (Abm _ _ _ _) ⟨e',rfl,(Ab e'.1)[k],by rw [Og];exact Ap hk,_,if_pos ⟨by show goal.length<=4294967296;omega,wj IA,NC hv IA hp⟩,?_⟩
 show Wa goal (Ab e'.1)[k]=Wa goal ((Ab e'.1).getD ((k:Nat):Int).toNat [])
 rw [Int.toNat_natCast,Ch hk]
theorem EK:Sound Try.prog 120 nm:=
 Sound.Dg Bu (Ah l8 At) mixed Try.func120 (by kernel_rfl) (by kernel_rfl) λx h=>Aaw x.1 x.2.1 x.2.2.1 h
def LW (S:Nat->Bool) (i:Nat):List Int:=((List.range i).filter S).map λ(k:Nat)=>(k:Int)
theorem uC (S:Nat->Bool) (i:Nat):LW S (i+1)=if S i=true then LW S i++ [(i:Int)] else LW S i:=by
 unfold LW
 rw [List.range_succ,List.filter_append]
 by_cases h:S i=true
 ·rw [if_pos h];simp [h]
 ·rw [if_neg h];simp [h]
theorem MV (S:Nat->Bool) (i:Nat):(LW S i).length<=i:=by
 unfold LW
 rw [List.length_map]
 exact Nat.le_trans (List.length_filter_le _ _) (by simp)
theorem PF {xs:List Int} {i:Nat} {v:Int} {m:Nat} (hl:xs.length=m) (hi:i<m) {f g:Nat->Int} (h: ∀k,k<m->xs.getD k 0=f k) (hg:g i=v) (Er: ∀k,k≠i->g k=f k): ∀k,k<m->(xs.set i v).getD k 0=g k:= λk hk=>by
 rw [Xs (by omega)]
 by_cases e:i=k
 ·subst e;rw [if_pos rfl,hg]
 ·rw [if_neg e,h k hk,Er k λe'=>e e'.symm]
theorem qc {xs ys:List Int} (h1:xs.length=ys.length) (h: ∀k,k<xs.length->xs.getD k 0=ys.getD k 0):xs=ys:=
 List.ext_getElem h1 λk h2 h3=>by have:=h k h2;rwa [Ch h2,Ch h3] at this
theorem NB {xs:List Int} {k:Nat} (h:k<xs.length):xs[0+((k:Nat):Int).toNat]?=some (xs.getD k 0):=by
 rw [Nat.zero_add,Int.toNat_natCast,List.getElem?_eq_getElem h,Ch h]
theorem JP (e:Option XP) (c:List Int×Option XP×Unit) (h:GJ e/\c.2.1=e/\BF c.1 e):fnW (VS [Hr+6]) (look [(122,Yk),(58,Mz),(120,nm)]) Uz Try.f71 (e,c,()) (λ(z:List Int)=>z=cp e λi=>Mt c.1 e (i:Int)):=by
 obtain ⟨⟨e',rfl,hx⟩,hce,MA⟩:=h
 obtain ⟨goal,ce,⟨⟩⟩:=c
 dsimp only at hce MA
 subst hce
 have Og:=HF hx
 have hwv:=Co hx.1
 have ZA:=cS hwv.1
 have RI:=sZ hwv.1
 have hR:=hZ hx.1
 have hV:=valid hwv.1
 have hlf:=cj hV
 obtain ⟨m,hm⟩: ∃m,(Ab e'.1).length=m:=⟨_,rfl⟩
 obtain ⟨S,hS⟩: ∃S:Nat->Bool,(λ(i:Nat)=>Mt goal (some e') (i:Int))=S:=⟨_,rfl⟩
 have hSi: ∀i:Nat,Mt goal (some e') (i:Int)=S i:= λi=>congrFun hS i
 show fnW _ _ Uz _ _ (λz=>z=kY (Fp e'.1) (λi=>Mt goal (some e') (i:Int)) (Ab e'.1).length)
 rw [hS]
 have Ns: ∀i:Nat,i<m->nm.fn ((i:Int),goal,some e',())=some (S i):= λi hi=>by
  refine (if_pos ⟨MA,by show (0:Int)<=i;omega,?_⟩).trans (congrArg some (hSi i))
  show (i:Int)<((e'.2.1.length:Nat):Int)
  rw [Og];omega
 rw [hm] at ZA RI hR⊢
 refine Eq.mp (LK _ _ _) ⟨e',rfl,((List.replicate m (-1),()),()),?_,e',rfl,(m:Int),?_,rfl,rfl,rfl,rfl,?_⟩
 ·rw [Og,hm]
  refine (if_pos ⟨⟨-1,rfl⟩,by show (1:Int)<=m;omega,by show (m:Int)<=100000;omega⟩).trans ?_
  show some ((List.replicate ((m:Int)).toNat (-1),()),())=_
  rw [Int.toNat_natCast]
 ·exact (if_pos trivial).trans (congrArg some (by show ((e'.2.1.length:Nat):Int)=m;rw [Og,hm]))
 refine Am m (λv=>v.1) (λj v=>v.2.1=LW S j/\v.2.2.1.length=m/\ ∀k,k<m->v.2.2.1.getD k 0=if k<j/\S k=true then 0 else-1) rfl ⟨rfl,by simp,λk hk=>?_⟩ ?_
 ·rw [if_neg (by omega),Ch (by simpa using hk),List.getElem_replicate]
 rintro j ⟨i,q,out,⟨⟩⟩ K hj hi ⟨h1,h2,h3⟩ hK
 dsimp only at hi h1 h2 h3⊢
 subst hi h1
 have hql:=MV S j
 refine Br.dec (λhl=>?_) λhl=>⟨rfl,rfl,rfl,rfl,?_⟩
 ·have hl:j<m:=by omega
  refine ⟨S j,Ns j hl,Br.of (λhs=>?_) λhs=>?_⟩
  ·refine ⟨⟨by omega,by omega⟩,by rw [Int.toNat_natCast];omega,rfl,rfl,by show (LW S j).length+1<=4294967296;omega,rfl,by rw [List.length_set],rfl,rfl,?_⟩
   rw [Ck,Ak (by omega),Int.toNat_natCast,Nat.zero_add]
   refine hK hl _ rfl ⟨?_,by rw [List.length_set];exact h2,?_⟩
   ·show LW S j++ [(j:Int)]=_
    rw [uC,if_pos hs]
   ·refine PF h2 hl h3 (by rw [if_pos ⟨by omega,hs⟩]) λk hk=>?_
    by_cases hc:k<j/\S k=true
    ·rw [if_pos hc,if_pos ⟨by omega,hc.2⟩]
    ·rw [if_neg hc,if_neg λh=>hc ⟨by omega,h.2⟩]
  ·refine ⟨rfl,rfl,rfl,rfl,?_⟩
   rw [Ck,Ak (by omega)]
   refine hK hl _ rfl ⟨?_,h2,λk hk=>?_⟩
   ·show LW S j=_
    rw [uC,if_neg (by rw [hs];decide)]
   ·rw [h3 k hk]
    by_cases hc:k<j/\S k=true
    ·rw [if_pos hc,if_pos ⟨by omega,hc.2⟩]
    ·rw [if_neg hc,if_neg λh=>hc ⟨by
      by_cases e:k=j
      ·subst e;rw [hs] at h;exact absurd h.2 (by decide)
      ·omega,h.2⟩]
 ·have:j=m:=by omega
  subst this
  have rP:out=FZ S j:=qc (by rw [h2];simp [FZ]) λk hk=>by
   rw [h3 k (by omega),Ue (by omega)]
   by_cases hs:S k=true
   ·rw [if_pos ⟨by omega,hs⟩,if_pos hs]
   ·rw [if_neg λh=>hs h.2,if_neg hs]
  subst rP
  rw [Ck]
  show Bj _ (MU S j,FZ S j,PUnit.unit)
  refine Bj.mk (λv=> ∃(q out:List Int) (f T:Nat),v=(q,out,())/\DQ (Fp e'.1) S j out q/\q.length+Zy out<f/\BQ (Fp e'.1) f out q=kY (Fp e'.1) S j/\T+(q.length+Zy out)<=j/\ ∀i,i<j->out.getD i 0<=T) (λv=>v.1.length+Zy v.2.1)
   ⟨MU S j,FZ S j,j+1,0,rfl,uz _ _ _,by rw [JI];omega,rfl,by rw [JI];omega,λi hi=>by rw [Ue hi];split<;>omega⟩ ?_
  rintro v ⟨q,out,f,T,rfl,g1,g2,g3,g4,g5⟩
  dsimp only
  have hol:=g1.base.len
  refine Br.dec (λhl=>?_) λhl=>?_
  ·obtain ⟨x,q',rfl⟩: ∃x q',q=x::q':=by
    cases q with
    |nil=>simp at hl
    |cons x q'=>exact ⟨x,q',rfl⟩
   obtain ⟨x1,x2,x3⟩:=g1.base.inq x (by simp)
   obtain ⟨xn,rfl⟩:=Int.eq_ofNat_of_zero_le x1
   have AN:xn<j:=by omega
   rw [Int.toNat_natCast] at x3
   obtain ⟨f,rfl⟩: ∃f',f=f'+1:=⟨f-1,by omega⟩
   simp only [BQ,Int.toNat_natCast] at g3
   simp only [List.length_cons] at g2 g4
   refine ⟨e',rfl,⟨by omega,by omega⟩,(xn:Int),by simp,Fp e'.1 xn,HE hx (by omega),rfl,rfl,rfl,rfl,?_⟩
   rw [Ck]
   obtain ⟨o1,o2⟩:=List.pairwise_cons.1 g1.base.ord
   simp only [Int.toNat_natCast] at o1
   have hX0:DX (Fp e'.1) S j xn (out.getD xn 0) out q':=by
    refine ⟨⟨g1.base.len,g1.base.ge,λy hy=>g1.base.inq y (List.mem_cons_of_mem _ hy),g1.base.src,g1.base.PH,g1.base.par,λi hi h0 hn hw=>g1.base.done i hi h0 (λhm=>?_) (λh=>h),o2⟩,AN,rfl,x3,o1,?_⟩
    ·rcases List.mem_cons.1 hm with e|hm
     ·exact hw (by omega)
     ·exact hn hm
    ·have:=g1.hi (xn:Int) q' rfl
     rwa [Int.toNat_natCast] at this
   have hnl:(Fp e'.1 xn).length<=16:=by rw [mN];exact hlf
   obtain ⟨d,hd⟩: ∃d,out.getD xn 0=d:=⟨_,rfl⟩
   rw [hd] at hX0
   have hdT:d<=T:=by rw [<-hd];exact g5 xn AN
   refine Am (Fp e'.1 xn).length (λv=>v.1) (λk v=> ∃(qq o:List Int),v=((k:Int),(xn:Int)::qq,o,())/\DX (Fp e'.1) S j xn d o qq/\qq.length+Zy o=q'.length+Zy out/\
     Sx (xn:Int) ((Fp e'.1 xn).drop k) (o,qq)=Sx (xn:Int) (Fp e'.1 xn) (out,q')) rfl ⟨q',out,rfl,hX0,rfl,by rw [List.drop_zero]⟩ ?_
   rintro k v K2 hk YX ⟨qq,o,rfl,hX,hc,Oj⟩ hK2
   dsimp only
   have hXb:=hX.base.len
   refine Br.dec (λIv=>?_) λIv=>?_
   ·have Iv:k<(Fp e'.1 xn).length:=by omega
    have XJ:=hR xn AN _ (List.getElem_mem Iv)
    obtain ⟨tn,UH⟩:=Int.eq_ofNat_of_zero_le XJ.1
    have htj:tn<j:=by omega
    rw [List.drop_eq_getElem_cons Iv] at Oj
    simp only [Sx] at Oj
    have XD:o.getD ((xn:Nat):Int).toNat 0=d:=by rw [Int.toNat_natCast];exact hX.Qu
    refine ⟨_,Ap Iv,?_⟩
    rw [UH] at Oj⊢
    rw [Int.toNat_natCast] at Oj
    refine ⟨⟨by omega,by omega⟩,o.getD tn 0,NB (by omega),Br.dec (λkV=>?_) λkV=>?_⟩
    ·rw [if_pos kV,XD] at Oj
     have AK:=zL hR hX (List.getElem_mem Iv) XJ (by rw [UH,Int.toNat_natCast];exact kV)
     rw [UH,Int.toNat_natCast] at AK
     have XA:=vS (xs:=o) (i:=tn) (v:=d+1) (by omega) kV (by have:=hX.d0;omega)
     have YN:=hX.d0
     refine ⟨⟨by omega,by simp only [List.length_cons];omega⟩,(xn:Int),by simp,⟨by omega,by omega⟩,d,by rw [NB (by omega),<-hX.Qu],⟨by omega,by omega⟩,by rw [Int.toNat_natCast];omega,rfl,rfl,?_,rfl,by rw [List.length_set],rfl,rfl,?_⟩
     ·show qq.length+1+1<=4294967296
      omega
     ·rw [Ck,Ak (by omega),Int.toNat_natCast,Nat.zero_add,Bs (n:=d+1) (by omega) (by omega)]
      refine hK2 Iv _ rfl ⟨qq++ [(tn:Int)],o.set tn (d+1),rfl,AK,?_,Oj⟩
      rw [List.length_append,List.length_singleton]
      omega
    ·rw [if_neg kV] at Oj
     refine ⟨rfl,rfl,rfl,rfl,?_⟩
     rw [Ck,Ak (by omega)]
     exact hK2 Iv _ rfl ⟨qq,o,rfl,hX,hc,Oj⟩
   ·have Iv:k=(Fp e'.1 xn).length:=by omega
    subst Iv
    rw [List.drop_length,Sx] at Oj
    rw [<-Oj] at g3
    have ZM:=(HB hR g1).1
    rw [Int.toNat_natCast,<-Oj] at ZM
    have ht:List.take ((((xn:Int)::qq).length:Int).toNat-Int.toNat (1:Int)) (List.drop (0+Int.toNat (1:Int)) ((xn:Int)::qq))=qq:=by
     rw [Int.toNat_natCast,List.length_cons]
     show List.take (qq.length+1-1) qq=qq
     rw [Nat.add_sub_cancel,List.take_length]
    rw [ht]
    refine ⟨⟨by omega,by simp only [List.length_cons];omega,by omega⟩,rfl,rfl,rfl,rfl,⟨qq,o,f,T+1,rfl,ZM,by omega,g3,by omega,λi hi=>?_⟩,?_⟩
    ·have:=hX.hi i hi
     push_cast
     omega
    ·show qq.length+Zy o<((xn:Int)::q').length+Zy out
     simp only [List.length_cons]
     omega
  ·have:q= []:=by
    cases q with
    |nil=>rfl
    |cons x q'=>simp at hl
   subst this
   rw [Ck]
   cases f with
   |zero=>exact g3
   |succ f=>exact g3
theorem sR:Sound Try.prog 71 Uz:=
 Sound.Dg (VT [Hr+6]) (Ri sT (Ah cO (Ah EK At))) mixed Try.func71 (by kernel_rfl) (by kernel_rfl) λx h=>JP x.1 x.2.1 h
theorem yC (e:Option XP) (goal:List Int) (h:BF goal e):fnW Cu (look [(71,Uz)]) Nl Try.f68 (e,goal,()) (λ(z:List Int)=>z=cp e λi=>Mt goal e (i:Int)):=by
 obtain ⟨e',rfl,h1,h2⟩:=h
 exact Eq.mp (zo _ _ _) ⟨_,if_pos ⟨⟨e',rfl,h1⟩,rfl,e',rfl,h1,h2⟩,rfl⟩
theorem nD:Sound Try.prog 68 Nl:=
 Sound.Dg Bu (Ah sR At) mixed Try.func68 (by kernel_rfl) (by kernel_rfl) λx h=>yC x.1 x.2.1 h
theorem Aat (y:Int) (d:List Int) (i:Int) (h:(0<=y/\y<(List.length d:Int))/\0<=i/\i<(List.length d:Int)):fnW Cu (look []) qE Try.f119 (y,d,i,()) (λ(z:Bool)=>z=decide (Cc d y<Cc d i)):=
 Eq.mp (Abj y d i _) ⟨_,Um h.1.1 h.1.2,_,Um h.2.1 h.2.2,rfl⟩
theorem EH:Sound Try.prog 119 qE:=
 Sound.Dg Bu At mixed Try.func119 (by kernel_rfl) (by kernel_rfl) λx h=>Aat x.1 x.2.1 x.2.2.1 h
theorem VE (xs:List Int) (c:List Int×Int×Unit) (h:short xs/\Gw (List.length c.1) xs/\0<=c.2.1/\c.2.1<(List.length c.1:Int)):fnW Cu (look [(119,qE)]) jv Try.f118 (xs,c,()) (λ(z:Int)=>z=Bw (λy=>decide (Cc c.1 y<Cc c.1 c.2.1)) xs 0):=by
 obtain ⟨h,h5,h6⟩:=h
 unfold short at h
 refine Eq.mp (WC xs c _) ?_
 refine Am xs.length (λv=>v.1) (λj _=>Bw (λy=>decide (Cc c.1 y<Cc c.1 c.2.1)) (xs.drop j) j=Bw (λy=>decide (Cc c.1 y<Cc c.1 c.2.1)) xs 0) rfl (by simp) ?_
 rintro j ⟨i,⟨⟩⟩ K hj hi hR hK
 dsimp only at hi⊢
 subst hi
 refine Br.dec (λhl=>?_) λhl=>?_
 ·have hl:j<xs.length:=by omega
  rw [List.drop_eq_getElem_cons hl] at hR
  simp only [Bw] at hR
  refine ⟨_,Ap hl,_,if_pos ⟨h5 _ (List.getElem_mem hl),h6⟩,⟨λhe=>?_,λhe=>?_⟩⟩
  ·have he:decide (Cc c.1 xs[j]<Cc c.1 c.2.1)=true:=he
   rw [if_pos he] at hR
   exact hR
  ·have he:decide (Cc c.1 xs[j]<Cc c.1 c.2.1)=false:=he
   rw [if_neg (by rw [he];decide)] at hR
   rw [Ak (by omega)]
   exact hK hl _ rfl (by push_cast;exact hR)
 ·have:j=xs.length:=by omega
  subst this
  rw [List.drop_length] at hR
  exact hR
theorem z9:Sound Try.prog 118 jv:=
 Sound.Dg Bu (Ah EH At) mixed Try.func118 (by kernel_rfl) (by kernel_rfl) λx h=>VE x.1 x.2.1 h
theorem j8 {α:Type} {P:α->Bool} : ∀(l:List α) (i:Nat),l.any P=true-> ∃k,∃h:k<l.length,Bw P l (i:Int)=((i+k:Nat):Int)/\P l[k]=true/\ ∀j (h:j<k),P (l[j]'(by omega))=false
 | [],i,h=>by simp at h
 |y::r,i,h=>by
  simp only [Bw]
  by_cases hy:P y=true
  ·rw [if_pos hy]
   exact ⟨0,by simp,rfl,hy,λj hj=>absurd hj (Nat.not_lt_zero _)⟩
  ·rw [if_neg hy]
   have hr:r.any P=true:=by
    rw [List.any_cons,Bool.or_eq_true] at h
    exact h.resolve_left hy
   obtain ⟨k,hk,h1,h2,h3⟩:=j8 r (i+1) hr
   refine ⟨k+1,by simpa using hk,?_,h2,λj hj=>?_⟩
   ·rw [show ((i:Int)+1)=((i+1:Nat):Int) by push_cast;rfl,h1]
    congr 1
    omega
   ·cases j with
    |zero=>exact Bool.not_eq_true _|>.mp hy
    |succ j=>exact h3 j (by omega)
theorem MT {p:PP} (hw:Bp p=true) {d:List Int} (h:xh p d) {i:Nat} (hi:i<d.length) (hp:0<d.getD i 0):
  ∃k,∃(h1:k<(Ag p.2.2.1.length).length) (h2:k<(Fp p i).length),Bw (λy=>decide (Cc d y<Cc d (i:Int))) (Fp p i) 0=(k:Int)/\
   ∃t:Nat,(Fp p i)[k]=(t:Int)/\t<d.length/\d.getD t 0<d.getD i 0:=by
 obtain ⟨t,ht,htl⟩:=h.dn i hi hp
 have SX:(Fp p i).any (λy=>decide (Cc d y<Cc d (i:Int)))=true:=List.any_eq_true.2 ⟨t,ht,decide_eq_true htl⟩
 obtain ⟨k,hk,h1,h2,_⟩:=j8 (Fp p i) 0 SX
 have hl:=h.len
 obtain ⟨r1,r2⟩:=hZ hw i (by omega) _ (List.getElem_mem hk)
 obtain ⟨tn,UH⟩:=Int.eq_ofNat_of_zero_le r1
 refine ⟨k,by rw [<-mN];exact hk,hk,by rw [Nat.zero_add] at h1;exact h1,tn,UH,by omega,?_⟩
 have h2:=of_decide_eq_true h2
 unfold Cc at h2
 rw [UH,Int.toNat_natCast,Int.toNat_natCast] at h2
 exact h2
theorem DE (e:Option XP) (d:List Int) (i:Int) (h: ∃e':XP,e=some e'/\tX e'/\xh e'.1 d/\0<=i/\i<(List.length d:Int)):
  fnMW zh (look [(117,Ie),(118,jv)]) Qn Try.f67 (e,d,i,()) (λ(z:(List Int×Int×Bool×Unit)×Unit)=>z=sj e d i):=by
 obtain ⟨e',rfl,hx,hd,h1,h2⟩:=h
 have hwv:=Co hx.1
 have hV:=valid hwv.1
 have hf:=hV.oe
 have hdl:=hd.len
 refine Eq.mp (FJ _ _ _ _) ⟨_,Um h1 h2,?_⟩
 show Br _ (_=(Tl e'.1 d i,())) _
 unfold sj Tl
 dsimp only
 refine Br.dec (λhb=>by rw [if_pos hb];rfl) λhb=>?_
 rw [if_neg hb]
 refine ⟨e',rfl,Ag e'.1.2.2.1.length,(if_pos ⟨by show (0:Int)<=((e'.1.2.2.1.length:Nat):Int);omega,by show ((e'.1.2.2.1.length:Nat):Int)<=8;omega⟩).trans (congrArg some (by show Ag (((e'.1.2.2.1.length:Nat):Int)).toNat=_;rw [Int.toNat_natCast])),rfl,rfl,?_⟩
 have hnn: ∀k:Nat,k<d.length->0<=Cc d (k:Int):= λk hk=>by unfold Cc;rw [Int.toNat_natCast];exact hd.nn k hk
 obtain ⟨R,hRR⟩: ∃R,Ud (Fp e'.1) (Ag e'.1.2.2.1.length) d (Cc d i).toNat i []=R:=⟨_,rfl⟩
 rw [hRR]
 obtain ⟨i0,rfl⟩:=Int.eq_ofNat_of_zero_le h1
 refine Bj.mk (λv=> ∃(k:Nat) (w:List Int) (f:Nat),v=(d,(k:Int),w,())/\k<d.length/\Cc d (k:Int)<=f/\w.length+f<=200/\Ud (Fp e'.1) (Ag e'.1.2.2.1.length) d f (k:Int) w=R) (λv=>(Cc d v.2.1).toNat)
  ⟨i0,[],(Cc d (i0:Int)).toNat,rfl,by omega,by omega,by have:=hnn i0 (by omega);simp only [List.length_nil];omega,hRR⟩ ?_
 rintro v ⟨k,w,f,rfl,k1,k2,k3,k4⟩
 dsimp only
 refine ⟨Cc d (k:Int),Um (by omega) (by omega),Br.dec (λhl=>?_) λhl=>?_⟩
 ·have Hc:0<d.getD k 0:=by unfold Cc at hl;rwa [Int.toNat_natCast] at hl
  obtain ⟨f,rfl⟩: ∃f',f=f'+1:=⟨f-1,by omega⟩
  obtain ⟨n,n1,n2,n3,t,n4,n5,n6⟩:=MT hx.1 hd k1 Hc
  simp only [Ud] at k4
  rw [if_pos hl,Int.toNat_natCast,n3,Int.toNat_natCast,Ch n2,n4,Ch n1] at k4
  have hnl:(Fp e'.1 k).length<=16:=by rw [mN];exact cj hV
  have Aew:Gw d.length (Fp e'.1 k):= λy hy=>by
   have:=hZ hx.1 k (by omega) y hy
   omega
  refine ⟨e',rfl,Fp e'.1 k,HE hx (by omega),(n:Int),(if_pos ⟨by show (Fp e'.1 k).length<=4294967296;omega,Aew,by show (0:Int)<=(k:Int);omega,by show (k:Int)<(d.length:Int);omega⟩).trans (congrArg some n3),_,Ap n1,rfl,rfl,?_,e',rfl,Fp e'.1 k,HE hx (by omega),(t:Int),by rw [Ap n2,n4],rfl,rfl,?_⟩
  ·show w.length+1<=4294967296;omega
  ·have e6:Cc d (t:Int)<Cc d (k:Int):=by unfold Cc;rw [Int.toNat_natCast,Int.toNat_natCast];exact n6
   have h0:=hnn t n5
   refine ⟨⟨t,w++ [(Ag e'.1.2.2.1.length)[n]],f,rfl,n5,by omega,by rw [List.length_append,List.length_singleton];omega,k4⟩,?_⟩
   show (Cc d (t:Int)).toNat<(Cc d (k:Int)).toNat
   omega
 ·rw [Ck]
  have:Ud (Fp e'.1) (Ag e'.1.2.2.1.length) d f (k:Int) w=(w,(k:Int)):=by
   cases f with
   |zero=>rfl
   |succ f=>simp only [Ud];rw [if_neg (by omega)]
  rw [this] at k4
  subst k4
  rfl
theorem pd:Ea Try.prog 67 Qn:=
 Ea.CU tt (Ah Xb (Ah z9 At)) mixed Try.func67 (by kernel_rfl) (by kernel_rfl) λx h=>DE x.1 x.2.1 x.2.2.1 h
end Go.Proofs.Ytjbdmibbbpdnnaa

namespace Go.Proofs.Ytjbdmibbbpdnnaa
open Go.RowKit
theorem Ln {s q t:List Int} (h:Gw s.length t):Cf (Aa s q) t=Aa (Cf s t) q:=by
 unfold Cf Aa
 rw [List.map_map]
 refine List.map_congr_left λy hy=>?_
 obtain ⟨h1,h2⟩:=h y hy
 have hy':y.toNat<s.length:=by omega
 show Cc (s.map (Cc q)) y=Cc q (Cc s y)
 unfold Cc
 rw [Ch (by rw [List.length_map];exact hy'),List.getElem_map,Ch hy']
 try rfl
theorem jo {n:Nat} {t:List Int} (h: ∀y∈t,0<=y/\y<(n:Int)):Cf (upto n) t=t:=by
 unfold Cf
 refine (List.map_congr_left λy hy=>?_).trans (List.map_id t)
 obtain ⟨h1,h2⟩:=h y hy
 obtain ⟨k,rfl⟩:=Int.eq_ofNat_of_zero_le h1
 have hk:k<n:=by omega
 show Cc (upto n) (k:Int)=(k:Int)
 unfold Cc
 rw [Int.toNat_natCast,List.getD_eq_getElem?_getD,o5 hk]
 rfl
theorem sat_iff {goal s:List Int} :Wa goal s=true↔Cf s goal=goal:=by
 unfold Wa Cf
 rw [List.all_eq_true]
 constructor
 ·intro h
  exact (List.map_congr_left λy hy=>of_decide_eq_true (h y hy)).trans (List.map_id goal)
 ·intro h y hy
  obtain ⟨j,hj,rfl⟩:=List.mem_iff_getElem.1 hy
  have h2:(goal.map (Cc s))[j]?=goal[j]?:=congrArg (λz:List Int=>z[j]?) h
  rw [List.getElem?_map,List.getElem?_eq_getElem hj] at h2
  exact decide_eq_true (Option.some.inj h2)
theorem bT {p:PP} (hv:Bh p=true):(Ab p).getD 0 []=upto p.1.toNat/\upto p.1.toNat∈Ab p:=by
 obtain ⟨A,h⟩:=(Yh hv).first
 have h:Ab p=upto p.1.toNat::A:=h
 rw [h]
 exact ⟨rfl,by simp⟩
noncomputable def Ww (p:PP) (t:List Int):List (List Int):=(Dm p.2.2.1 t).1
noncomputable def sl (p:PP) (t:List Int):List Int:=(Dm p.2.2.1 t).2.1
noncomputable def Dt (p:PP) (t x:List Int):Int:=ki (Ww p t) (sl p t) x
theorem cV {p:PP} {t:List Int} (ht:Dd p t=true): ∀y∈t,0<=y/\y<((p.1.toNat:Nat):Int):= λy hy=>by
 have h1:=(Fo ht).2 y hy
 have:=(valid (Ju.1 ht).1).n
 omega
theorem DR {p:PP} {t:List Int} (hw:Bp p=true) (ht:Dd p t=true):(Dm p.2.2.1 t).2.2=true:=by
 have hv:=(Co hw).1
 have hV:=valid hv
 obtain ⟨t1,t2⟩:=Fo ht
 have Xy:=mX ht
 obtain ⟨a1,_,a3⟩:=zG hv t1 t2 (λx=> ∃s∈Ab p,x=Cf s t) ⟨_,(bT hv).2,(jo (cV ht)).symm⟩ λx ⟨s,hs,hx⟩ l hl=>by
  refine ⟨_,(Od hw).next s hs l hl,?_⟩
  rw [hx,Ln (dx hv hs ht)]
 refine Classical.byContradiction λhn=>?_
 obtain ⟨h1,z,⟨s,hs,hz⟩,h3⟩:=a3 (by simpa using hn)
 have h5:=cr (l1:=z::(Dm p.2.2.1 t).1) (l2:=(Ab p).map λs=>Cf s t) (List.nodup_cons.2 ⟨h3,Xy.ok.nodup⟩) λx hx=>by
  rcases List.mem_cons.1 hx with rfl|hx
  ·exact List.mem_map.2 ⟨s,hs,hz.symm⟩
  ·obtain ⟨s',pX,e⟩:=a1 x hx
   exact List.mem_map.2 ⟨s',pX,e.symm⟩
 have h6:=cS hv
 simp only [List.length_cons,List.length_map] at h5
 omega
theorem Ir.congr {g:List (List Int)} {ls:List Int} {L:List (List Int)} {S S':List Int->Prop} {d:List Int->Int} (h:Ir g ls L S d) (e: ∀x∈L,S x↔S' x):Ir g ls L S' d:=
 ⟨h.nn,λx hx=>(h.zero x hx).trans (e x hx),h.step,h.down⟩
theorem a7 {p:PP} {t:List Int} (hw:Bp p=true) (ht:Dd p t=true):iH p.2.2.1 (Ag p.2.2.1.length) (Ww p t) (sl p t):=
 eZ (Co hw).1 (Fo ht).1 (Fo ht).2 (DR hw ht)
theorem qo {p:PP} {t:List Int} (ht:Dd p t=true):(Ww p t).getD 0 []=t/\t∈Ww p t:=by
 obtain ⟨_,A,h⟩:=rf (Ju.1 ht).1 (Fo ht).1 (Fo ht).2
 have h:Ww p t=t::A:=h
 rw [h]
 exact ⟨rfl,by simp⟩
theorem sy {p:PP} {t:List Int} (hw:Bp p=true) (ht:Dd p t=true): ∀s∈Ab p,Cf s t∈Ww p t:=by
 have hv:=(Co hw).1
 have hc:=Wv (valid hv) (mX ht) (a7 hw ht)
 refine iv hw (λs=>Cf s t∈Ww p t) (λx hx hq l hl=>?_) (bT hv).2 ?_
 ·rw [Ln (dx hv hx ht)]
  exact hc.next _ hq l hl
 ·rw [jo (cV ht)]
  exact (qo ht).2
theorem JY {p:PP} {t:List Int} (hw:Bp p=true) (ht:Dd p t=true):
  Ir p.2.2.1 (Ag p.2.2.1.length) (Ab p) (λs=>Wa t s=true) (λs=>Dt p t (Cf s t)):=by
 have hv:=(Co hw).1
 have hd:=ck (valid hv) (mX ht) (a7 hw ht)
 have Oj:=sy hw ht
 refine ⟨λx hx=>hd.nn _ (Oj x hx),λx hx=>(hd.zero _ (Oj x hx)).trans ?_,λx hx l hl=>?_,λx hx h0=>?_⟩
 ·rw [show (Dm p.2.2.1 t).1.getD 0 []=t from (qo ht).1]
  exact sat_iff.symm
 ·rw [Ln (dx hv hx ht)]
  exact hd.step _ (Oj x hx) l hl
 ·obtain ⟨l,hl,h1⟩:=hd.down _ (Oj x hx) h0
  refine ⟨l,hl,?_⟩
  rw [Ln (dx hv hx ht)]
  exact h1
noncomputable def jc (p:PP) (goal:List Int):List Int:=kY (Fp p) (λi=>Wa goal ((Ab p).getD i [])) (Ab p).length
theorem XX {p:PP} (hw:Bp p=true) (goal:List Int):cp (some (Jy p)) (λi=>Mt goal (some (Jy p)) (i:Int))=jc p goal:=by
 show kY (Fp p) (λi=>Wa goal ((Ab p).getD ((i:Nat):Int).toNat [])) (Ab p).length=_
 rfl
theorem UO {p:PP} {t:List Int} (ht:Dd p t=true):Wa t (upto p.1.toNat)=true:=sat_iff.2 (jo (cV ht))
theorem lj {p:PP} {t:List Int} (hw:Bp p=true) (ht:Dd p t=true):
  Ir p.2.2.1 (Ag p.2.2.1.length) (Ab p) (λs=>Wa t s=true) (λx=>(jc p t).getD ((Ab p).idxOf x) 0):=by
 have hv:=(Co hw).1
 have j6:=sZ hv
 refine (MX hw (λi=>Wa t ((Ab p).getD i [])) (i0:=0) (by omega) (by rw [(bT hv).1];exact UO ht)).congr λx hx=>?_
 have h1:=List.idxOf_lt_length_of_mem hx
 rw [Ch h1,List.getElem_idxOf h1]
theorem QL {p:PP} {t:List Int} (hw:Bp p=true) (ht:Dd p t=true) {x:List Int} (hx:x∈Ab p):(jc p t).getD ((Ab p).idxOf x) 0=Dt p t (Cf x t):=
 (lj hw ht).eq (Od hw) (JY hw ht) hx
theorem MR {p:PP} (hw:Bp p=true) {S:List Int->Prop} {d:List Int} (hl:d.length=(Ab p).length) (h:Ir p.2.2.1 (Ag p.2.2.1.length) (Ab p) S (λx=>d.getD ((Ab p).idxOf x) 0)):xh p d:=by
 have oJ:=(wI hw).nodup
 refine ⟨hl,λi hi=>?_,λi hi h0=>?_⟩
 ·have:=h.nn _ (Ig (show i<(Ab p).length by omega))
  rwa [Hp oJ (by omega)] at this
 ·have gM:i<(Ab p).length:=by omega
  obtain ⟨l,h1,h2⟩:=h.down _ (Ig gM) (by rw [Hp oJ gM];exact h0)
  rw [Hp oJ gM] at h2
  refine ⟨_,List.mem_map.2 ⟨l,h1,rfl⟩,?_⟩
  rw [Int.toNat_natCast,h2]
  omega
theorem HI {p:PP} (hw:Bp p=true) (t:List Int):(jc p t).length=(Ab p).length:=(QI (hZ hw)).len
theorem HH {p:PP} {t:List Int} (hw:Bp p=true) (ht:Dd p t=true):xh p (jc p t):=MR hw (HI hw t) (lj hw ht)
def fO (g:List (List Int)) (dep:List Int->Int) (ls:List Int):Nat->List Int->List Int->List Int×List Int
 |0,x,w=>(w,x)
 |n+1,x,w=>match ls.find? (λl=>decide (dep (Aa x (Af g l))=n)) with
  |some l=>fO g dep ls n (Aa x (Af g l)) (w++ [l])
  |none=>fO g dep ls n x w
theorem zP {α:Type} {P:α->Bool} : ∀(l:List α) (k:Nat) (h:k<l.length),P l[k]=true->(∀j (hj:j<k),P (l[j]'(by omega))=false)->l.find? P=some l[k]
 | [],k,h,_,_=>by simp at h
 |y::r,0,_,h1,_=>by rw [List.find?_cons_of_pos (show P y=true from h1)];rfl
 |y::r,k+1,h,h1,h2=>by
  rw [List.find?_cons_of_neg (by have:=h2 0 (by omega);simp at this;simp [this])]
  exact zP r k (by simpa using h) h1 λj hj=>h2 (j+1) (by omega)
theorem xI {p:PP} (hw:Bp p=true) {S:List Int->Prop} {d:List Int} (NN:xh p d) (hd:Ir p.2.2.1 (Ag p.2.2.1.length) (Ab p) S (λx=>d.getD ((Ab p).idxOf x) 0))
  {see:List Int->List Int} {dep:List Int->Int} (hs: ∀x∈Ab p,∀l∈Ag p.2.2.1.length,see (Aa x (Af p.2.2.1 l))=Aa (see x) (Af p.2.2.1 l))
  (he: ∀x∈Ab p,d.getD ((Ab p).idxOf x) 0=dep (see x)):
  ∀(n i:Nat) (w:List Int),i<(Ab p).length->d.getD i 0=n->
   (Ud (Fp p) (Ag p.2.2.1.length) d n (i:Int) w).1=(fO p.2.2.1 dep (Ag p.2.2.1.length) n (see ((Ab p).getD i [])) w).1/\
   (Ud (Fp p) (Ag p.2.2.1.length) d n (i:Int) w).1.length=w.length+n/\
   ∃j:Nat,(Ud (Fp p) (Ag p.2.2.1.length) d n (i:Int) w).2=(j:Int)/\j<(Ab p).length/\d.getD j 0=0/\see ((Ab p).getD j [])=(fO p.2.2.1 dep (Ag p.2.2.1.length) n (see ((Ab p).getD i [])) w).2
 |0,i,w,hi,e=>⟨rfl,rfl,i,rfl,hi,e,rfl⟩
 |n+1,i,w,hi,e=>by
  have oJ:=(wI hw).nodup
  have hl:=NN.len
  have j6:0<d.getD i 0:=by omega
  have hg:Cc d (i:Int)=d.getD i 0:=by unfold Cc;rw [Int.toNat_natCast]
  obtain ⟨t0,OC,htl⟩:=NN.dn i (by omega) j6
  have SX:(Fp p i).any (λy=>decide (Cc d y<Cc d (i:Int)))=true:=List.any_eq_true.2 ⟨t0,OC,decide_eq_true htl⟩
  obtain ⟨k,hk,k1,k2,k3⟩:=j8 (Fp p i) 0 SX
  have k1:Bw (λy=>decide (Cc d y<Cc d (i:Int))) (Fp p i) 0=(k:Int):=by rw [Nat.zero_add] at k1;exact k1
  have Iv:k<(Ag p.2.2.1.length).length:=by rw [<-mN p i];exact hk
  have hx:=Ig (L:=Ab p) hi
  have WR: ∀j (hj:j<(Ag p.2.2.1.length).length),∃h2:j<(Fp p i).length,(Fp p i)[j]=(((Ab p).idxOf (Aa ((Ab p).getD i []) (Af p.2.2.1 (Ag p.2.2.1.length)[j])):Nat):Int):= λj hj=>
   ⟨by rw [mN];exact hj,by simp only [Fp,qf,List.getElem_map]⟩
  have mr: ∀j (hj:j<(Ag p.2.2.1.length).length) (h2:j<(Fp p i).length),decide (Cc d (Fp p i)[j]<Cc d (i:Int))=decide (dep (Aa (see ((Ab p).getD i [])) (Af p.2.2.1 (Ag p.2.2.1.length)[j]))=n):= λj hj h2=>by
   obtain ⟨_,h3⟩:=WR j hj
   have xT:=List.getElem_mem hj
   have h4:=hd.CV (Od hw) hx xT
   rw [Hp oJ hi] at h4
   have h5:=he _ ((Od hw).next _ hx _ xT)
   rw [hs _ hx _ xT] at h5
   rw [h3,hg,<-h5]
   unfold Cc
   rw [Int.toNat_natCast,Bool.eq_iff_iff,decide_eq_true_iff,decide_eq_true_iff]
   omega
  have zZ:(Ag p.2.2.1.length).find? (λl=>decide (dep (Aa (see ((Ab p).getD i [])) (Af p.2.2.1 l))=n))=some (Ag p.2.2.1.length)[k]:=by
   refine zP _ k Iv ?_ λj hj=>?_
   ·rw [<-mr k Iv hk];exact k2
   ·rw [<-mr j (by omega) (by omega)];exact k3 j hj
  obtain ⟨_,hkn⟩:=WR k Iv
  have xT:=List.getElem_mem Iv
  obtain ⟨n1,n2⟩:=yt hw hi xT
  have fp:Cc d (i:Int)>0:=by rw [hg];exact j6
  simp only [Ud,fO]
  rw [if_pos fp,Int.toNat_natCast,k1,Int.toNat_natCast,Ch hk,hkn,Ch Iv,zZ]
  dsimp only
  have hdk:d.getD ((Ab p).idxOf (Aa ((Ab p).getD i []) (Af p.2.2.1 (Ag p.2.2.1.length)[k]))) 0=n:=by
   have h6:=of_decide_eq_true ((mr k Iv hk).symm.trans k2)
   rw [he _ ((Od hw).next _ hx _ xT),hs _ hx _ xT]
   exact h6
  obtain ⟨r1,r2,r3⟩:=xI hw NN hd hs he n _ (w++ [(Ag p.2.2.1.length)[k]]) n1 hdk
  rw [n2,hs _ hx _ xT] at r1 r3
  refine ⟨r1,?_,r3⟩
  rw [r2,List.length_append,List.length_singleton]
  omega
end Go.Proofs.Ytjbdmibbbpdnnaa

namespace Go.Proofs.Ytjbdmibbbpdnnaa
open Go.RowKit
noncomputable abbrev Ny:Spec:=Dg (.pair ay (.pair tL .unit)) tI false true (λx=>Cw (List.length x.2.1) x.1.1 x.1.2.2.1/\List.length x.1.2.1=List.length x.1.1) (λx=>ki x.1.1 x.1.2.1 x.2.1)
noncomputable def Ed (p:PP) (goal s:List Int):List Int:=(fO p.2.2.1 (Dt p goal) (Ag p.2.2.1.length) (Dt p goal (Cf s goal)).toNat (Cf s goal) []).1
noncomputable abbrev Va:Spec:=Dg (.pair Eh (.pair tL (.pair tL .unit))) tL false true (λx=>Eu x.1/\Dd x.1 x.2.1=true/\Bp x.1=true/\x.2.2.1∈Ab x.1) (λx=>Ed x.1 x.2.1 x.2.2.1)
theorem FI (f:List (List Int)×List Int×List Int×Bool×Unit) (s:List Int) (P:Int->Prop):(∃(y3:Int),Pe.fn ((f.1,f.2.1,f.2.2.1,f.2.2.2.1,()),s,())=some y3/\Br (decide (y3<(0:Int))) (P (-1:Int)) (∃(y4:Int),idx f.2.1 y3=some y4/\P y4))=fnW Cu (look [(54,Pe)]) Ny Try.f114 (f,s,()) P:=by kernel_rfl
abbrev dI:Type:=List Int×Int×Int×ByteArray×List (List Int)×List (List Int)×List Int×List Int×Bool×List Int×PUnit
theorem LO (p:Int×ByteArray×List (List Int)×Unit) (goal s:List Int) (P:List Int->Prop):(∃(y4:List (List Int)×List Int×List Int×Bool×PUnit),Da.fn ((p.1,p.2.1,p.2.2.1,()),goal,())=some y4/\ ∃(y5:List Int),Ip.fn ((p.1,p.2.1,p.2.2.1,()),())=some y5/\ ∃(y6:List Int),Ts.fn (goal,s,())=some y6/\ ∃(y7:Int),Ny.fn ((y4.1,y4.2.1,y4.2.2.1,y4.2.2.2.1,()),y6,())=some y7/\0=0/\0=([]:List Int).length/\Bj (λ(v8:dI) (k9:dI->Prop)=>Br (decide (v8.2.1>(0:Int))) (0=0/\v8.2.2.2.2.2.2.2.2.2.1.length=v8.2.2.2.2.2.2.2.2.2.1.length/\Bj (λ(v10:dI) (k11:dI->Prop)=>Br (decide (v10.2.1<(↑y5.length:Int))) (∃(lb:Int),idx y5 v10.2.1=some lb/\ ∃(eO:List Int),Kj.fn ((v10.2.2.1,v10.2.2.2.1,v10.2.2.2.2.1,()),v10.1,lb,())=some eO/\ ∃(Yu:Int),Ny.fn ((v10.2.2.2.2.2.1,v10.2.2.2.2.2.2.1,v10.2.2.2.2.2.2.2.1,v10.2.2.2.2.2.2.2.2.1,()),eO,())=some Yu/\Br (Yu==IntKind.i64.wrap (v8.2.1-(1:Int))) (∃(dd:Int),idx y5 v10.2.1=some dd/\0=0/\v10.2.2.2.2.2.2.2.2.2.1.length=v10.2.2.2.2.2.2.2.2.2.1.length/\v10.2.2.2.2.2.2.2.2.2.1.length+(List.take 1 (List.drop 0 [dd])).length<=Bo/\0=0/\(v10.2.2.2.2.2.2.2.2.2.1++List.take 1 (List.drop 0 [dd])).length=(v10.2.2.2.2.2.2.2.2.2.1++List.take 1 (List.drop 0 [dd])).length/\k9 (eO,IntKind.i64.wrap (v8.2.1-(1:Int)),v10.2.2.1,v10.2.2.2.1,v10.2.2.2.2.1,v10.2.2.2.2.2.1,v10.2.2.2.2.2.2.1,v10.2.2.2.2.2.2.2.1,v10.2.2.2.2.2.2.2.2.1,v10.2.2.2.2.2.2.2.2.2.1++List.take 1 (List.drop 0 [dd]),())) (0=0/\v10.2.2.2.2.2.2.2.2.2.1.length=v10.2.2.2.2.2.2.2.2.2.1.length/\k11 (v10.1,IntKind.i64.wrap (v10.2.1+(1:Int)),v10.2.2.1,v10.2.2.2.1,v10.2.2.2.2.1,v10.2.2.2.2.2.1,v10.2.2.2.2.2.2.1,v10.2.2.2.2.2.2.2.1,v10.2.2.2.2.2.2.2.2.1,v10.2.2.2.2.2.2.2.2.2.1,()))) (0=0/\v10.2.2.2.2.2.2.2.2.2.1.length=v10.2.2.2.2.2.2.2.2.2.1.length/\k9 (v10.1,IntKind.i64.wrap (v8.2.1-(1:Int)),v10.2.2.1,v10.2.2.2.1,v10.2.2.2.2.1,v10.2.2.2.2.2.1,v10.2.2.2.2.2.2.1,v10.2.2.2.2.2.2.2.1,v10.2.2.2.2.2.2.2.2.1,v10.2.2.2.2.2.2.2.2.2.1,()))) (v8.1,(0:Int),v8.2.2.1,v8.2.2.2.1,v8.2.2.2.2.1,v8.2.2.2.2.2.1,v8.2.2.2.2.2.2.1,v8.2.2.2.2.2.2.2.1,v8.2.2.2.2.2.2.2.2.1,v8.2.2.2.2.2.2.2.2.2.1,PUnit.unit)) (P (List.take v8.2.2.2.2.2.2.2.2.2.1.length (List.drop 0 v8.2.2.2.2.2.2.2.2.2.1)))) (y6,y7,p.1,p.2.1,p.2.2.1,y4.1,y4.2.1,y4.2.2.1,y4.2.2.2.1,[],PUnit.unit))=fnW Cu (look [(112,Da),(96,Ip),(113,Ts),(114,Ny),(115,Kj)]) Va Try.f64 (p,goal,s,()) P:=by kernel_rfl
theorem DD (f:SS) (s:List Int) (h:Cw (List.length s) f.1 f.2.2.1/\List.length f.2.1=List.length f.1):fnW Cu (look [(54,Pe)]) Ny Try.f114 (f,s,()) (λ(z:Int)=>z=ki f.1 f.2.1 s):=by
 obtain ⟨h1,h2⟩:=h
 refine Eq.mp (FI f s _) ⟨_,if_pos h1,?_⟩
 show Br (decide (er f.1 s<0)) _ _
 unfold er ki
 by_cases hm:s∈f.1
 ·have hl:=List.idxOf_lt_length_of_mem hm
  rw [if_pos hm,if_pos hm]
  refine Br.dec (λhn=>absurd hn (by omega)) λ_=>?_
  have kU:List.idxOf s f.1<f.2.1.length:=by omega
  refine ⟨f.2.1[List.idxOf s f.1],?_,by rw [Ch kU]⟩
  show idx f.2.1 (if s∈f.1 then ((List.idxOf s f.1:Nat):Int) else-1)=_
  rw [if_pos hm]
  exact Ap kU
 ·rw [if_neg hm,if_neg hm]
  exact ⟨λ_=>rfl,λhn=>by simp at hn⟩
theorem pc:Sound Try.prog 114 Ny:=
 Sound.Dg Bu (Ah ir At) mixed Try.func114 (by kernel_rfl) (by kernel_rfl) λx h=>DD x.1 x.2.1 h
theorem jn {p:PP} {goal:List Int} (hw:Bp p=true) (ht:Dd p goal=true) {x:List Int} (hx:x∈Ww p goal):0<=Dt p goal x/\Dt p goal x<=3000:=by
 have Xy:=mX ht
 have uX:=Xy.ok.oe
 refine ⟨(ck (valid (Co hw).1) Xy (a7 hw ht)).nn x hx,?_⟩
 obtain ⟨i,hi,rfl⟩:=List.mem_iff_getElem.1 hx
 have hiD:i<(Dm p.2.2.1 goal).2.1.length:=by rw [Xy.len];exact hi
 have h1:=Xy.dep i hiD
 have h2:Dt p goal ((Ww p goal)[i])=(sl p goal).getD i 0:=by
  rw [<-Ch (d:= []) hi];exact ff Xy.ok.nodup hi
 have h3:(sl p goal).getD i 0=(Dm p.2.2.1 goal).2.1[i]:=Ch hiD
 rw [h2,h3]
 have:i<(Dm p.2.2.1 goal).1.length:=hi
 omega
theorem JT (p:PP) (goal s:List Int) (h:Eu p/\Dd p goal=true/\Bp p=true/\s∈Ab p):fnW Cu (look [(112,Da),(96,Ip),(113,Ts),(114,Ny),(115,Kj)]) Va Try.f64 (p,goal,s,()) (λ(z:List Int)=>z=Ed p goal s):=by
 obtain ⟨hp,ht,hw,hs⟩:=h
 have hv:=(Co hw).1
 have hV:=valid hv
 have hn:=hV.n
 obtain ⟨t1,t2⟩:=Fo ht
 have Xy:=mX ht
 have uX:=Xy.ok.oe
 have YZ:=a7 hw ht
 have hc:=Wv hV Xy YZ
 have hd:=ck hV Xy YZ
 have OG:=sy hw ht s hs
 obtain ⟨ls,ka⟩: ∃ls,Ag p.2.2.1.length=ls:=⟨_,rfl⟩
 have j5: ∀l∈ls,Em (List.length p.2.2.1) l:= λl hl=>Il (ka▸hl)
 have GB: ∀x,ki (Dm p.2.2.1 goal).1 (Dm p.2.2.1 goal).2.1 x=Dt p goal x:= λx=>rfl
 rw [ka] at hc hd
 have hdo: ∀x:List Int,x.length=goal.length->Ny.fn (((Dj p.2.2.1 goal).1,(Dj p.2.2.1 goal).2.1,(Dj p.2.2.1 goal).2.2.1,(Dj p.2.2.1 goal).2.2.2.1,()),x,())=some (Dt p goal x):= λx hx=>
  if_pos ⟨by show Cw x.length (Dm p.2.2.1 goal).1 (Ve (Dm p.2.2.1 goal).1);rw [hx];exact Xy.ok,Xy.len⟩
 have dr:(Cf s goal).length=goal.length:=wi _ _
 have hlf:=cj hV
 rw [ka] at hlf
 have Aei:= λx hx=>jn hw ht (x:=x) hx
 unfold Ed
 rw [ka]
 refine Eq.mp (LO p goal s _) ⟨Dj p.2.2.1 goal,if_pos ⟨hv,t1,t2⟩,ls,(if_pos hV.oe.2).trans (congrArg some ka),Cf s goal,if_pos ⟨by show short goal;unfold short;omega,dx hv hs ht⟩,_,hdo _ dr,rfl,rfl,?_⟩
 obtain ⟨R,hR⟩: ∃R,fO p.2.2.1 (Dt p goal) ls (Dt p goal (Cf s goal)).toNat (Cf s goal) []=R:=⟨_,rfl⟩
 rw [hR]
 have YN:=Aei _ OG
 obtain ⟨n0,WZ⟩:=Int.eq_ofNat_of_zero_le YN.1
 rw [WZ] at hR YN⊢
 rw [Int.toNat_natCast] at hR
 refine Bj.mk (λv=> ∃(x:List Int) (n:Nat) (w:List Int),v=(x,(n:Int),p.1,p.2.1,p.2.2.1,(Dj p.2.2.1 goal).1,(Dj p.2.2.1 goal).2.1,(Dj p.2.2.1 goal).2.2.1,(Dj p.2.2.1 goal).2.2.2.1,w,())/\x∈Ww p goal/\Dt p goal x=n/\w.length+n<=3000/\fO p.2.2.1 (Dt p goal) ls n x w=R) (λv=>v.2.1.toNat)
  ⟨Cf s goal,n0,[],rfl,OG,WZ,by simp only [List.length_nil];omega,hR⟩ ?_
 rintro v ⟨x,n,w,rfl,g1,g2,g3,g4⟩
 dsimp only
 refine Br.dec (λhl=>⟨rfl,rfl,?_⟩) λhl=>?_
 ·obtain ⟨n,rfl⟩: ∃n',n=n'+1:=⟨n-1,by omega⟩
  simp only [fO] at g4
  have OH:x.length=goal.length:=Xy.ok.len x g1
  have MI: ∀y∈x,0<=y/\y<p.1:=Xy.row x g1
  have hwr:IntKind.i64.wrap (((n+1:Nat):Int)-1)=(n:Int):=by rw [Bs (by omega) (by omega)];omega
  rw [hwr]
  refine Am ls.length (λv=>v.2.1) (λi v=>v=(x,(i:Int),p.1,p.2.1,p.2.2.1,(Dj p.2.2.1 goal).1,(Dj p.2.2.1 goal).2.1,(Dj p.2.2.1 goal).2.2.1,(Dj p.2.2.1 goal).2.2.2.1,w,())/\
   (ls.drop i).find? (λl=>decide (Dt p goal (Aa x (Af p.2.2.1 l))=n))=ls.find? (λl=>decide (Dt p goal (Aa x (Af p.2.2.1 l))=n))) rfl ⟨rfl,by rw [List.drop_zero]⟩ ?_
  rintro i v K hi TL ⟨rfl,hf⟩ hK
  dsimp only
  refine Br.dec (λMC=>?_) λMC=>?_
  ·have MC:i<ls.length:=by omega
   have xT:=List.getElem_mem MC
   have rM:=j5 _ xT
   obtain ⟨nl,nr⟩:=lx hV MI rM
   have hnx:=hc.next x g1 _ xT
   rw [List.drop_eq_getElem_cons MC] at hf
   refine ⟨_,Ap MC,_,if_pos ⟨hv,by show x.length<=20;omega,MI,rM⟩,_,hdo _ (by rw [<-OH];exact nl),Br.of (λhb=>?_) λhb=>?_⟩
   ·have hb:Dt p goal (Aa x (Af p.2.2.1 ls[i]))=n:=by simpa using hb
    rw [List.find?_cons_of_pos (by simpa using hb)] at hf
    rw [<-hf] at g4
    refine ⟨_,Ap MC,rfl,rfl,?_,rfl,rfl,⟨_,n,w++ [ls[i]],rfl,hnx,hb,by rw [List.length_append,List.length_singleton];omega,g4⟩,?_⟩
    ·show w.length+1<=4294967296;omega
    ·show ((n:Int)).toNat<(((n+1:Nat):Int)).toNat
     omega
   ·have hb: ¬Dt p goal (Aa x (Af p.2.2.1 ls[i]))=n:=by simpa using hb
    rw [List.find?_cons_of_neg (by simpa using hb)] at hf
    refine ⟨rfl,rfl,?_⟩
    rw [Ak (by omega)]
    exact hK MC _ rfl ⟨rfl,hf⟩
  ·have:i=ls.length:=by omega
   subst this
   rw [List.drop_length,List.find?_nil] at hf
   obtain ⟨l,xT,hle⟩:=hd.down x g1 (by rw [GB,g2];omega)
   have:=List.find?_eq_none.1 hf.symm l xT
   rw [GB,GB,g2] at hle
   exact absurd (decide_eq_true (by rw [hle];omega)) this
 ·rw [Ck]
  have:n=0:=by omega
  subst this
  rw [<-g4]
  rfl
theorem sU:Sound Try.prog 64 Va:=
 Sound.Dg Bu (Ah kD (Ah aX (Ah pk (Ah pc (Ah aq At))))) mixed Try.func64 (by kernel_rfl) (by kernel_rfl) λx h=>JT x.1 x.2.1 x.2.2.1 h
theorem dG {p:PP} {goal s:List Int} (hw:Bp p=true) (ht:Dd p goal=true) (hs:s∈Ab p):
  (Ed p goal s).length=(Dt p goal (Cf s goal)).toNat/\(Ed p goal s).length<=3000/\
  (Cc (jc p goal) (Us p s).1=Dt p goal (Cf s goal))/\(Ud (Fp p) (Ag p.2.2.1.length) (jc p goal) (Dt p goal (Cf s goal)).toNat (Us p s).1 []).1=Ed p goal s:=by
 have hv:=(Co hw).1
 have hb:=jn hw ht (sy hw ht s hs)
 have he:=QL hw ht hs
 have hi:=List.idxOf_lt_length_of_mem hs
 have NQ:(Us p s).1=(((Ab p).idxOf s:Nat):Int):=by unfold Us;rw [if_pos hs]
 have hsi:(Ab p).getD ((Ab p).idxOf s) []=s:=by rw [Ch hi];exact List.getElem_idxOf hi
 obtain ⟨r1,r2,_⟩:=xI hw (HH hw ht) (lj hw ht) (see:= λx=>Cf x goal) (dep:=Dt p goal) (λx hx l _=>Ln (dx hv hx ht)) (λx hx=>QL hw ht hx)
  (Dt p goal (Cf s goal)).toNat ((Ab p).idxOf s) [] hi (by rw [he];omega)
 rw [hsi] at r1
 have r1:_=Ed p goal s:=r1
 rw [r1] at r2
 simp only [List.length_nil,Nat.zero_add] at r2
 refine ⟨r2,by omega,?_,by rw [NQ];exact r1⟩
 rw [NQ,<-he]
 unfold Cc
 rw [Int.toNat_natCast]
end Go.Proofs.Ytjbdmibbbpdnnaa

namespace Go.Proofs.Ytjbdmibbbpdnnaa
open Go.RowKit
theorem fP {g:List (List Int)} {dep:List Int->Int} {ls:List Int} : ∀(n:Nat) (x w:List Int),(∀l∈w,l∈ls)-> ∀l∈(fO g dep ls n x w).1,l∈ls
 |0,x,w,h=>h
 |n+1,x,w,h=>by
  simp only [fO]
  split
  ·rename_i l hf
   refine fP n _ _ λl' hl=>?_
   rcases List.mem_append.1 hl with h2|h2
   ·exact h l' h2
   ·rw [List.mem_singleton.1 h2];exact List.mem_of_find?_eq_some hf
  ·exact fP n x w h
end Go.Proofs.Ytjbdmibbbpdnnaa

namespace Go.Proofs.Ytjbdmibbbpdnnaa
open Go.RowKit
noncomputable abbrev To:Spec:=Dg (.pair Eh (.pair tL (.pair tL .unit))) tL false false (λx=>Bh x.1=true/\Pm x.1.1.toNat x.2.1/\short x.2.2.1/\ ∀l∈x.2.2.1,Em (List.length x.1.2.2.1) l) (λx=>Gg x.1.2.2.1 x.2.1 x.2.2.1)
noncomputable def Bm (p:PP):List (List Int)->List Int->List (List Int)
 | [],_=> []
 |goal::gs,s=>Ed p goal s::Bm p gs (Gg p.2.2.1 s (Ed p goal s))
def Yx (p:PP) (gs:List (List Int)):Prop:=gs.length<=5/\ ∀g∈gs,Dd p g=true
noncomputable abbrev Yl:Spec:=Dg (.pair Eh (.pair dP (.pair tL .unit))) dP false true (λx=>Eu x.1/\Yx x.1 x.2.1/\Bp x.1=true/\x.2.2.1∈Ab x.1) (λx=>Bm x.1 x.2.1 x.2.2.1)
def Qh (ws:List (List Int)):Bool:=List.all ws λw=>decide (w.length<=200)
noncomputable abbrev ju:Spec:=Dg (.pair dP .unit) .bool false true (λx=>Du x.1) (λx=>Qh x.1)
def En (ws:List (List Int)):Int:=((ws.map List.length).sum:Nat)
noncomputable abbrev Ym:Spec:=Dg (.pair dP .unit) tI false true (λx=>List.length x.1<=5/\Du x.1) (λx=>En x.1)
abbrev nX:Type:=List Int×Int×Int×ByteArray×List (List Int)×PUnit
theorem FH (p:Int×ByteArray×List (List Int)×Unit) (s w:List Int) (P:List Int->Prop):(∃(y4:List Int),Kd.fn (s,())=some y4/\Bj (λ(v5:nX) (k6:nX->Prop)=>Br (decide (v5.2.1<(↑w.length:Int))) (∃(y7:Int),idx w v5.2.1=some y7/\ ∃(y8:List Int),Kj.fn ((v5.2.2.1,v5.2.2.2.1,v5.2.2.2.2.1,()),v5.1,y7,())=some y8/\k6 (y8,IntKind.i64.wrap (v5.2.1+(1:Int)),v5.2.2.1,v5.2.2.2.1,v5.2.2.2.2.1,())) (P v5.1)) (y4,(0:Int),p.1,p.2.1,p.2.2.1,PUnit.unit))=fnW Cu (look [(123,Kd),(115,Kj)]) To Try.f73 (p,s,w,()) P:=by kernel_rfl
abbrev qR:Type:=List Int×Int×Int×ByteArray×List (List Int)×List (List Int)×PUnit
theorem LP (p:Int×ByteArray×List (List Int)×Unit) (gs:List (List Int)) (s:List Int) (P:List (List Int)->Prop):(0=0/\0=([]:List Int).length/\Bj (λ(v4:qR) (k5:qR->Prop)=>Br (decide (v4.2.1<(↑gs.length:Int))) (∃(y6:List Int),idx gs v4.2.1=some y6/\ ∃(y7:List Int),Va.fn ((v4.2.2.1,v4.2.2.2.1,v4.2.2.2.2.1,()),y6,v4.1,())=some y7/\0=0/\v4.2.2.2.2.2.1.length=v4.2.2.2.2.2.1.length/\v4.2.2.2.2.2.1.length+(List.take 1 (List.drop 0 [y7])).length<=Bo/\ ∃(y8:List Int),To.fn ((v4.2.2.1,v4.2.2.2.1,v4.2.2.2.2.1,()),v4.1,y7,())=some y8/\0=0/\(v4.2.2.2.2.2.1++List.take 1 (List.drop 0 [y7])).length=(v4.2.2.2.2.2.1++List.take 1 (List.drop 0 [y7])).length/\k5 (y8,IntKind.i64.wrap (v4.2.1+(1:Int)),v4.2.2.1,v4.2.2.2.1,v4.2.2.2.2.1,v4.2.2.2.2.2.1++List.take 1 (List.drop 0 [y7]),())) (P (List.take v4.2.2.2.2.2.1.length (List.drop 0 v4.2.2.2.2.2.1)))) (s,(0:Int),p.1,p.2.1,p.2.2.1,[],PUnit.unit))=fnW Cu (look [(64,Va),(73,To)]) Yl Try.f77 (p,gs,s,()) P:=by kernel_rfl
theorem WB (ws:List (List Int)) (P:Bool->Prop):(Bj (λ(v2:Int×PUnit) (k3:Int×PUnit->Prop)=>Br (decide (v2.1<(↑ws.length:Int))) (∃(y4:List Int),idx ws v2.1=some y4/\Br (decide ((↑y4.length:Int)>(200:Int))) (P false) (k3 (IntKind.i64.wrap (v2.1+(1:Int)),()))) (P true)) ((0:Int),PUnit.unit))=fnW Cu (look []) ju Try.f78 (ws,()) P:=by kernel_rfl
theorem LQ (ws:List (List Int)) (P:Int->Prop):(Bj (λ(v2:Int×Int×PUnit) (k3:Int×Int×PUnit->Prop)=>Br (decide (v2.2.1<(↑ws.length:Int))) (∃(y4:List Int),idx ws v2.2.1=some y4/\k3 (IntKind.i64.wrap (v2.1+(↑y4.length:Int)),IntKind.i64.wrap (v2.2.1+(1:Int)),())) (P v2.1)) ((0:Int),(0:Int),PUnit.unit))=fnW Cu (look []) Ym Try.f79 (ws,()) P:=by kernel_rfl
theorem DC (p:PP) (s w:List Int) (h:Bh p=true/\Pm p.1.toNat s/\short w/\ ∀l∈w,Em (List.length p.2.2.1) l):fnW Cu (look [(123,Kd),(115,Kj)]) To Try.f73 (p,s,w,()) (λ(z:List Int)=>z=Gg p.2.2.1 s w):=by
 obtain ⟨hv,hs,w1,w2⟩:=h
 have hV:=valid hv
 have w1:w.length<=4294967296:=w1
 refine Eq.mp (FH p s w _) ⟨_,if_pos (wj hs),?_⟩
 refine Am w.length (λv=>v.2.1) (λj v=>v=(Gg p.2.2.1 s (w.take j),(j:Int),p.1,p.2.1,p.2.2.1,())) rfl rfl ?_
 rintro j v K hj hi hR hK
 subst hR
 dsimp only
 have hq:=uc hV (w.take j) _ (λl hl=>w2 l (List.mem_of_mem_take hl)) hs
 refine Br.dec (λhl=>?_) λhl=>?_
 ·have hl:j<w.length:=by omega
  have rM:=w2 _ (List.getElem_mem hl)
  refine ⟨_,Ap hl,_,if_pos ⟨hv,VM hq,JZ hV hq,rM⟩,?_⟩
  rw [Ak (by omega)]
  refine hK hl _ rfl ?_
  rw [xp hl]
 ·have:j=w.length:=by omega
  subst this
  rw [List.take_length]
theorem pb:Sound Try.prog 73 To:=
 Sound.Dg Bu (Ah cN (Ah aq At)) mixed Try.func73 (by kernel_rfl) (by kernel_rfl) λx h=>DC x.1 x.2.1 x.2.2.1 h
theorem nR {g:List (List Int)} {dep:List Int->Int} {ls:List Int} : ∀(n:Nat) (x w:List Int),∃u,(fO g dep ls n x w).1=w++u/\(fO g dep ls n x w).2=Gg g x u
 |0,x,w=>⟨[],by simp [fO],rfl⟩
 |n+1,x,w=>by
  simp only [fO]
  split
  ·rename_i l _
   obtain ⟨u,h1,h2⟩:=nR (g:=g) (dep:=dep) (ls:=ls) n (Aa x (Af g l)) (w++ [l])
   exact ⟨l::u,by rw [h1,List.append_assoc];rfl,h2⟩
  ·exact nR n x w
theorem uS {p:PP} {gs:List (List Int)} (h:Lk p gs=true):Yx p gs:=by
 obtain ⟨h1,h2,_,_⟩:=Gm.1 h
 refine ⟨h2.2,λg hg=>?_⟩
 obtain ⟨j,hj,rfl⟩:=List.mem_iff_getElem.1 hg
 exact Ju.2 ⟨h1,vQ h hj⟩
theorem Yx.take {p:PP} {gs:List (List Int)} (h:Yx p gs) (j:Nat):Yx p (gs.take j):=⟨by rw [List.length_take];have:=h.1;omega,λg hg=>h.2 g (List.mem_of_mem_take hg)⟩
theorem MW {p:PP} (hw:Bp p=true) {S:List Int->Prop} {d:List Int} (NN:xh p d) (hd:Ir p.2.2.1 (Ag p.2.2.1.length) (Ab p) S (λx=>d.getD ((Ab p).idxOf x) 0)) {i n:Nat} (hi:i<(Ab p).length) (hn:d.getD i 0=n):
  ∃j:Nat,(Ud (Fp p) (Ag p.2.2.1.length) d n (i:Int) []).2=(j:Int)/\j<(Ab p).length/\(Ab p).getD j []=Gg p.2.2.1 ((Ab p).getD i []) (Ud (Fp p) (Ag p.2.2.1.length) d n (i:Int) []).1:=by
 obtain ⟨e1,_,j,e3,e4,_,e6⟩:=xI hw NN hd (see:= λx=>x) (dep:= λx=>d.getD ((Ab p).idxOf x) 0) (λ_ _ _ _=>rfl) (λ_ _=>rfl) n i [] hi hn
 obtain ⟨u,u1,u2⟩:=nR (g:=p.2.2.1) (dep:= λx=>d.getD ((Ab p).idxOf x) 0) (ls:=Ag p.2.2.1.length) n ((Ab p).getD i []) []
 refine ⟨j,e3,e4,?_⟩
 rw [e1,u1]
 exact e6.trans u2
theorem dH {p:PP} {goal s:List Int} (hw:Bp p=true) (ht:Dd p goal=true) (hs:s∈Ab p):
  Gg p.2.2.1 s (Ed p goal s)∈Ab p/\(∀l∈Ed p goal s,Em (List.length p.2.2.1) l)/\
  Tl p (jc p goal) (Us p s).1=(if (Ed p goal s).length>200 then ([],0,false,()) else (Ed p goal s,(Us p (Gg p.2.2.1 s (Ed p goal s))).1,true,())):=by
 obtain ⟨a1,a2,a3,a4⟩:=dG hw ht hs
 have hb:=jn hw ht (sy hw ht s hs)
 obtain ⟨n,hn⟩:=Int.eq_ofNat_of_zero_le hb.1
 have hi:=List.idxOf_lt_length_of_mem hs
 have NQ:(Us p s).1=(((Ab p).idxOf s:Nat):Int):=by unfold Us;rw [if_pos hs]
 rw [hn] at a1 a3 a4
 rw [NQ] at a3 a4
 rw [Int.toNat_natCast] at a1 a4
 have a3':(jc p goal).getD ((Ab p).idxOf s) 0=n:=by
  have h:=a3
  unfold Cc at h
  rwa [Int.toNat_natCast] at h
 obtain ⟨j,e1,e2,e3⟩:=MW hw (HH hw ht) (lj hw ht) hi a3'
 rw [a4,Ch hi,List.getElem_idxOf hi] at e3
 have hm:Gg p.2.2.1 s (Ed p goal s)∈Ab p:=by rw [<-e3];exact Ig e2
 have hj:(Us p (Gg p.2.2.1 s (Ed p goal s))).1=(j:Int):=by
  unfold Us
  rw [if_pos hm,<-e3]
  show ((List.idxOf ((Ab p).getD j []) (Ab p):Nat):Int)=j
  rw [Hp (wI hw).nodup e2]
 refine ⟨hm,λl hl=>?_,?_⟩
 ·refine Il (fP (g:=p.2.2.1) (dep:=Dt p goal) (ls:=Ag p.2.2.1.length) (Dt p goal (Cf s goal)).toNat (Cf s goal) [] (by simp) l ?_)
  exact hl
 ·unfold Tl
  rw [NQ,a3,Int.toNat_natCast,a4,e1,hj,a1]
  by_cases hc:n>200
  ·rw [if_pos (by omega),if_pos hc]
  ·rw [if_neg (by omega),if_neg hc]
theorem Vf {p:PP} (hw:Bp p=true): ∀(gs:List (List Int)) (s:List Int),(∀g∈gs,Dd p g=true)->s∈Ab p->(Bm p gs s).length=gs.length/\ ∀w∈Bm p gs s,w.length<=3000
 | [],_,_,_=>⟨rfl,λw hw=>by cases hw⟩
 |g::gs,s,hg,hs=>by
  have ht:=hg g (by simp)
  obtain ⟨h1,h2⟩:=Vf hw gs _ (λg' h=>hg g' (List.mem_cons_of_mem _ h)) (dH hw ht hs).1
  refine ⟨by simp only [Bm,List.length_cons,h1],λw OF=>?_⟩
  simp only [Bm,List.mem_cons] at OF
  rcases OF with rfl|OF
  ·exact (dG hw ht hs).2.1
  ·exact h2 w OF
theorem ta {p:PP} {gs:List (List Int)} {s:List Int} (hg:Yx p gs) (hw:Bp p=true) (hs:s∈Ab p):Du (Bm p gs s):=by
 obtain ⟨h1,h2⟩:=Vf hw gs s hg.2 hs
 have:=hg.1
 exact ⟨by omega,λr hr=>by have:=h2 r hr;unfold short;omega⟩
theorem JU (p:PP) (gs:List (List Int)) (s:List Int) (h:Eu p/\Yx p gs/\Bp p=true/\s∈Ab p):fnW Cu (look [(64,Va),(73,To)]) Yl Try.f77 (p,gs,s,()) (λ(z:List (List Int))=>z=Bm p gs s):=by
 obtain ⟨hp,hg,hw,hs⟩:=h
 have hv:=(Co hw).1
 have hl5:=hg.1
 obtain ⟨R,hR⟩: ∃R,Bm p gs s=R:=⟨_,rfl⟩
 rw [hR]
 refine Eq.mp (LP p gs s _) ⟨rfl,rfl,?_⟩
 refine Am gs.length (λv=>v.2.1) (λj v=> ∃x out,v=(x,(j:Int),p.1,p.2.1,p.2.2.1,out,())/\x∈Ab p/\out.length=j/\out++Bm p (gs.drop j) x=R) rfl ⟨s,[],rfl,hs,rfl,by rw [List.drop_zero];exact hR⟩ ?_
 rintro j v K hj hi ⟨x,out,rfl,hx,ho,he⟩ hK
 dsimp only
 refine Br.dec (λhl=>?_) λhl=>?_
 ·have hl:j<gs.length:=by omega
  have ht:=hg.2 _ (List.getElem_mem hl)
  obtain ⟨e1,e2,e3⟩:=dH hw ht hx
  have e4:=(dG hw ht hx).2.1
  rw [List.drop_eq_getElem_cons hl] at he
  simp only [Bm] at he
  have Og:Va.fn (p,gs[j],x,())=some (Ed p gs[j] x):=if_pos ⟨hp,ht,hw,hx⟩
  generalize Ed p gs[j] x=w at*
  refine ⟨_,Ap hl,w,Og,rfl,rfl,by show out.length+1<=4294967296;omega,_,if_pos ⟨hv,KN hv hx,by show w.length<=4294967296;omega,e2⟩,rfl,rfl,?_⟩
  rw [Ak (by omega)]
  exact hK hl _ rfl ⟨_,_,rfl,e1,by show (out++ [w]).length=_;rw [List.length_append,List.length_singleton,ho],by show (out++ [w])++_=_;rw [List.append_assoc];exact he⟩
 ·have:j=gs.length:=by omega
  subst this
  rw [List.drop_length] at he
  rw [Ck,<-he]
  simp only [Bm,List.append_nil]
theorem sV:Sound Try.prog 77 Yl:=
 Sound.Dg Bu (Ah sU (Ah pb At)) mixed Try.func77 (by kernel_rfl) (by kernel_rfl) λx h=>JU x.1 x.2.1 x.2.2.1 h
theorem bU {ws:List (List Int)} :Qh ws=true↔ ∀w∈ws,w.length<=200:=by
 unfold Qh
 rw [List.all_eq_true]
 exact ⟨λh w hw=>of_decide_eq_true (h w hw),λh w hw=>decide_eq_true (h w hw)⟩
theorem VD (ws:List (List Int)) (h:Du ws):fnW Cu (look []) ju Try.f78 (ws,()) (λ(z:Bool)=>z=Qh ws):=by
 have h1:ws.length<=4294967296:=h.1
 refine Eq.mp (WB ws _) ?_
 refine Am ws.length (λv=>v.1) (λj _=> ∀w∈ws.take j,w.length<=200) rfl (by simp) ?_
 rintro j ⟨i,⟨⟩⟩ K hj hi hR hK
 dsimp only at hi⊢
 subst hi
 refine Br.dec (λhl=>?_) λhl=>?_
 ·have hl:j<ws.length:=by omega
  refine ⟨_,Ap hl,Br.dec (λhb=>?_) λhb=>?_⟩
  ·cases hf:Qh ws with
   |false=>rfl
   |true=>exact absurd (bU.1 hf _ (List.getElem_mem hl)) (by omega)
  ·rw [Ak (by omega)]
   refine hK hl _ rfl λw hw=>?_
   rw [List.take_add_one,List.getElem?_eq_getElem hl,Option.toList_some,List.mem_append,List.mem_singleton] at hw
   rcases hw with hw|rfl
   ·exact hR w hw
   ·omega
 ·have:j=ws.length:=by omega
  subst this
  rw [List.take_length] at hR
  exact (bU.2 hR).symm
theorem z8:Sound Try.prog 78 ju:=
 Sound.Dg Bu At mixed Try.func78 (by kernel_rfl) (by kernel_rfl) λx h=>VD x.1 h
theorem fS (a b:List (List Int)):En (a++b)=En a+En b:=by
 unfold En
 rw [List.map_append,List.sum_append];omega
theorem fT (w:List Int):En [w]=w.length:=by simp [En]
theorem jF (a:List (List Int)):0<=En a:=by unfold En;omega
theorem jE {n:Nat} : ∀(xs:List (List Int)),(∀w∈xs,w.length<=n)->En xs<=xs.length*n
 | [],_=>by simp [En]
 |w::xs,h=>by
  have h1:=jE xs λw' hw=>h w' (List.mem_cons_of_mem _ hw)
  have h2:=h w (by simp)
  rw [show w::xs= [w]++xs from rfl,fS,fT,List.length_append,List.length_singleton,Int.natCast_add,Int.add_mul]
  omega
theorem JV (ws:List (List Int)) (h:ws.length<=5/\Du ws):fnW Cu (look []) Ym Try.f79 (ws,()) (λ(z:Int)=>z=En ws):=by
 obtain ⟨h1,h2⟩:=h
 refine Eq.mp (LQ ws _) ?_
 refine Am ws.length (λv=>v.2.1) (λj v=>v=(En (ws.take j),(j:Int),())) rfl rfl ?_
 rintro j v K hj hi rfl hK
 dsimp only
 refine Br.dec (λhl=>?_) λhl=>?_
 ·have hl:j<ws.length:=by omega
  refine ⟨_,Ap hl,?_⟩
  have hs:(ws[j]).length<=4294967296:=h2.2 _ (List.getElem_mem hl)
  have h3:=jF (ws.take j)
  have h4:=jE (n:=4294967296) (ws.take j) λw hw=>h2.2 w (List.mem_of_mem_take hw)
  rw [List.length_take,Nat.min_eq_left (by omega)] at h4
  have h5:(j:Int)*4294967296<=5*4294967296:=by omega
  rw [Ak (by omega),Bs (by omega) (by omega)]
  refine hK hl _ rfl ?_
  rw [List.take_add_one,List.getElem?_eq_getElem hl,Option.toList_some,fS,fT]
 ·have:j=ws.length:=by omega
  subst this
  rw [List.take_length]
theorem sW:Sound Try.prog 79 Ym:=
 Sound.Dg Bu At mixed Try.func79 (by kernel_rfl) (by kernel_rfl) λx h=>JV x.1 h
end Go.Proofs.Ytjbdmibbbpdnnaa

namespace Go.Proofs.Ytjbdmibbbpdnnaa
open Go.RowKit
noncomputable def Tm (p:PP) (gs:List (List Int)):Int:=if (Bp p&&Lk p gs)=true then (if (List.all (Ab p) λs=>Qh (Bm p gs s))=true then mF ((Ab p).map λs=>En (Bm p gs s)) else-1) else-1
noncomputable abbrev Gu:Spec:=Dg (.pair Eh (.pair dP .unit)) tI false true (λx=>Eu x.1/\Du x.2.1) (λx=>Tm x.1 x.2.1)
abbrev kJ:Type:=Int×Int×Int×ByteArray×List (List Int)×List (List Int)×List Int×List Int×Bool×PUnit
theorem oc (p:Int×ByteArray×List (List Int)×Unit) (gs:List (List Int)) (P:Int->Prop):(∃(y3:(List (List Int)×List Int×List Int×Bool×PUnit)×Bool×PUnit),Lo.fn ((p.1,p.2.1,p.2.2.1,()),())=some y3/\Br (!y3.2.1) (P (-1:Int)) (∃(y4:Bool),Gt.fn ((p.1,p.2.1,p.2.2.1,()),gs,())=some y4/\Br (!y4) (P (-1:Int)) (Bj (λ(v5:kJ) (k6:kJ->Prop)=>Br (decide (v5.2.1<(↑v5.2.2.2.2.2.1.length:Int))) (∃(y7:List Int),idx v5.2.2.2.2.2.1 v5.2.1=some y7/\ ∃(y8:List (List Int)),Yl.fn ((v5.2.2.1,v5.2.2.2.1,v5.2.2.2.2.1,()),gs,y7,())=some y8/\ ∃(y9:Bool),ju.fn (y8,())=some y9/\Br (!y9) (P (-1:Int)) (∃(jJ:Int),Ym.fn (y8,())=some jJ/\k6 (if true=true then if jJ>v5.1 then jJ else v5.1 else if jJ<v5.1 then jJ else v5.1,IntKind.i64.wrap (v5.2.1+(1:Int)),v5.2.2.1,v5.2.2.2.1,v5.2.2.2.2.1,v5.2.2.2.2.2.1,v5.2.2.2.2.2.2.1,v5.2.2.2.2.2.2.2.1,v5.2.2.2.2.2.2.2.2.1,()))) (P v5.1)) ((0:Int),(0:Int),p.1,p.2.1,p.2.2.1,y3.1.1,y3.1.2.1,y3.1.2.2.1,y3.1.2.2.2.1,PUnit.unit))))=fnW Cu (look [(75,Lo),(76,Gt),(77,Yl),(78,ju),(79,Ym)]) Gu Try.f35 (p,gs,()) P:=by kernel_rfl
abbrev kI:Type:=(Int×ByteArray×List (List Int)×PUnit)×List (List Int)×List Int×(ByteArray->Option Int)×List Int×List Int×List (List Int)×PUnit
theorem zq (p:Int×ByteArray×List (List Int)×Unit) (gs:List (List Int)) (P:Int->Prop):(∃(y3:Option ((Int×ByteArray×List (List Int)×PUnit)×List (List Int)×List Int×(ByteArray->Option Int)×List Int×List Int×List (List Int)×PUnit)×Bool×PUnit),Nz.fn ((p.1,p.2.1,p.2.2.1,()),())=some y3/\Br (!y3.2.1) (P (-1:Int)) (∃(y4:Bool),Gt.fn ((p.1,p.2.1,p.2.2.1,()),gs,())=some y4/\Br (!y4) (P (-1:Int)) (∃(y5:kI),y3.1=some y5/\((0:Int)<=(↑y5.2.1.length:Int)/\(↑y5.2.1.length:Int)<(↑Bo:Int)+(1:Int))/\(↑y5.2.1.length:Int)=(↑y5.2.1.length:Int)/\ ∃(y6:kI),y3.1=some y6/\((0:Int)<=(↑y6.2.1.length:Int)/\(↑y6.2.1.length:Int)<(↑Bo:Int)+(1:Int))/\(↑y6.2.1.length:Int)=(↑y6.2.1.length:Int)/\0=0/\(List.replicate (↑y5.2.1.length:Int).toNat (Int.ofNat (nat_lit 0))).length=(List.replicate (↑y5.2.1.length:Int).toNat (Int.ofNat (nat_lit 0))).length/\0=0/\(List.replicate (↑y6.2.1.length:Int).toNat (Int.ofNat (nat_lit 0))).length=(List.replicate (↑y6.2.1.length:Int).toNat (Int.ofNat (nat_lit 0))).length/\Bj (λ(v7:Int×List Int×List Int×PUnit) (k8:Int×List Int×List Int×PUnit->Prop)=>Br (decide (v7.1<(↑(List.replicate (↑y5.2.1.length:Int).toNat (Int.ofNat (nat_lit 0))).length:Int))) (((0:Int)<=v7.1/\v7.1<(↑v7.2.1.length:Int))/\0+v7.1.toNat<v7.2.1.length/\0=0/\v7.2.1.length=(v7.2.1.set (0+v7.1.toNat) v7.1).length/\0=0/\v7.2.2.1.length=v7.2.2.1.length/\k8 (IntKind.i64.wrap (v7.1+(1:Int)),v7.2.1.set (0+v7.1.toNat) v7.1,v7.2.2.1,())) (0=0/\v7.2.1.length=v7.2.1.length/\0=0/\v7.2.2.1.length=v7.2.2.1.length/\Bj (λ(v9:Int×List Int×List Int×PUnit) (k10:Int×List Int×List Int×PUnit->Prop)=>Br (decide (v9.1<(↑gs.length:Int))) (∃(iD:List Int),idx gs v9.1=some iD/\ ∃(lb:List Int),Nl.fn (y3.1,iD,())=some lb/\0=0/\v9.2.1.length=v9.2.1.length/\0=0/\v9.2.2.1.length=v9.2.2.1.length/\Bj (λ(bh:Int×List Int×List Int×PUnit) (k14:Int×List Int×List Int×PUnit->Prop)=>Br (decide (bh.1<(↑v9.2.1.length:Int))) (((0:Int)<=bh.1/\bh.1<(↑bh.2.1.length:Int))/\ ∃(dd:Int),bh.2.1[0+bh.1.toNat]?=some dd/\ ∃(br:(List Int×Int×Bool×PUnit)×PUnit),Qn.fn (y3.1,lb,dd,())=some br/\Br (!br.1.2.2.1) (P (-1:Int)) (((0:Int)<=bh.1/\bh.1<(↑bh.2.2.1.length:Int))/\ ∃(zw:Int),bh.2.2.1[0+bh.1.toNat]?=some zw/\ ∃(FV:Int),Ke.fn (List.take br.1.1.length (List.drop 0 br.1.1),())=some FV/\((0:Int)<=bh.1/\bh.1<(↑bh.2.2.1.length:Int))/\0+bh.1.toNat<bh.2.2.1.length/\((0:Int)<=bh.1/\bh.1<(↑bh.2.1.length:Int))/\0+bh.1.toNat<bh.2.1.length/\0=0/\bh.2.1.length=(bh.2.1.set (0+bh.1.toNat) br.1.2.1).length/\0=0/\bh.2.2.1.length=(bh.2.2.1.set (0+bh.1.toNat) (IntKind.i64.wrap (zw+FV))).length/\k14 (IntKind.i64.wrap (bh.1+(1:Int)),bh.2.1.set (0+bh.1.toNat) br.1.2.1,bh.2.2.1.set (0+bh.1.toNat) (IntKind.i64.wrap (zw+FV)),()))) (0=0/\bh.2.1.length=bh.2.1.length/\0=0/\bh.2.2.1.length=bh.2.2.1.length/\k10 (IntKind.i64.wrap (v9.1+(1:Int)),bh.2.1,bh.2.2.1,()))) ((0:Int),v9.2.1,v9.2.2.1,PUnit.unit)) (∃(iD:Int),qK.fn (List.take v9.2.2.1.length (List.drop 0 v9.2.2.1),())=some iD/\P iD)) ((0:Int),v7.2.1,v7.2.2.1,PUnit.unit))) ((0:Int),List.replicate (↑y5.2.1.length:Int).toNat (Int.ofNat (nat_lit 0)),List.replicate (↑y6.2.1.length:Int).toNat (Int.ofNat (nat_lit 0)),PUnit.unit))))=fnW Cu (look [(80,Nz),(81,Gt),(68,Nl),(67,Qn),(82,Ke),(83,qK)]) Gu Try.f37 (p,gs,()) P:=by kernel_rfl
abbrev fV:Type:=Int×ByteArray×List (List Int)×PUnit
theorem FO (p:Int×ByteArray×List (List Int)×Unit) (a:List (List Int)) (P:Bool->Prop):(∃(y3:Int),qM.fn ((p.1,p.2.1,p.2.2.1,()),(1048576:Int),())=some y3/\Br (decide (y3<(0:Int))) (P true) (∃(y4:Int),ao.fn (a,y3,())=some y4/\Br (decide (y4<(0:Int))) (P true) (∃(y5:fV),kB.fn ((p.1,p.2.1,p.2.2.1,()),())=some y5/\ ∃(y6:List (List Int)),Vb.fn (a,())=some y6/\ ∃(y7:Int),Gu.fn (y5,y6,())=some y7/\ ∃(y8:fV),kB.fn ((p.1,p.2.1,p.2.2.1,()),())=some y8/\ ∃(y9:List (List Int)),Vb.fn (a,())=some y9/\ ∃(jJ:Int),Gu.fn ((y8.1,y8.2.1,y8.2.2.1,()),y9,())=some jJ/\Br (jJ !=y7) (P false) (∃(iD:fV),kB.fn ((p.1,p.2.1,p.2.2.1,()),())=some iD/\ ∃(lb:Bool),qF.fn ((y8.1,y8.2.1,y8.2.2.1,()),iD,())=some lb/\Br (!lb) (P false) (∃(eO:List (List Int)),Vb.fn (a,())=some eO/\ ∃(Yu:Bool),al.fn (y9,eO,())=some Yu/\Br (!Yu) (P false) (P true))))))=fnW Cu (look [(14,qM),(34,ao),(35,Gu),(37,Gu),(16,kB),(36,Vb),(19,qF),(38,al)]) np Try.f9 (p,a,()) P:=by kernel_rfl
theorem HG {xs:List Int} (h: ∀x∈xs,0<=x) (h1:1<=xs.length):xs.foldl max 0=mF xs:=by
 cases xs with
 |nil=>simp at h1
 |cons x xs=>
  have:=h x (by simp)
  unfold mF
  simp only [List.foldl_cons,List.headD_cons,Int.max_self]
  rw [Int.max_eq_right this]
theorem Aal (a b:Int):(if true=true then if b>a then b else a else if b<a then b else a)=max a b:=by
 rw [if_pos rfl]
 by_cases h:b>a
 ·rw [if_pos h,Int.max_eq_right (by omega)]
 ·rw [if_neg h,Int.max_eq_left (by omega)]
theorem fold_map {α:Type} (f:α->Int) (xs:List α) (a:Int):(xs.map f).foldl max a=xs.foldl (λm s=>max m (f s)) a:=by
 rw [List.foldl_map]
theorem yH (p:PP) (gs:List (List Int)) (h:Eu p/\Du gs):fnW Cu (look [(75,Lo),(76,Gt),(77,Yl),(78,ju),(79,Ym)]) Gu Try.f35 (p,gs,()) (λ(z:Int)=>z=Tm p gs):=by
 obtain ⟨hp,hg⟩:=h
 unfold Tm
 by_cases hw:Bp p=true
 ·have hv:=(Co hw).1
  rw [hw,Bool.true_and]
  refine Eq.mp (oc p gs _) ⟨_,nQ hp hw,λhb=>by simp at hb,λ_=>⟨_,if_pos ⟨hp,hg⟩,Br.of (λhm=>?_) λhm=>?_⟩⟩
  ·rw [if_neg (Cs hm)]
  have hm:Lk p gs=true:=by simpa using hm
  rw [if_pos hm]
  have tP:=uS hm
  have hlen:=cS hv
  have j6:=sZ hv
  refine Am (Ab p).length (λv=>v.2.1) (λj v=>v.1=((Ab p).take j).foldl (λm s=>max m (En (Bm p gs s))) 0/\v.2.2.1=p.1/\v.2.2.2.1=p.2.1/\v.2.2.2.2.1=p.2.2.1/\v.2.2.2.2.2.1=Ab p/\ ∀s∈(Ab p).take j,Qh (Bm p gs s)=true) rfl ⟨rfl,rfl,rfl,rfl,rfl,by simp⟩ ?_
  rintro j ⟨c,i,q1,q2,q3,L,x1,x2,x3,⟨⟩⟩ K hj hi ⟨hR,h1,h2,h3,hL,hf⟩ hK
  dsimp only at hi hR h1 h2 h3 hL⊢
  subst hi hR h1 h2 h3 hL
  refine Br.dec (λhl=>?_) λhl=>?_
  ·have hl:j<(Ab p).length:=by omega
   have Oj:=List.getElem_mem hl
   have hsl:=ta tP hw Oj
   have hl5:(Bm p gs (Ab p)[j]).length<=5:=by rw [(Vf hw gs _ tP.2 Oj).1];exact tP.1
   refine ⟨_,Ap hl,_,if_pos ⟨hp,tP,hw,Oj⟩,_,if_pos hsl,Br.of (λhb=>?_) λhb=>?_⟩
   ·have hb:Qh (Bm p gs (Ab p)[j])=false:=SL hb
    rw [if_neg λha=>by rw [List.all_eq_true.1 ha _ Oj] at hb;cases hb]
   ·have hb:Qh (Bm p gs (Ab p)[j])=true:=by simpa using hb
    refine ⟨_,if_pos ⟨hl5,hsl⟩,?_⟩
    rw [Ak (by omega)]
    refine hK hl _ rfl ⟨?_,rfl,rfl,rfl,rfl,λs hs=>?_⟩
    ·rw [List.take_add_one,List.getElem?_eq_getElem hl,Option.toList_some,List.foldl_append]
     exact Aal _ _
    ·rw [List.take_add_one,List.getElem?_eq_getElem hl,Option.toList_some,List.mem_append,List.mem_singleton] at hs
     rcases hs with hs|rfl
     ·exact hf s hs
     ·exact hb
  ·have:j=(Ab p).length:=by omega
   subst this
   rw [List.take_length] at hf⊢
   rw [if_pos (List.all_eq_true.2 hf),<-HG (λx hx=>by obtain ⟨s,_,rfl⟩:=List.mem_map.1 hx;exact jF _) (by rw [List.length_map];omega),fold_map]
 ·obtain ⟨f,he⟩:=sX hp hw
  rw [Bool.not_eq_true _|>.mp hw,Bool.false_and,if_neg (by decide)]
  exact Eq.mp (oc p gs _) ⟨_,he,λ_=>rfl,λhb=>by simp at hb⟩
theorem nK:Sound Try.prog 35 Gu:=
 Sound.Dg Bu (Ah nL (Ah fN (Ah sV (Ah z8 (Ah sW At))))) mixed Try.func35 (by kernel_rfl) (by kernel_rfl) λx h=>yH x.1 x.2.1 h
noncomputable def Fg (p:PP):List (List Int)->List Int->List Int
 | [],s=>s
 |goal::gs,s=>Fg p gs (Gg p.2.2.1 s (Ed p goal s))
theorem fQ (p:PP): ∀(a b:List (List Int)) (s:List Int),Bm p (a++b) s=Bm p a s++Bm p b (Fg p a s)/\Fg p (a++b) s=Fg p b (Fg p a s)
 | [],b,s=>⟨rfl,rfl⟩
 |g::a,b,s=>by
  obtain ⟨h1,h2⟩:=fQ p a b (Gg p.2.2.1 s (Ed p g s))
  exact ⟨by simp only [List.cons_append,Bm,Fg,h1],by simp only [List.cons_append,Fg,h2]⟩
theorem u9 {p:PP} (hw:Bp p=true): ∀(gs:List (List Int)) (s:List Int),(∀g∈gs,Dd p g=true)->s∈Ab p->Fg p gs s∈Ab p
 | [],_,_,hs=>hs
 |g::gs,s,hg,hs=>u9 hw gs _ (λg' h=>hg g' (List.mem_cons_of_mem _ h)) (dH hw (hg g (by simp)) hs).1
theorem wJ {p:PP} {gs:List (List Int)} {j:Nat} (hl:j<gs.length) (s:List Int):Bm p (gs.take (j+1)) s=Bm p (gs.take j) s++ [Ed p gs[j] (Fg p (gs.take j) s)]/\
  Fg p (gs.take (j+1)) s=Gg p.2.2.1 (Fg p (gs.take j) s) (Ed p gs[j] (Fg p (gs.take j) s)):=by
 rw [List.take_add_one,List.getElem?_eq_getElem hl,Option.toList_some]
 exact fQ p (gs.take j) [gs[j]] s
theorem yY {xs:List Int} {m i:Nat} {v:Int} (hl:xs.length=m) (hi:i<m) {k:Nat} (hk:k<m):(xs.set i v).getD k 0=if i=k then v else xs.getD k 0:=by
 rw [Xs (by omega)]
theorem yE (p:PP) (gs:List (List Int)) (h:Eu p/\Du gs):fnW Cu (look [(80,Nz),(81,Gt),(68,Nl),(67,Qn),(82,Ke),(83,qK)]) Gu Try.f37 (p,gs,()) (λ(z:Int)=>z=Tm p gs):=by
 obtain ⟨hp,hg⟩:=h
 unfold Tm
 refine Eq.mp (zq p gs _) ?_
 by_cases hw:Bp p=true
 ·have he:Nz.fn (p,())=some (some (Jy p),true,()):=(if_pos hp).trans (congrArg some (if_pos hw))
  rw [hw,Bool.true_and]
  refine ⟨_,he,λhb=>by simp at hb,λ_=>⟨_,if_pos ⟨hp,hg⟩,Br.of (λhm=>?_) λhm=>?_⟩⟩
  ·rw [if_neg (Cs hm)]
  have hm:Lk p gs=true:=by simpa using hm
  rw [if_pos hm]
  have tP:=uS hm
  have hl5:=tP.1
  have hv:=(Co hw).1
  have hx:tX (Jy p):=⟨hw,rfl⟩
  have Og:(Jy p).2.1=Ab p:=HF hx
  have ZA:=cS hv
  have j6:=sZ hv
  have MA: ∀j (hl:j<gs.length),Nl.fn (some (Jy p),gs[j],())=some (jc p gs[j]):= λj hl=>(if_pos ⟨Jy p,rfl,⟨hw,rfl⟩,(Ju.1 (tP.2 _ (List.getElem_mem hl))).2⟩).trans (congrArg some (XX hw gs[j]))
  have hds: ∀j (hl:j<gs.length) x,x∈Ab p->Qn.fn (some (Jy p),jc p gs[j],(Us p x).1,())=some (Tl p (jc p gs[j]) (Us p x).1,()):= λj hl x hx=>by
   obtain ⟨i1,i2,i3⟩:=Aah hx
   exact if_pos ⟨Jy p,rfl,⟨hw,rfl⟩,HH hw (tP.2 _ (List.getElem_mem hl)),i1,by show (Us p x).1<((jc p gs[j]).length:Int);rw [HI hw];exact i2⟩
  generalize Jy p=e at*
  obtain ⟨m,hmm⟩: ∃m,(Ab p).length=m:=⟨_,rfl⟩
  have ee:e.2.1.length=m:=by rw [Og,hmm]
  refine ⟨e,rfl,?_⟩
  rw [ee,Int.toNat_natCast,List.length_replicate]
  refine ⟨⟨by omega,by show (m:Int)<(4294967296:Int)+1;omega⟩,rfl,e,rfl,?_⟩
  rw [ee,Int.toNat_natCast]
  refine ⟨⟨by omega,by show (m:Int)<(4294967296:Int)+1;omega⟩,rfl,rfl,rfl,rfl,rfl,?_⟩
  obtain ⟨st,OA⟩: ∃st:Nat->List Int,(λk=>(Ab p).getD k [])=st:=⟨_,rfl⟩
  have IF: ∀k,k<m->st k∈Ab p:= λk hk=>by rw [<-OA];exact Ig (by omega)
  have Aev: ∀k,k<m->(Us p (st k)).1=(k:Int):= λk hk=>by
   unfold Us
   rw [if_pos (IF k hk),<-OA]
   show ((List.idxOf ((Ab p).getD k []) (Ab p):Nat):Int)=k
   rw [Hp (wI hw).nodup (by omega)]
  have Ae5: ∀j k,k<m->Fg p (gs.take j) (st k)∈Ab p:= λj k hk=>u9 hw _ _ (λg hg=>tP.2 g (List.mem_of_mem_take hg)) (IF k hk)
  refine Am m (λv=>v.1) (λj v=>v.2.1.length=m/\v.2.2.1.length=m/\(∀k,k<m->v.2.1.getD k 0=if k<j then (k:Int) else 0)/\ ∀k,k<m->v.2.2.1.getD k 0=0) rfl ⟨by simp,by simp,λk hk=>?_,λk hk=>?_⟩ ?_
  ·rw [if_neg (by omega),Ch (by simpa using hk),List.getElem_replicate];rfl
  ·rw [Ch (by simpa using hk),List.getElem_replicate];rfl
  rintro j ⟨i,Qu,tot,⟨⟩⟩ K hj hi ⟨h1,h2,h3,h4⟩ hK
  dsimp only at hi h1 h2 h3 h4⊢
  subst hi
  refine Br.dec (λhl=>?_) λhl=>?_
  ·have hl:j<m:=by omega
   refine ⟨⟨by omega,by omega⟩,by rw [Int.toNat_natCast];omega,rfl,by rw [List.length_set],rfl,rfl,?_⟩
   rw [Ak (by omega),Int.toNat_natCast,Nat.zero_add]
   refine hK hl _ rfl ⟨by rw [List.length_set];exact h1,h2,λk hk=>?_,h4⟩
   rw [yY h1 hl hk]
   by_cases e:j=k
   ·subst e;rw [if_pos rfl,if_pos (by omega)]
   ·rw [if_neg e,h3 k hk]
    by_cases oF:k<j
    ·rw [if_pos oF,if_pos (by omega)]
    ·rw [if_neg oF,if_neg (by omega)]
  have hjm:j=m:=by omega
  subst hjm
  refine ⟨rfl,rfl,rfl,rfl,?_⟩
  refine Am gs.length (λv=>v.1) (λi v=>v.2.1.length=j/\v.2.2.1.length=j/\ ∀k,k<j->v.2.1.getD k 0=(Us p (Fg p (gs.take i) (st k))).1/\v.2.2.1.getD k 0=En (Bm p (gs.take i) (st k))/\Qh (Bm p (gs.take i) (st k))=true) rfl ⟨h1,h2,λk hk=>⟨?_,?_,?_⟩⟩ ?_
  ·show Qu.getD k 0=_
   rw [h3 k hk,if_pos hk,List.take_zero];exact (Aev k hk).symm
  ·show tot.getD k 0=_
   rw [h4 k hk,List.take_zero];rfl
  ·rw [List.take_zero];rfl
  rintro i ⟨i',at1,Agk,⟨⟩⟩ K1 MB TL ⟨g1,g2,g3⟩ hK1
  dsimp only at TL g1 g2 g3⊢
  subst TL
  refine Br.dec (λjZ=>?_) λjZ=>?_
  ·have jZ:i<gs.length:=by omega
   refine ⟨_,Ap jZ,_,MA i jZ,rfl,rfl,rfl,rfl,?_⟩
   have ht:=tP.2 _ (List.getElem_mem jZ)
   refine Am j (λv=>v.1) (λk0 v=>v.2.1.length=j/\v.2.2.1.length=j/\(∀k,k<j->v.2.1.getD k 0=if k<k0 then (Us p (Fg p (gs.take (i+1)) (st k))).1 else (Us p (Fg p (gs.take i) (st k))).1)/\
    (∀k,k<j->v.2.2.1.getD k 0=if k<k0 then En (Bm p (gs.take (i+1)) (st k)) else En (Bm p (gs.take i) (st k)))/\ ∀k,k<k0->Qh (Bm p (gs.take (i+1)) (st k))=true) rfl
    ⟨g1,g2,λk hk=>(g3 k hk).1,λk hk=>(g3 k hk).2.1,λk hk=>by omega⟩ ?_
   rintro k0 ⟨k',at2,Agl,⟨⟩⟩ K2 oh YX ⟨f1,f2,f3,f4,f5⟩ hK2
   dsimp only at YX f1 f2 f3 f4⊢
   subst YX
   rw [g1]
   refine Br.dec (λkU=>?_) λkU=>?_
   ·have kU:k0<j:=by omega
    have UL:=Ae5 i k0 kU
    obtain ⟨s1,s2⟩:=wJ jZ (p:=p) (st k0)
    obtain ⟨e1,e2,e3⟩:=dH hw ht UL
    have XK:=(dG hw ht UL).2.1
    have hd:=hds i jZ _ UL
    have hfi:=(g3 k0 kU).2.2
    have ha:at2[0+((k0:Nat):Int).toNat]?=some (Us p (Fg p (gs.take i) (st k0))).1:=by rw [NB (by omega),f3 k0 kU,if_neg (by omega)]
    have hb:Agl[0+((k0:Nat):Int).toNat]?=some (En (Bm p (gs.take i) (st k0))):=by rw [NB (by omega),f4 k0 kU,if_neg (by omega)]
    have hs0:=jF (Bm p (gs.take i) (st k0))
    have kb:=jE (n:=3000) (Bm p (gs.take i) (st k0)) (Vf hw _ _ (λg hg=>tP.2 g (List.mem_of_mem_take hg)) (IF k0 kU)).2
    rw [(Vf hw _ _ (λg hg=>tP.2 g (List.mem_of_mem_take hg)) (IF k0 kU)).1,List.length_take] at kb
    have Gz:Bm p gs (st k0)=Bm p (gs.take (i+1)) (st k0)++Bm p (gs.drop (i+1)) (Fg p (gs.take (i+1)) (st k0)):=by
     have:=(fQ p (gs.take (i+1)) (gs.drop (i+1)) (st k0)).1
     rwa [List.take_append_drop] at this
    rw [e3] at hd
    generalize Ed p gs[i] (Fg p (gs.take i) (st k0))=w at*
    refine ⟨⟨by omega,by omega⟩,_,ha,_,hd,?_⟩
    by_cases hc:w.length>200
    ·rw [if_pos hc]
     refine ⟨λ_=>?_,λhb=>by simp at hb⟩
     rw [if_neg λSW=>by
      have:=bU.1 (List.all_eq_true.1 SW _ (IF k0 kU)) w (by rw [Gz,s1];simp)
      omega]
    ·rw [if_neg hc]
     refine ⟨λhb=>by simp at hb,λ_=>⟨⟨by omega,by omega⟩,_,hb,_,if_pos trivial,⟨by omega,by omega⟩,by rw [Int.toNat_natCast];omega,⟨by omega,by omega⟩,by rw [Int.toNat_natCast];omega,rfl,by rw [List.length_set],rfl,by rw [List.length_set],?_⟩⟩
     rw [Ak (by omega),Int.toNat_natCast,Nat.zero_add]
     dsimp only
     rw [Ck,Bs (by omega) (by omega)]
     refine hK2 kU _ rfl ⟨by rw [List.length_set];exact f1,by rw [List.length_set];exact f2,λk hk=>?_,λk hk=>?_,λk hk=>?_⟩
     ·rw [yY f1 kU hk]
      by_cases e:k0=k
      ·subst e;rw [if_pos rfl,if_pos (by omega),s2]
      ·rw [if_neg e,f3 k hk]
       by_cases oF:k<k0
       ·rw [if_pos oF,if_pos (by omega)]
       ·rw [if_neg oF,if_neg (by omega)]
     ·rw [yY f2 kU hk]
      by_cases e:k0=k
      ·subst e;rw [if_pos rfl,if_pos (by omega),s1,fS,fT]
      ·rw [if_neg e,f4 k hk]
       by_cases oF:k<k0
       ·rw [if_pos oF,if_pos (by omega)]
       ·rw [if_neg oF,if_neg (by omega)]
     ·by_cases e:k=k0
      ·subst e
       rw [s1]
       refine bU.2 λw' OF=>?_
       rw [List.mem_append,List.mem_singleton] at OF
       rcases OF with OF|rfl
       ·exact bU.1 hfi w' OF
       ·omega
      ·exact f5 k (by omega)
   ·have:k0=j:=by omega
    subst this
    refine ⟨rfl,rfl,rfl,rfl,?_⟩
    rw [Ak (by omega)]
    exact hK1 jZ _ rfl ⟨f1,f2,λk hk=>⟨by rw [f3 k hk,if_pos hk],by rw [f4 k hk,if_pos hk],f5 k hk⟩⟩
  ·have:i=gs.length:=by omega
   subst this
   rw [List.take_length] at g3
   have Afz:Agk=(Ab p).map λs=>En (Bm p gs s):=qc (by rw [g2,List.length_map,hmm]) λk hk=>by
    rw [(g3 k (by omega)).2.1,Ch (xs:=List.map _ _) (by rw [List.length_map];omega),List.getElem_map,<-OA]
    show En (Bm p gs ((Ab p).getD k []))=_
    rw [Ch (by omega)]
   have Gz:(List.all (Ab p) λs=>Qh (Bm p gs s))=true:=List.all_eq_true.2 λs hs=>by
    obtain ⟨k,hk,rfl⟩:=List.mem_iff_getElem.1 hs
    have:=(g3 k (by omega)).2.2
    rw [<-OA] at this
    have this:Qh (Bm p gs ((Ab p).getD k []))=true:=this
    rwa [Ch hk] at this
   rw [Ck,if_pos Gz,Afz]
   exact ⟨_,if_pos ⟨by rw [List.length_map];omega,by show (List.map _ _).length<=4294967296;rw [List.length_map];omega⟩,rfl⟩
 ·have he:Nz.fn (p,())=some (none,false,()):=(if_pos hp).trans (congrArg some (if_neg hw))
  rw [Bool.not_eq_true _|>.mp hw,Bool.false_and,if_neg (by decide)]
  exact ⟨_,he,λ_=>rfl,λhb=>by simp at hb⟩
theorem nF:Sound Try.prog 37 Gu:=
 Sound.Dg Bu (Ah pe (Ah fM (Ah nD (Ri pd (Ah Vd (Ah EP At)))))) mixed Try.func37 (by kernel_rfl) (by kernel_rfl) λx h=>yE x.1 x.2.1 h
theorem DK (p:PP) (a:List (List Int)) (h:Eu p/\Du a):fnW Cu (look [(14,qM),(34,ao),(35,Gu),(37,Gu),(16,kB),(36,Vb),(19,qF),(38,al)]) np Try.f9 (p,a,()) (λ(z:Bool)=>z=true):=by
 have h0:Eu (p.1,p.2.1,p.2.2.1,()):=h.1
 have h1:Du a:=h.2
 refine Eq.mp (FO p a _) ?_
 refine ⟨_,if_pos ⟨h0,wq⟩,Br.dec (λ_=>rfl) λAfq=>?_⟩
 have OI:(((Mx p.2.2.1:Nat):Nat):Int)<=(1048576)-(Sn (p.1,p.2.1,p.2.2.1,()) (1048576))/\roomy (Sn (p.1,p.2.1,p.2.2.1,()) (1048576)):=KP wq Afq
 have Aku:=OI.1
 have Ak8:0<=Sn (p.1,p.2.1,p.2.2.1,()) (1048576)/\Sn (p.1,p.2.1,p.2.2.1,()) (1048576)<=4294967296:=OI.2
 refine ⟨_,if_pos ⟨h1,OI.2⟩,Br.dec (λ_=>rfl) λAfp=>?_⟩
 have Aa7:(((Mx a:Nat):Nat):Int)<=(Sn (p.1,p.2.1,p.2.2.1,()) (1048576))-(Jl a (Sn (p.1,p.2.1,p.2.2.1,()) (1048576)))/\roomy (Jl a (Sn (p.1,p.2.1,p.2.2.1,()) (1048576))):=EZ OI.2 Afp
 have Akt:=Aa7.1
 have Ak7:0<=Jl a (Sn (p.1,p.2.1,p.2.2.1,()) (1048576))/\Jl a (Sn (p.1,p.2.1,p.2.2.1,()) (1048576))<=4294967296:=Aa7.2
 have l0:low (1+(Mx p.2.2.1:Nat)):=⟨by omega,by omega⟩
 have l1:low (1+(Mx p.2.2.1:Nat)+(Mx a:Nat)):=⟨by omega,by omega⟩
 refine ⟨_,if_pos h0,_,if_pos h1,?_⟩
 refine ⟨_,if_pos ⟨h0,h1⟩,_,if_pos h0,_,if_pos h1,?_⟩
 generalize he0:Tm p a=g0
 refine ⟨_,if_pos ⟨h0,h1⟩,?_⟩
 simp only [he0]
 refine ⟨λhe=>IS he,λ_=>?_⟩
 refine ⟨_,if_pos h0,_,if_pos h0,⟨λhe=>absurd (yl _) (Cs he),λ_=>?_⟩⟩
 refine ⟨_,if_pos h1,?_⟩
 refine ⟨_,if_pos h1,⟨λhe=>absurd (vH _) (Cs he),λ_=>?_⟩⟩
 first|rfl|trivial
theorem pj:Sound Try.prog 9 np:=
 Sound.Dg Bu (Ah ES (Ah nN (Ah nK (Ah nF (Ah EU (Ah nO (Ah EJ (Ah nC At)))))))) mixed Try.func9 (by kernel_rfl) (by kernel_rfl) λx h=>DK x.1 x.2.1 h
end Go.Proofs.Ytjbdmibbbpdnnaa
