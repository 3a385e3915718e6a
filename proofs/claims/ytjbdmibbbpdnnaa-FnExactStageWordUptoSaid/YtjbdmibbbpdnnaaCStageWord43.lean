/-
  Part 44 of the proof that the statement FnExactStageWord holds.
-/
import Derived.Test.YtjbdmibbbpdnnaaCStageWord42
namespace Go.Proofs.Ytjbdmibbbpdnnaa
open Go.RowKit
noncomputable abbrev Lu:Spec:=Di (.pair tU (.pair tU .unit)) (.pair tU (.pair tU .unit)) true true (λx=>x.1=1/\0<=x.2.1/\x.2.1<=100000) (λx=>(0,x.2.1,()))
noncomputable abbrev Yr:MSpec:=jf [none,none] [(false, .Fc tL),(false, .Fc tI)] false [none] [rL] (λx=>(∃v,x.1= [v])/\1<=x.2.1/\x.2.1<=100000) (λx=>((List.replicate x.2.1.toNat (x.1.getD 0 0),()),()))
theorem PS (x y:Int) (P:(Int×Int×Unit)->Prop):(¬(32:Int)<(0:Int)/\ ¬(32:Int)<(0:Int)/\ ¬(32:Int)<(0:Int)/\ ¬(32:Int)<(0:Int)/\ ¬(32:Int)<(0:Int)/\P (IntKind.u64.wrap (IntKind.u64.wrap (IntKind.u64.wrap (x.fdiv ((2:Int)^min (Int.toNat (32:Int)) IntKind.u64.bits)*y.fdiv ((2:Int)^min (Int.toNat (32:Int)) IntKind.u64.bits))+(IntKind.u64.wrap (IntKind.u64.wrap (x.fdiv ((2:Int)^min (Int.toNat (32:Int)) IntKind.u64.bits)*IntKind.u64.wrap (↑(BitVec.ofInt IntKind.u64.bits y&&&BitVec.ofInt IntKind.u64.bits (4294967295:Int)).toNat:Int))+(IntKind.u64.wrap (IntKind.u64.wrap (↑(BitVec.ofInt IntKind.u64.bits x&&&BitVec.ofInt IntKind.u64.bits (4294967295:Int)).toNat:Int)*IntKind.u64.wrap (↑(BitVec.ofInt IntKind.u64.bits y&&&BitVec.ofInt IntKind.u64.bits (4294967295:Int)).toNat:Int))).fdiv ((2:Int)^min (Int.toNat (32:Int)) IntKind.u64.bits))).fdiv ((2:Int)^min (Int.toNat (32:Int)) IntKind.u64.bits))+(IntKind.u64.wrap (IntKind.u64.wrap (↑(BitVec.ofInt IntKind.u64.bits (IntKind.u64.wrap (IntKind.u64.wrap (x.fdiv ((2:Int)^min (Int.toNat (32:Int)) IntKind.u64.bits)*IntKind.u64.wrap (↑(BitVec.ofInt IntKind.u64.bits y&&&BitVec.ofInt IntKind.u64.bits (4294967295:Int)).toNat:Int))+(IntKind.u64.wrap (IntKind.u64.wrap (↑(BitVec.ofInt IntKind.u64.bits x&&&BitVec.ofInt IntKind.u64.bits (4294967295:Int)).toNat:Int)*IntKind.u64.wrap (↑(BitVec.ofInt IntKind.u64.bits y&&&BitVec.ofInt IntKind.u64.bits (4294967295:Int)).toNat:Int))).fdiv ((2:Int)^min (Int.toNat (32:Int)) IntKind.u64.bits)))&&&BitVec.ofInt IntKind.u64.bits (4294967295:Int)).toNat:Int)+IntKind.u64.wrap (IntKind.u64.wrap (↑(BitVec.ofInt IntKind.u64.bits x&&&BitVec.ofInt IntKind.u64.bits (4294967295:Int)).toNat:Int)*y.fdiv ((2:Int)^min (Int.toNat (32:Int)) IntKind.u64.bits)))).fdiv ((2:Int)^min (Int.toNat (32:Int)) IntKind.u64.bits)),IntKind.u64.wrap (x*y),()))=fnW dL (look []) Lu Try.f172 (x,y,()) P:=by kernel_rfl
theorem VW (x y:Int) (P:(Int×Int×Unit)->Prop):(∃(y3:Int×Int×PUnit),Lu.fn (x,y,())=some y3/\P (y3.1,y3.2.1,()))=fnW dL (look [(172,Lu)]) Lu Try.f152 (x,y,()) P:=by kernel_rfl
theorem LK (xs:List Int) (n:Int) (P:((List Int×Unit)×Unit)->Prop):(Br (decide (n<(0:Int))) False (∃(y3:Int×Int×PUnit),Lu.fn (IntKind.u64.wrap (↑xs.length:Int),IntKind.u64.wrap n,())=some y3/\Br (decide (y3.1>(0:Int))) False (Br (decide (y3.2.1>(9223372036854775807:Int))) False (((0:Int)<=IntKind.i64.wrap y3.2.1/\IntKind.i64.wrap y3.2.1<(↑Bm:Int)+(1:Int))/\IntKind.i64.wrap y3.2.1=IntKind.i64.wrap y3.2.1/\0=0/\(List.replicate (IntKind.i64.wrap y3.2.1).toNat (Int.ofNat (nat_lit 0))).length=(Bf (List.replicate (IntKind.i64.wrap y3.2.1).toNat (Int.ofNat (nat_lit 0))) 0 (List.take (List.replicate (IntKind.i64.wrap y3.2.1).toNat (Int.ofNat (nat_lit 0))).length xs)).length/\Bt (λ(v4:Int×List Int×PUnit) (k5:Int×List Int×PUnit->Prop)=>Br (decide (v4.1<(↑v4.2.1.length:Int))) (((0:Int)<=v4.1/\v4.1<=(↑v4.2.1.length:Int)/\(↑v4.2.1.length:Int)<=(↑v4.2.1.length:Int))/\((0:Int)<=(0:Int)/\(0:Int)<=v4.1/\v4.1<=(↑v4.2.1.length:Int))/\0=0/\v4.2.1.length=(Bf v4.2.1 (0+v4.1.toNat) (List.take ((↑v4.2.1.length:Int).toNat-v4.1.toNat) (List.take (v4.1.toNat-Int.toNat (0:Int)) (List.drop (0+Int.toNat (0:Int)) v4.2.1)))).length/\k5 (IntKind.i64.wrap (v4.1+(↑(min ((↑v4.2.1.length:Int).toNat-v4.1.toNat) (List.take (v4.1.toNat-Int.toNat (0:Int)) (List.drop (0+Int.toNat (0:Int)) v4.2.1)).length):Int)),Bf v4.2.1 (0+v4.1.toNat) (List.take ((↑v4.2.1.length:Int).toNat-v4.1.toNat) (List.take (v4.1.toNat-Int.toNat (0:Int)) (List.drop (0+Int.toNat (0:Int)) v4.2.1))),())) (P ((List.take v4.2.1.length (List.drop 0 v4.2.1),()),()))) ((↑(min (List.replicate (IntKind.i64.wrap y3.2.1).toNat (Int.ofNat (nat_lit 0))).length xs.length):Int),Bf (List.replicate (IntKind.i64.wrap y3.2.1).toNat (Int.ofNat (nat_lit 0))) 0 (List.take (List.replicate (IntKind.i64.wrap y3.2.1).toNat (Int.ofNat (nat_lit 0))).length xs),PUnit.unit)))))=fnMW dL (look [(152,Lu)]) Yr Try.f122 (xs,n,()) P:=by kernel_rfl
theorem GN {y:Int} (h0:0<=y) (h:y<4294967296):(((BitVec.ofInt IntKind.u64.bits y)&&&(BitVec.ofInt IntKind.u64.bits 4294967295)).toNat:Int)=y:=by
 obtain ⟨n,rfl⟩:=Int.eq_ofNat_of_zero_le h0
 show ((((BitVec.ofInt 64 (n:Int))&&&(BitVec.ofInt 64 4294967295)).toNat:Nat):Int)=(n:Int)
 have e1:(BitVec.ofInt 64 (n:Int)).toNat=n:=by rw [BitVec.toNat_ofInt];omega
 have e2:(BitVec.ofInt 64 4294967295).toNat=2^32-1:=by decide
 rw [BitVec.toNat_and,e1,e2,Nat.and_two_pow_sub_one_eq_mod]
 omega
theorem xc {n:Int} (h1:0<=n) (h2:n<18446744073709551616):IntKind.u64.wrap n=n:=by rw [IntKind.wrap_u64];omega
theorem OO (x y:Int) (h:x=1/\0<=y/\y<=100000):fnW dL (look []) Lu Try.f172 (x,y,()) (λ(z:Int×Int×Unit)=>z=(0,y,())):=by
 obtain ⟨rfl,h1,h2⟩:=h
 have e32:(2:Int)^min (Int.toNat (32:Int)) IntKind.u64.bits=4294967296:=by decide
 have e1:(1:Int).fdiv 4294967296=0:=by decide
 have e0:(0:Int).fdiv 4294967296=0:=by decide
 have ey:y.fdiv 4294967296=0:=by rw [Int.fdiv_eq_ediv_of_nonneg _ (by omega)];omega
 refine Eq.mp (PS 1 y _) ⟨by omega,by omega,by omega,by omega,by omega,?_⟩
 rw [e32]
 simp only [e1,ey,e0,GN h1 (show y<4294967296 by omega),GN (show (0:Int)<=1 by omega) (show (1:Int)<4294967296 by omega),GN (show (0:Int)<=0 by omega) (show (0:Int)<4294967296 by omega),Int.zero_mul,Int.mul_zero,Int.one_mul,Int.zero_add,Int.add_zero,
  xc h1 (show y<18446744073709551616 by omega),xc (show (0:Int)<=0 by omega) (show (0:Int)<18446744073709551616 by omega),xc (show (0:Int)<=1 by omega) (show (1:Int)<18446744073709551616 by omega)]
theorem wC:Sound Try.prog 172 Lu:=
 Sound.Di zi Ao mixed Try.func172 (by kernel_rfl) (by kernel_rfl) λx h=>OO x.1 x.2.1 h
theorem UX (x y:Int) (h:x=1/\0<=y/\y<=100000):fnW dL (look [(172,Lu)]) Lu Try.f152 (x,y,()) (λ(z:Int×Int×Unit)=>z=(0,y,())):=
 Eq.mp (VW x y _) ⟨_,if_pos h,rfl⟩
theorem z8:Sound Try.prog 152 Lu:=
 Sound.Di zi (Ah wC Ao) mixed Try.func152 (by kernel_rfl) (by kernel_rfl) λx h=>UX x.1 x.2.1 h
theorem kF {α:Type} (a b:α) {k m j:Nat} (h1:k+j<=m):Bf (List.replicate k a++List.replicate (m-k) b) k (List.replicate j a)=List.replicate (k+j) a++List.replicate (m-(k+j)) b:=by
 unfold Bf
 have e1:(List.replicate k a++List.replicate (m-k) b).take k=List.replicate k a:=List.take_left' (by simp)
 have e2:(List.replicate k a++List.replicate (m-k) b).drop (k+(List.replicate j a).length)=List.replicate (m-(k+j)) b:=by
  rw [List.length_replicate,List.drop_append,List.length_replicate,List.drop_replicate,List.drop_replicate,show k-(k+j)=0 by omega,show m-k-(k+j-k)=m-(k+j) by omega]
  rfl
 rw [e1,e2,<-List.replicate_append_replicate (n:=k) (m:=j)]
theorem JM (xs:List Int) (n:Int) (h:(∃v,xs= [v])/\1<=n/\n<=100000):fnMW dL (look [(152,Lu)]) Yr Try.f122 (xs,n,()) (λ(z:(List Int×Unit)×Unit)=>z=((List.replicate n.toNat (xs.getD 0 0),()),())):=by
 obtain ⟨⟨v,rfl⟩,h1,h2⟩:=h
 obtain ⟨m,rfl⟩:=Int.eq_ofNat_of_zero_le (show 0<=n by omega)
 have e1:IntKind.u64.wrap (([v]:List Int).length:Int)=1:=xc (by simp) (by simp)
 have e2:IntKind.u64.wrap (m:Int)=(m:Int):=xc (by omega) (by omega)
 have e3:IntKind.i64.wrap (m:Int)=(m:Int):=Bw (by omega) (by omega)
 have hmul:Lu.fn (IntKind.u64.wrap (([v]:List Int).length:Int),IntKind.u64.wrap (m:Int),())=some (0,(m:Int),()):=by
  rw [e1,e2];exact if_pos ⟨rfl,by show (0:Int)<=m;omega,by show (m:Int)<=100000;omega⟩
 refine Eq.mp (LK [v] m _) (Br.dec (λhb=>absurd hb (by omega)) λ_=>⟨_,hmul,Br.dec (λhb=>absurd hb (by show ¬(0:Int)>0;omega)) λ_=>Br.dec (λhb=>absurd hb (by show ¬(m:Int)>9223372036854775807;omega)) λ_=>?_⟩)
 dsimp only
 rw [e3]
 have Afp:Bf (List.replicate (m:Int).toNat (Int.ofNat 0)) 0 (List.take (List.replicate (m:Int).toNat (Int.ofNat 0)).length [v])=List.replicate 1 v++List.replicate (m-1) 0:=by
  rw [Int.toNat_natCast,List.length_replicate,List.take_of_length_le (by simp;omega)]
  have:=kF v (0:Int) (k:=0) (m:=m) (j:=1) (by omega)
  simpa using this
 rw [Afp]
 refine ⟨⟨by omega,by show (m:Int)<(4294967296:Int)+1;omega⟩,rfl,rfl,by simp;omega,?_⟩
 refine Bt.mk (λw=> ∃k:Nat,1<=k/\k<=m/\w=((k:Int),List.replicate k v++List.replicate (m-k) 0,())) (λw=>m-w.1.toNat) ⟨1,Nat.le_refl _,by omega,?_⟩ ?_
 ·have:min (List.replicate (m:Int).toNat (Int.ofNat 0)).length ([v]:List Int).length=1:=by simp;omega
  rw [this]
  first|rfl|skip
 rintro w ⟨k,k1,k2,rfl⟩
 dsimp only
 have hlen:(List.replicate k v++List.replicate (m-k) (0:Int)).length=m:=by simp;omega
 rw [hlen]
 refine Br.dec (λhl=>?_) λhl=>?_
 ·have hl:k<m:=by omega
  obtain ⟨j,hj⟩: ∃j,min (m-k) k=j:=⟨_,rfl⟩
  have NU:List.take (((k:Int)).toNat-Int.toNat (0:Int)) (List.drop (0+Int.toNat (0:Int)) (List.replicate k v++List.replicate (m-k) (0:Int)))=List.replicate k v:=by
   have e0:Int.toNat (0:Int)=0:=rfl
   rw [e0,Int.toNat_natCast,Nat.add_zero,Nat.sub_zero,List.drop_zero,List.take_left' (by simp)]
  have ht:List.take ((m:Int).toNat-((k:Int)).toNat) (List.replicate k v)=List.replicate j v:=by
   rw [Int.toNat_natCast,Int.toNat_natCast,List.take_replicate,hj]
  have YY:min ((m:Int).toNat-((k:Int)).toNat) (List.replicate k v).length=j:=by rw [List.length_replicate,Int.toNat_natCast,Int.toNat_natCast];exact hj
  rw [NU,ht,YY,Int.toNat_natCast,Nat.zero_add,kF v (0:Int) (by omega)]
  refine ⟨⟨by omega,by omega,by omega⟩,⟨by omega,by omega,by omega⟩,rfl,by simp;omega,⟨k+j,by omega,by omega,?_⟩,?_⟩
  ·rw [Bw (by omega) (by omega)]
   rfl
  ·rw [Bw (by omega) (by omega)]
   omega
 ·have:k=m:=by omega
  subst this
  rw [Nat.sub_self,List.replicate_zero,List.append_nil,List.drop_zero,List.take_of_length_le (by simp),Int.toNat_natCast]
  rfl
theorem sX:Cd Try.prog 122 Yr:=
 Cd.jf zi (Ah z8 Ao) mixed Try.func122 (by kernel_rfl) (by kernel_rfl) λx h=>JM x.1 x.2.1 h
end Go.Proofs.Ytjbdmibbbpdnnaa

namespace Go.Proofs.Ytjbdmibbbpdnnaa
open Go.RowKit
def qb (g:List (List Int)) (L:List (List Int)) (x:List Int):List Int:=(Ag g.length).map λl=>((L.idxOf (Aa x (Af g l)):Nat):Int)
theorem Tq {g:List (List Int)} {k:Int} {x:List Int} {d:Int} : ∀(ls:List Int) (s:EX) (row:List Int),∃A,(Vk g k x d ls s row).1.1=s.1++A
 | [],s,row=>⟨[],by simp [Vk]⟩
 |l::ls,s,row=>by
  simp only [Vk]
  split
  ·exact Tq ls s _
  ·obtain ⟨A,h⟩:=Tq (g:=g) (k:=k) (x:=x) (d:=d) ls (s.1++ [Aa x (Af g l)],s.2.1++ [d+1],s.2.2.1++ [k],s.2.2.2++ [l]) (row++ [(s.1.length:Int)])
   exact ⟨_::A,by rw [h,List.append_assoc];rfl⟩
theorem xZ {L A:List (List Int)} {y:List Int} (h:y∈L):(L++A).idxOf y=L.idxOf y:=by rw [List.idxOf_append,if_pos h]
theorem CH {L A:List (List Int)} {y:List Int} (h:y∉L):(L++y::A).idxOf y=L.length:=by
 rw [List.idxOf_append,if_neg h,List.idxOf_cons_self];simp
theorem iP {g:List (List Int)} {k:Int} {x:List Int} {d:Int} : ∀(ls:List Int) (s:EX) (row:List Int) (A:List (List Int)),
  (Vk g k x d ls s row).2=row++ls.map λl=>((((Vk g k x d ls s row).1.1++A).idxOf (Aa x (Af g l)):Nat):Int)
 | [],s,row,A=>by simp [Vk]
 |l::ls,s,row,A=>by
  simp only [Vk]
  split
  ·rename_i hm
   obtain ⟨B,hB⟩:=Tq (g:=g) (k:=k) (x:=x) (d:=d) ls s (row++ [(s.1.idxOf (Aa x (Af g l)):Int)])
   rw [iP ls s _ A,List.append_assoc,List.map_cons,hB,List.append_assoc,xZ hm]
   rfl
  ·rename_i hm
   obtain ⟨B,hB⟩:=Tq (g:=g) (k:=k) (x:=x) (d:=d) ls (s.1++ [Aa x (Af g l)],s.2.1++ [d+1],s.2.2.1++ [k],s.2.2.2++ [l]) (row++ [(s.1.length:Int)])
   rw [iP ls _ _ A,List.append_assoc,List.map_cons,hB]
   dsimp only
   rw [List.append_assoc,List.append_assoc,List.singleton_append,List.cons_append,CH hm]
   try rfl
theorem pH {g:List (List Int)} {ls:List Int} : ∀(f k:Nat) (s:EX) (N:List (List Int)),∃A,(Wt g ls f k s N).1.1=s.1++A
 |0,k,s,N=>⟨[],by simp [Wt]⟩
 |f+1,k,s,N=>by
  simp only [Wt]
  split
  ·obtain ⟨A,hA⟩:=Tq (g:=g) (k:=(k:Int)) (x:=s.1.getD k []) (d:=s.2.1.getD k 0) ls s []
   obtain ⟨B,hB⟩:=pH (g:=g) (ls:=ls) f (k+1) (Vk g (k:Int) (s.1.getD k []) (s.2.1.getD k 0) ls s []).1 (N++ [(Vk g (k:Int) (s.1.getD k []) (s.2.1.getD k 0) ls s []).2])
   exact ⟨A++B,by rw [hB,hA,List.append_assoc]⟩
  ·exact ⟨[],by simp⟩
theorem pI {g:List (List Int)} : ∀(f k:Nat) (s:EX) (N:List (List Int)),(Wt g (Ag g.length) f k s N).1.1.length<=f+k->
  (Wt g (Ag g.length) f k s N).2=N++((Wt g (Ag g.length) f k s N).1.1.drop k).map (qb g (Wt g (Ag g.length) f k s N).1.1)
 |0,k,s,N,h=>by
  simp only [Wt] at h⊢
  rw [List.drop_of_length_le (by omega)]
  simp
 |f+1,k,s,N,h=>by
  simp only [Wt] at h⊢
  split
  ·rename_i hk
   rw [if_pos hk] at h
   obtain ⟨A,hA⟩:=Tq (g:=g) (k:=(k:Int)) (x:=s.1.getD k []) (d:=s.2.1.getD k 0) (Ag g.length) s []
   obtain ⟨B,hB⟩:=pH (g:=g) (ls:=Ag g.length) f (k+1) (Vk g (k:Int) (s.1.getD k []) (s.2.1.getD k 0) (Ag g.length) s []).1 (N++ [(Vk g (k:Int) (s.1.getD k []) (s.2.1.getD k 0) (Ag g.length) s []).2])
   have Qh:=iP (g:=g) (k:=(k:Int)) (x:=s.1.getD k []) (d:=s.2.1.getD k 0) (Ag g.length) s [] B
   rw [<-hB,List.nil_append] at Qh
   rw [pI f (k+1) _ _ (by omega),List.append_assoc]
   congr 1
   generalize hR:Wt g (Ag g.length) f (k+1) _ _=R at*
   have hkR:k<R.1.1.length:=by rw [hB,hA,List.length_append,List.length_append];omega
   rw [List.drop_eq_getElem_cons hkR,List.map_cons,List.singleton_append]
   congr 1
   have e:R.1.1[k]=s.1.getD k []:=by
    rw [<-Cv (d:= []) hkR,hB,hA,List.append_assoc,Ew hk]
   rw [Qh,e]
   rfl
  ·rename_i hk
   rw [List.drop_of_length_le (by show s.1.length<=k;omega)]
   simp
theorem BQ {p:PP} (hw:Bq p=true):(Ji p).2.2.2.2.2.2.1=(Ad p).map (qb p.2.2.1 (Ad p)):=by
 have h1:=(ry hw).1
 have h2:=nL (Cl hw).1
 have h3:=pI (g:=p.2.2.1) 3001 0 ([upto p.1.toNat],[0],[0],[0]) [] (by
  show (Ji p).2.1.length<=3001+0
  rw [h1];omega)
 have h4:(Wt p.2.2.1 (Ag p.2.2.1.length) 3001 0 ([upto p.1.toNat],[0],[0],[0]) []).1.1=Ad p:=h1
 rw [h4,List.nil_append,List.drop_zero] at h3
 exact h3
noncomputable def Ft (p:PP) (i:Nat):List Int:=qb p.2.2.1 (Ad p) ((Ad p).getD i [])
theorem Oe {p:PP} (hw:Bq p=true):lF p.2.2.1 (Ag p.2.2.1.length) (Ad p):=by
 obtain ⟨hv,hb⟩:=Cl hw
 have hV:=valid hv
 have hn:=hV.n
 exact Ww hV (tb hv) (eV hv (by rw [Pn];omega) (λy hy=>by have:=Ih.1 hy;omega) hb)
theorem ES {p:PP} (hw:Bq p=true):iD p.2.2.1 (Ag p.2.2.1.length) (Ad p) (cj p):=by
 obtain ⟨hv,hb⟩:=Cl hw
 have hn:=(valid hv).n
 exact eV hv (by rw [Pn];omega) (λy hy=>by have:=Ih.1 hy;omega) hb
theorem yr {p:PP} (hw:Bq p=true) {i:Nat} (hi:i<(Ad p).length) {l:Int} (hl:l∈Ag p.2.2.1.length):
  (Ad p).idxOf (Aa ((Ad p).getD i []) (Af p.2.2.1 l))<(Ad p).length/\
  (Ad p).getD ((Ad p).idxOf (Aa ((Ad p).getD i []) (Af p.2.2.1 l))) []=Aa ((Ad p).getD i []) (Af p.2.2.1 l):=by
 have hm:=(Oe hw).next _ (Kc hi) l hl
 have h1:=List.idxOf_lt_length_of_mem hm
 exact ⟨h1,by rw [Cv h1];exact List.getElem_idxOf h1⟩
theorem gS {p:PP} (hw:Bq p=true):eP (Ft p) (Ad p).length:= λi hi t ht=>by
 obtain ⟨l,hl,rfl⟩:=List.mem_map.1 ht
 have:=(yr hw hi hl).1
 omega
theorem ik {p:PP} (hw:Bq p=true) (Q:List Int->Prop) (hQ: ∀x∈Ad p,Q x-> ∀l∈Ag p.2.2.1.length,Q (Aa x (Af p.2.2.1 l))) {x:List Int} (hx:x∈Ad p) (hq:Q x):
  ∀y∈Ad p,Q y:=by
 have hc:=Oe hw
 have hL:=ES hw
 have up: ∀(j:Nat),j<(Ad p).length->Q ((Ad p).getD j [])->Q ((Ad p).getD 0 []):=by
  intro j
  induction j using Nat.strongRecOn with
  |_ j ih=>
   intro hj hqj
   by_cases e:j=0
   ·subst e;exact hqj
   ·obtain ⟨i,l,h1,h2,h3,_⟩:=hL.par j (by omega) hj
    have hi:i<(Ad p).length:=by omega
    obtain ⟨b1,b2⟩:=hc.back _ (Kc hi) l h2
    refine ih i h1 hi ?_
    have:=hQ _ (Kc hj) hqj _ b1
    rwa [h3,b2] at this
 have down:Q ((Ad p).getD 0 [])-> ∀(j:Nat),j<(Ad p).length->Q ((Ad p).getD j []):=by
  intro h0 j
  induction j using Nat.strongRecOn with
  |_ j ih=>
   intro hj
   by_cases e:j=0
   ·subst e;exact h0
   ·obtain ⟨i,l,h1,h2,h3,_⟩:=hL.par j (by omega) hj
    have hi:i<(Ad p).length:=by omega
    rw [h3]
    exact hQ _ (Kc hi) (ih i h1 hi) l h2
 obtain ⟨j,hj,rfl⟩:=List.mem_iff_getElem.1 hx
 rw [<-Cv (d:= []) hj] at hq
 intro y hy
 obtain ⟨k,hk,rfl⟩:=List.mem_iff_getElem.1 hy
 rw [<-Cv (d:= []) hk]
 exact down (up j hj hq) k hk
theorem MR {p:PP} (hw:Bq p=true) (S:Nat->Bool) {i0:Nat} (YS:i0<(Ad p).length) (hS:S i0=true):
  Jb p.2.2.1 (Ag p.2.2.1.length) (Ad p) (λx=>S ((Ad p).idxOf x)=true) (λx=>(kZ (Ft p) S (Ad p).length).getD ((Ad p).idxOf x) 0):=by
 have hd:=QD (S:=S) (gS hw)
 have ow:=(KF hw).nodup
 have hc:=Oe hw
 have ix: ∀ {x:List Int},x∈Ad p->(Ad p).idxOf x<(Ad p).length/\(Ad p).getD ((Ad p).idxOf x) []=x:= λ {x} hx=>by
  have h1:=List.idxOf_lt_length_of_mem hx
  exact ⟨h1,by rw [Cv h1];exact List.getElem_idxOf h1⟩
 have st: ∀x∈Ad p,0<=(kZ (Ft p) S (Ad p).length).getD ((Ad p).idxOf x) 0-> ∀l∈Ag p.2.2.1.length,
   0<=(kZ (Ft p) S (Ad p).length).getD ((Ad p).idxOf (Aa x (Af p.2.2.1 l))) 0/\
   (kZ (Ft p) S (Ad p).length).getD ((Ad p).idxOf (Aa x (Af p.2.2.1 l))) 0<=(kZ (Ft p) S (Ad p).length).getD ((Ad p).idxOf x) 0+1:= λx hx h0 l hl=>by
  obtain ⟨i1,i2⟩:=ix hx
  have:=hd.done _ i1 h0 (by simp) (λh=>h) (((Ad p).idxOf (Aa x (Af p.2.2.1 l)):Nat):Int) (List.mem_map.2 ⟨l,hl,by rw [i2]⟩)
  rwa [Int.toNat_natCast] at this
 have nn: ∀x∈Ad p,0<=(kZ (Ft p) S (Ad p).length).getD ((Ad p).idxOf x) 0:=by
  refine ik hw _ (λx hx h0 l hl=>(st x hx h0 l hl).1) (Kc YS) ?_
  rw [Jv ow YS,hd.src i0 YS hS]
  exact Int.le_refl _
 refine ⟨nn,λx hx=>⟨λh0=>hd.OZ _ (ix hx).1 h0,λhs=>hd.src _ (ix hx).1 hs⟩,λx hx l hl=>(st x hx (nn x hx) l hl).2,λx hx h0=>?_⟩
 obtain ⟨j,j1,j2,j3⟩:=hd.par _ (ix hx).1 h0
 obtain ⟨l,hl,WR⟩:=List.mem_map.1 j2
 obtain ⟨n1,n2⟩:=yr hw j1 hl
 have e:(Ad p).idxOf (Aa ((Ad p).getD j []) (Af p.2.2.1 l))=(Ad p).idxOf x:=by omega
 obtain ⟨b1,b2⟩:=hc.back _ (Kc j1) l hl
 rw [e,(ix hx).2] at n2
 refine ⟨-l,b1,?_⟩
 have e5:Aa x (Af p.2.2.1 (-l))=(Ad p).getD j []:=(congrArg (λz=>Aa z (Af p.2.2.1 (-l))) n2).trans b2
 rw [e5,Jv ow j1,j3]
end Go.Proofs.Ytjbdmibbbpdnnaa

namespace Go.Proofs.Ytjbdmibbbpdnnaa
open Go.RowKit
abbrev tGD:Ty:= .clo 120 (.pair (.ptr tL) (.pair (.ptr (.optr Wi)) .unit))
def GG (e:Option XP):Prop:= ∃e':XP,e=some e'/\qR e'
noncomputable def Mv (goal:List Int) (e:Option XP) (i:Int):Bool:=match e with|some e=>Wb goal ((Ad e.1).getD i.toNat [])|none=>false
def BF (goal:List Int) (e:Option XP):Prop:= ∃e':XP,e=some e'/\qR e'/\Gd e'.1.1 goal=true
def RV (e:Option XP):Nat:=match e with|some e=>e.2.1.length|none=>0
noncomputable abbrev nq:Spec:=Di (.pair tI (.pair (.ptr tL) (.pair (.ptr (.optr Wi)) .unit))) .bool false true (λx=>BF x.2.1 x.2.2.1/\0<=x.1/\x.1<RV x.2.2.1) (λx=>Mv x.2.1 x.2.2.1 x.1)
noncomputable def ck (e:Option XP) (S:Nat->Bool):List Int:=match e with|some e=>kZ (Ft e.1) S (Ad e.1).length|none=> []
noncomputable abbrev Vd:Spec:=Di (.pair (.optr Wi) (.pair tGD .unit)) tL false true (λx=>GG x.1/\x.2.1.2.1=x.1/\BF x.2.1.1 x.1) (λx=>ck x.1 λi=>Mv x.2.1.1 x.1 (i:Int))
noncomputable abbrev Nm:Spec:=Di (.pair (.optr Wi) (.pair tL .unit)) tL false true (λx=>BF x.2.1 x.1) (λx=>ck x.1 λi=>Mv x.2.1 x.1 (i:Int))
abbrev tDs:Ty:= .clo 119 (.pair (.ptr tL) (.pair (.ptr tI) .unit))
noncomputable abbrev qz:Spec:=Di (.pair tI (.pair (.ptr tL) (.pair (.ptr tI) .unit))) .bool false true (λx=>(0<=x.1/\x.1<List.length x.2.1)/\0<=x.2.2.1/\x.2.2.1<List.length x.2.1) (λx=>decide (Ca x.2.1 x.1<Ca x.2.1 x.2.2.1))
noncomputable abbrev jv:Spec:=Di (.pair tL (.pair tDs .unit)) tI false true (λx=>short x.1/\Gs (List.length x.2.1.1) x.1/\0<=x.2.1.2.1/\x.2.1.2.1<List.length x.2.1.1) (λx=>Ck (λy=>decide (Ca x.2.1.1 y<Ca x.2.1.1 x.2.1.2.1)) x.1 0)
def Xp (N:Nat->List Int) (ls d:List Int):Nat->Int->List Int->List Int×Int
 |0,i,w=>(w,i)
 |f+1,i,w=>if 0<Ca d i then Xp N ls d f ((N i.toNat).getD (Ck (λy=>decide (Ca d y<Ca d i)) (N i.toNat) 0).toNat 0) (w++ [ls.getD (Ck (λy=>decide (Ca d y<Ca d i)) (N i.toNat) 0).toNat 0]) else (w,i)
noncomputable def Qm (p:PP) (d:List Int) (i:Int):List Int×Int×Bool×Unit:=
 if Ca d i>200 then ([],0,false,()) else ((Xp (Ft p) (Ag p.2.2.1.length) d (Ca d i).toNat i []).1,(Xp (Ft p) (Ag p.2.2.1.length) d (Ca d i).toNat i []).2,true,())
noncomputable def sf (e:Option XP) (d:List Int) (i:Int):(List Int×Int×Bool×Unit)×Unit:=match e with|some e=>(Qm e.1 d i,())|none=>(([],0,false,()),())
structure BE (p:PP) (d:List Int):Prop where
 len:d.length=(Ad p).length
 nn: ∀i,i<d.length->0<=d.getD i 0
 dn: ∀i,i<d.length->0<d.getD i 0-> ∃t∈Ft p i,d.getD t.toNat 0<d.getD i 0
noncomputable abbrev Qt:MSpec:=jf [none,none,none] [(false, .Fc (.optr Wi)),(false, .Fc tL),(false, .Fc tI)] true [none,none,none] [rL, .Fc tI, .Fc .bool]
 (λx=> ∃e':XP,x.1=some e'/\qR e'/\BE e'.1 x.2.1/\0<=x.2.2.1/\x.2.2.1<List.length x.2.1) (λx=>sf x.1 x.2.1 x.2.2.1)
theorem Abg (i:Int) (goal:List Int) (e:Option XP) (P:Bool->Prop):(∃(y4:(Int×ByteArray×List (List Int)×PUnit)×List (List Int)×List Int×(ByteArray->Option Int)×List Int×List Int×List (List Int)×PUnit),e=some y4/\ ∃(y5:List Int),idx y4.2.1 i=some y5/\ ∃(y6:Bool),Ob.fn (goal,y5,())=some y6/\P y6)=fnW Cy (look [(121,Ob)]) nq Try.f120 (i,goal,e,()) P:=by kernel_rfl
abbrev jJ:Type:=(Int×ByteArray×List (List Int)×PUnit)×List (List Int)×List Int×(ByteArray->Option Int)×List Int×List Int×List (List Int)×PUnit
theorem LG (e:Option XP) (c:List Int×Option XP×Unit) (P:List Int->Prop):(∃(y3:jJ),e=some y3/\ ∃(y4:(List Int×PUnit)×PUnit),Yr.fn (List.take 1 (List.drop 0 [(-1:Int)]),(↑y3.2.1.length:Int),())=some y4/\ ∃(y5:jJ),e=some y5/\ ∃(y6:Int),Tl.fn (y5.2.1,())=some y6/\0=0/\y4.1.1.length=y4.1.1.length/\0=0/\(List.take 0 (List.drop 0 ([]:List Int))).length=(List.take 0 (List.drop 0 ([]:List Int))).length/\Bt (λ(v7:Int×List Int×List Int×PUnit) (k8:Int×List Int×List Int×PUnit->Prop)=>Br (decide (v7.1<y6)) (∃(y9:Bool),nq.fn (v7.1,c.1,c.2.1,())=some y9/\Br y9 (((0:Int)<=v7.1/\v7.1<(↑v7.2.2.1.length:Int))/\0+v7.1.toNat<v7.2.2.1.length/\0=0/\v7.2.1.length=v7.2.1.length/\v7.2.1.length+(List.take 1 (List.drop 0 [v7.1])).length<=Bm/\0=0/\v7.2.2.1.length=(v7.2.2.1.set (0+v7.1.toNat) (0:Int)).length/\0=0/\(List.take (v7.2.1++List.take 1 (List.drop 0 [v7.1])).length (List.drop 0 (v7.2.1++List.take 1 (List.drop 0 [v7.1])))).length=(List.take (v7.2.1++List.take 1 (List.drop 0 [v7.1])).length (List.drop 0 (v7.2.1++List.take 1 (List.drop 0 [v7.1])))).length/\k8 (IntKind.i64.wrap (v7.1+(1:Int)),List.take (v7.2.1++List.take 1 (List.drop 0 [v7.1])).length (List.drop 0 (v7.2.1++List.take 1 (List.drop 0 [v7.1]))),v7.2.2.1.set (0+v7.1.toNat) (0:Int),())) (0=0/\v7.2.2.1.length=v7.2.2.1.length/\0=0/\(List.take v7.2.1.length (List.drop 0 v7.2.1)).length=(List.take v7.2.1.length (List.drop 0 v7.2.1)).length/\k8 (IntKind.i64.wrap (v7.1+(1:Int)),List.take v7.2.1.length (List.drop 0 v7.2.1),v7.2.2.1,()))) (0=0/\v7.2.2.1.length=v7.2.2.1.length/\0=0/\(List.take v7.2.1.length (List.drop 0 v7.2.1)).length=(List.take v7.2.1.length (List.drop 0 v7.2.1)).length/\Bt (λ(v9:List Int×List Int×PUnit) (k10:List Int×List Int×PUnit->Prop)=>Br (decide ((↑v9.1.length:Int)>(0:Int))) (∃(kM:jJ),e=some kM/\((0:Int)<=(0:Int)/\(0:Int)<(↑v9.1.length:Int))/\ ∃(iw:Int),v9.1[0+Int.toNat (0:Int)]?=some iw/\ ∃(iy:List Int),idx kM.2.2.2.2.2.2.1 iw=some iy/\0=0/\v9.2.1.length=v9.2.1.length/\0=0/\(List.take v9.1.length (List.drop 0 v9.1)).length=(List.take v9.1.length (List.drop 0 v9.1)).length/\Bt (λ(Vn:Int×List Int×List Int×PUnit) (k15:Int×List Int×List Int×PUnit->Prop)=>Br (decide (Vn.1<(↑iy.length:Int))) (∃(dM:Int),idx iy Vn.1=some dM/\((0:Int)<=dM/\dM<(↑Vn.2.2.1.length:Int))/\ ∃(BD:Int),Vn.2.2.1[0+dM.toNat]?=some BD/\Br (decide (BD<(0:Int))) (((0:Int)<=(0:Int)/\(0:Int)<(↑Vn.2.1.length:Int))/\ ∃(FO:Int),Vn.2.1[0+Int.toNat (0:Int)]?=some FO/\((0:Int)<=FO/\FO<(↑Vn.2.2.1.length:Int))/\ ∃(PX:Int),Vn.2.2.1[0+FO.toNat]?=some PX/\((0:Int)<=dM/\dM<(↑Vn.2.2.1.length:Int))/\0+dM.toNat<Vn.2.2.1.length/\0=0/\Vn.2.1.length=Vn.2.1.length/\Vn.2.1.length+(List.take 1 (List.drop 0 [dM])).length<=Bm/\0=0/\Vn.2.2.1.length=(Vn.2.2.1.set (0+dM.toNat) (IntKind.i64.wrap (PX+(1:Int)))).length/\0=0/\(List.take (Vn.2.1++List.take 1 (List.drop 0 [dM])).length (List.drop 0 (Vn.2.1++List.take 1 (List.drop 0 [dM])))).length=(List.take (Vn.2.1++List.take 1 (List.drop 0 [dM])).length (List.drop 0 (Vn.2.1++List.take 1 (List.drop 0 [dM])))).length/\k15 (IntKind.i64.wrap (Vn.1+(1:Int)),List.take (Vn.2.1++List.take 1 (List.drop 0 [dM])).length (List.drop 0 (Vn.2.1++List.take 1 (List.drop 0 [dM]))),Vn.2.2.1.set (0+dM.toNat) (IntKind.i64.wrap (PX+(1:Int))),())) (0=0/\Vn.2.2.1.length=Vn.2.2.1.length/\0=0/\(List.take Vn.2.1.length (List.drop 0 Vn.2.1)).length=(List.take Vn.2.1.length (List.drop 0 Vn.2.1)).length/\k15 (IntKind.i64.wrap (Vn.1+(1:Int)),List.take Vn.2.1.length (List.drop 0 Vn.2.1),Vn.2.2.1,()))) (((0:Int)<=(1:Int)/\(1:Int)<=(↑Vn.2.1.length:Int)/\(↑Vn.2.1.length:Int)<=(↑Vn.2.1.length:Int))/\0=0/\Vn.2.2.1.length=Vn.2.2.1.length/\0=0/\(List.take ((↑Vn.2.1.length:Int).toNat-Int.toNat (1:Int)) (List.drop (0+Int.toNat (1:Int)) Vn.2.1)).length=(List.take ((↑Vn.2.1.length:Int).toNat-Int.toNat (1:Int)) (List.drop (0+Int.toNat (1:Int)) Vn.2.1)).length/\k10 (List.take ((↑Vn.2.1.length:Int).toNat-Int.toNat (1:Int)) (List.drop (0+Int.toNat (1:Int)) Vn.2.1),Vn.2.2.1,()))) ((0:Int),List.take v9.1.length (List.drop 0 v9.1),v9.2.1,PUnit.unit)) (P (List.take v9.2.1.length (List.drop 0 v9.2.1)))) (List.take v7.2.1.length (List.drop 0 v7.2.1),v7.2.2.1,PUnit.unit))) ((0:Int),List.take 0 (List.drop 0 []),y4.1.1,PUnit.unit))=fnW (VK [Ho+6]) (look [(122,Yr),(58,Tl),(120,nq)]) Vd Try.f71 (e,c,()) P:=by kernel_rfl
theorem zo (e:Option XP) (goal:List Int) (P:List Int->Prop):(∃(y3:List Int),Vd.fn (e,(goal,e,()),())=some y3/\P y3)=fnW Cy (look [(71,Vd)]) Nm Try.f68 (e,goal,()) P:=by kernel_rfl
theorem Abc (y:Int) (d:List Int) (i:Int) (P:Bool->Prop):(∃(y4:Int),idx d y=some y4/\ ∃(y5:Int),idx d i=some y5/\P (decide (y4<y5)))=fnW Cy (look []) qz Try.f119 (y,d,i,()) P:=by kernel_rfl
theorem VU (xs:List Int) (c:List Int×Int×Unit) (P:Int->Prop):(Bt (λ(v3:Int×PUnit) (k4:Int×PUnit->Prop)=>Br (decide (v3.1<(↑xs.length:Int))) (∃(y5:Int),idx xs v3.1=some y5/\ ∃(y6:Bool),qz.fn (y5,c.1,c.2.1,())=some y6/\Br y6 (P v3.1) (k4 (IntKind.i64.wrap (v3.1+(1:Int)),()))) (P (-1:Int))) ((0:Int),PUnit.unit))=fnW Cy (look [(119,qz)]) jv Try.f118 (xs,c,()) P:=by kernel_rfl
abbrev fK:Type:=(Int×ByteArray×List (List Int)×PUnit)×List (List Int)×List Int×(ByteArray->Option Int)×List Int×List Int×List (List Int)×PUnit
theorem FD (e:Option XP) (d:List Int) (i:Int) (P:((List Int×Int×Bool×Unit)×Unit)->Prop):(∃(y4:Int),idx d i=some y4/\Br (decide (y4>(200:Int))) (P ((List.take 0 (List.drop 0 []),(0:Int),false,()),())) (∃(y5:fK),e=some y5/\ ∃(y6:List Int),Hz.fn ((↑y5.1.2.2.1.length:Int),())=some y6/\0=0/\0=([]:List Int).length/\Bt (λ(v7:List Int×Int×List Int×PUnit) (k8:List Int×Int×List Int×PUnit->Prop)=> ∃(y9:Int),idx v7.1 v7.2.1=some y9/\Br (decide (y9>(0:Int))) (∃(lD:fK),e=some lD/\ ∃(kM:List Int),idx lD.2.2.2.2.2.2.1 v7.2.1=some kM/\ ∃(iw:Int),jv.fn (kM,(v7.1,v7.2.1,()),())=some iw/\ ∃(iy:Int),idx y6 iw=some iy/\0=0/\v7.2.2.1.length=v7.2.2.1.length/\v7.2.2.1.length+(List.take 1 (List.drop 0 [iy])).length<=Bm/\ ∃(Yy:fK),e=some Yy/\ ∃(dc:List Int),idx Yy.2.2.2.2.2.2.1 v7.2.1=some dc/\ ∃(dM:Int),idx dc iw=some dM/\0=0/\(v7.2.2.1++List.take 1 (List.drop 0 [iy])).length=(v7.2.2.1++List.take 1 (List.drop 0 [iy])).length/\k8 (v7.1,dM,v7.2.2.1++List.take 1 (List.drop 0 [iy]),())) (P ((List.take v7.2.2.1.length (List.drop 0 v7.2.2.1),v7.2.1,true,()),()))) (d,i,[],PUnit.unit)))=fnMW Xi (look [(117,Hz),(118,jv)]) Qt Try.f67 (e,d,i,()) P:=by kernel_rfl
theorem QE {e:XP} (h:qR e):e.2.1=Ad e.1:=(congrArg (λz:XP=>z.2.1) h.2).trans (ry h.1).1
theorem MS {e:XP} (h:qR e):e.2.2.2.2.2.2.1=(Ad e.1).map (qb e.1.2.2.1 (Ad e.1)):=(congrArg (λz:XP=>z.2.2.2.2.2.2.1) h.2).trans (BQ h.1)
theorem HD {e:XP} (h:qR e) {i:Nat} (hi:i<(Ad e.1).length):idx e.2.2.2.2.2.2.1 (i:Int)=some (Ft e.1 i):=by
 rw [MS h,Av (by rw [List.length_map];exact hi),List.getElem_map]
 unfold Ft
 rw [Cv hi]
theorem mR (p:PP) (i:Nat):(Ft p i).length=(Ag p.2.2.1.length).length:=by unfold Ft qb;rw [List.length_map]
theorem cd {p:PP} (hV:Valid p):(Ag p.2.2.1.length).length<=16:=by rw [Kl];have:=hV.o3;omega
theorem Aas (i:Int) (goal:List Int) (e:Option XP) (h:BF goal e/\0<=i/\i<RV e):fnW Cy (look [(121,Ob)]) nq Try.f120 (i,goal,e,()) (λ(z:Bool)=>z=Mv goal e i):=by
 obtain ⟨⟨e',rfl,hx,hp⟩,h1,h2⟩:=h
 obtain ⟨k,rfl⟩:=Int.eq_ofNat_of_zero_le h1
 have Pp:=QE hx
 have h2:((k:Nat):Int)<(e'.2.1.length:Int):=h2
 rw [Pp] at h2
 have hk:k<(Ad e'.1).length:=by omega
 have hv:=(Cl hx.1).1
 have CD:=KG hv (List.getElem_mem hk)
 have ht:=Fg (Ik.2 ⟨hv,hp⟩)
 refine Eq.mp (Abg _ _ _ _) ⟨e',rfl,(Ad e'.1)[k],by rw [Pp];exact Av hk,_,if_pos ⟨by show goal.length<=4294967296;omega,JS CD,MW hv CD hp⟩,?_⟩
 show Wb goal (Ad e'.1)[k]=Wb goal ((Ad e'.1).getD ((k:Nat):Int).toNat [])
 rw [Int.toNat_natCast,Cv hk]
theorem EJ:Sound Try.prog 120 nq:=
 Sound.Di Bx (Ah lb Ao) mixed Try.func120 (by kernel_rfl) (by kernel_rfl) λx h=>Aas x.1 x.2.1 x.2.2.1 h
def LR (S:Nat->Bool) (i:Nat):List Int:=((List.range i).filter S).map λ(k:Nat)=>(k:Int)
theorem uy (S:Nat->Bool) (i:Nat):LR S (i+1)=if S i=true then LR S i++ [(i:Int)] else LR S i:=by
 unfold LR
 rw [List.range_succ,List.filter_append]
 by_cases h:S i=true
 ·rw [if_pos h];simp [h]
 ·rw [if_neg h];simp [h]
theorem MQ (S:Nat->Bool) (i:Nat):(LR S i).length<=i:=by
 unfold LR
 rw [List.length_map]
 exact Nat.le_trans (List.length_filter_le _ _) (by simp)
theorem OY {xs:List Int} {i:Nat} {v:Int} {m:Nat} (hl:xs.length=m) (hi:i<m) {f g:Nat->Int} (h: ∀k,k<m->xs.getD k 0=f k) (hg:g i=v) (Ek: ∀k,k≠i->g k=f k): ∀k,k<m->(xs.set i v).getD k 0=g k:= λk hk=>by
 rw [dk (by omega)]
 by_cases e:i=k
 ·subst e;rw [if_pos rfl,hg]
 ·rw [if_neg e,h k hk,Ek k λe'=>e e'.symm]
theorem CR {xs ys:List Int} (h1:xs.length=ys.length) (h: ∀k,k<xs.length->xs.getD k 0=ys.getD k 0):xs=ys:=
 List.ext_getElem h1 λk h2 h3=>by have:=h k h2;rwa [Cv h2,Cv h3] at this
theorem XT {xs:List Int} {k:Nat} (h:k<xs.length):xs[0+((k:Nat):Int).toNat]?=some (xs.getD k 0):=by
 rw [Nat.zero_add,Int.toNat_natCast,List.getElem?_eq_getElem h,Cv h]
theorem JI (e:Option XP) (c:List Int×Option XP×Unit) (h:GG e/\c.2.1=e/\BF c.1 e):fnW (VK [Ho+6]) (look [(122,Yr),(58,Tl),(120,nq)]) Vd Try.f71 (e,c,()) (λ(z:List Int)=>z=ck e λi=>Mv c.1 e (i:Int)):=by
 obtain ⟨⟨e',rfl,hx⟩,hce,LW⟩:=h
 obtain ⟨goal,ce,⟨⟩⟩:=c
 dsimp only at hce LW
 subst hce
 have Pp:=QE hx
 have hwv:=Cl hx.1
 have hm3:=nL hwv.1
 have RF:=KH hwv.1
 have hR:=gS hx.1
 have hV:=valid hwv.1
 have hlf:=cd hV
 obtain ⟨m,hm⟩: ∃m,(Ad e'.1).length=m:=⟨_,rfl⟩
 obtain ⟨S,hS⟩: ∃S:Nat->Bool,(λ(i:Nat)=>Mv goal (some e') (i:Int))=S:=⟨_,rfl⟩
 have hSi: ∀i:Nat,Mv goal (some e') (i:Int)=S i:= λi=>congrFun hS i
 show fnW _ _ Vd _ _ (λz=>z=kZ (Ft e'.1) (λi=>Mv goal (some e') (i:Int)) (Ad e'.1).length)
 rw [hS]
 have Nt: ∀i:Nat,i<m->nq.fn ((i:Int),goal,some e',())=some (S i):= λi hi=>by
  refine (if_pos ⟨LW,by show (0:Int)<=i;omega,?_⟩).trans (congrArg some (hSi i))
  show (i:Int)<((e'.2.1.length:Nat):Int)
  rw [Pp];omega
 rw [hm] at hm3 RF hR⊢
 refine Eq.mp (LG _ _ _) ⟨e',rfl,((List.replicate m (-1),()),()),?_,e',rfl,(m:Int),?_,rfl,rfl,rfl,rfl,?_⟩
 ·rw [Pp,hm]
  refine (if_pos ⟨⟨-1,rfl⟩,by show (1:Int)<=m;omega,by show (m:Int)<=100000;omega⟩).trans ?_
  show some ((List.replicate ((m:Int)).toNat (-1),()),())=_
  rw [Int.toNat_natCast]
 ·exact (if_pos trivial).trans (congrArg some (by show ((e'.2.1.length:Nat):Int)=m;rw [Pp,hm]))
 refine As m (λv=>v.1) (λj v=>v.2.1=LR S j/\v.2.2.1.length=m/\ ∀k,k<m->v.2.2.1.getD k 0=if k<j/\S k=true then 0 else-1) rfl ⟨rfl,by simp,λk hk=>?_⟩ ?_
 ·rw [if_neg (by omega),Cv (by simpa using hk),List.getElem_replicate]
 rintro j ⟨i,q,out,⟨⟩⟩ K hj hi ⟨h1,h2,h3⟩ hK
 dsimp only at hi h1 h2 h3⊢
 subst hi h1
 have hql:=MQ S j
 refine Br.dec (λhl=>?_) λhl=>⟨rfl,rfl,rfl,rfl,?_⟩
 ·have hl:j<m:=by omega
  refine ⟨S j,Nt j hl,Br.of (λhs=>?_) λhs=>?_⟩
  ·refine ⟨⟨by omega,by omega⟩,by rw [Int.toNat_natCast];omega,rfl,rfl,by show (LR S j).length+1<=4294967296;omega,rfl,by rw [List.length_set],rfl,rfl,?_⟩
   rw [Bh,Ar (by omega),Int.toNat_natCast,Nat.zero_add]
   refine hK hl _ rfl ⟨?_,by rw [List.length_set];exact h2,?_⟩
   ·show LR S j++ [(j:Int)]=_
    rw [uy,if_pos hs]
   ·refine OY h2 hl h3 (by rw [if_pos ⟨by omega,hs⟩]) λk hk=>?_
    by_cases hc:k<j/\S k=true
    ·rw [if_pos hc,if_pos ⟨by omega,hc.2⟩]
    ·rw [if_neg hc,if_neg λh=>hc ⟨by omega,h.2⟩]
  ·refine ⟨rfl,rfl,rfl,rfl,?_⟩
   rw [Bh,Ar (by omega)]
   refine hK hl _ rfl ⟨?_,h2,λk hk=>?_⟩
   ·show LR S j=_
    rw [uy,if_neg (by rw [hs];decide)]
   ·rw [h3 k hk]
    by_cases hc:k<j/\S k=true
    ·rw [if_pos hc,if_pos ⟨by omega,hc.2⟩]
    ·rw [if_neg hc,if_neg λh=>hc ⟨by
      by_cases e:k=j
      ·subst e;rw [hs] at h;exact absurd h.2 (by decide)
      ·omega,h.2⟩]
 ·have:j=m:=by omega
  subst this
  have rO:out=FT S j:=CR (by rw [h2];simp [FT]) λk hk=>by
   rw [h3 k (by omega),Uj (by omega)]
   by_cases hs:S k=true
   ·rw [if_pos ⟨by omega,hs⟩,if_pos hs]
   ·rw [if_neg λh=>hs h.2,if_neg hs]
  subst rO
  rw [Bh]
  show Bt _ (MP S j,FT S j,PUnit.unit)
  refine Bt.mk (λv=> ∃(q out:List Int) (f T:Nat),v=(q,out,())/\DQ (Ft e'.1) S j out q/\q.length+a7 out<f/\BP (Ft e'.1) f out q=kZ (Ft e'.1) S j/\T+(q.length+a7 out)<=j/\ ∀i,i<j->out.getD i 0<=T) (λv=>v.1.length+a7 v.2.1)
   ⟨MP S j,FT S j,j+1,0,rfl,ux _ _ _,by rw [JB];omega,rfl,by rw [JB];omega,λi hi=>by rw [Uj hi];split<;>omega⟩ ?_
  rintro v ⟨q,out,f,T,rfl,g1,g2,g3,g4,g5⟩
  dsimp only
  have hol:=g1.base.len
  refine Br.dec (λhl=>?_) λhl=>?_
  ·obtain ⟨x,q',rfl⟩: ∃x q',q=x::q':=by
    cases q with
    |nil=>simp at hl
    |cons x q'=>exact ⟨x,q',rfl⟩
   obtain ⟨x1,x2,x3⟩:=g1.base.inq x (by simp)
   obtain ⟨xn,rfl⟩:=Int.eq_ofNat_of_zero_le x1
   have AK:xn<j:=by omega
   rw [Int.toNat_natCast] at x3
   obtain ⟨f,rfl⟩: ∃f',f=f'+1:=⟨f-1,by omega⟩
   simp only [BP,Int.toNat_natCast] at g3
   simp only [List.length_cons] at g2 g4
   refine ⟨e',rfl,⟨by omega,by omega⟩,(xn:Int),by simp,Ft e'.1 xn,HD hx (by omega),rfl,rfl,rfl,rfl,?_⟩
   rw [Bh]
   obtain ⟨o1,o2⟩:=List.pairwise_cons.1 g1.base.ord
   simp only [Int.toNat_natCast] at o1
   have hX0:DX (Ft e'.1) S j xn (out.getD xn 0) out q':=by
    refine ⟨⟨g1.base.len,g1.base.ge,λy hy=>g1.base.inq y (List.mem_cons_of_mem _ hy),g1.base.src,g1.base.OZ,g1.base.par,λi hi h0 hn hw=>g1.base.done i hi h0 (λhm=>?_) (λh=>h),o2⟩,AK,rfl,x3,o1,?_⟩
    ·rcases List.mem_cons.1 hm with e|hm
     ·exact hw (by omega)
     ·exact hn hm
    ·have:=g1.hi (xn:Int) q' rfl
     rwa [Int.toNat_natCast] at this
   have hnl:(Ft e'.1 xn).length<=16:=by rw [mR];exact hlf
   obtain ⟨d,hd⟩: ∃d,out.getD xn 0=d:=⟨_,rfl⟩
   rw [hd] at hX0
   have hdT:d<=T:=by rw [<-hd];exact g5 xn AK
   refine As (Ft e'.1 xn).length (λv=>v.1) (λk v=> ∃(qq o:List Int),v=((k:Int),(xn:Int)::qq,o,())/\DX (Ft e'.1) S j xn d o qq/\qq.length+a7 o=q'.length+a7 out/\
     Te (xn:Int) ((Ft e'.1 xn).drop k) (o,qq)=Te (xn:Int) (Ft e'.1 xn) (out,q')) rfl ⟨q',out,rfl,hX0,rfl,by rw [List.drop_zero]⟩ ?_
   rintro k v K2 hk hki ⟨qq,o,rfl,hX,hc,Qg⟩ hK2
   dsimp only
   have hXb:=hX.base.len
   refine Br.dec (λIx=>?_) λIx=>?_
   ·have Ix:k<(Ft e'.1 xn).length:=by omega
    have XE:=hR xn AK _ (List.getElem_mem Ix)
    obtain ⟨tn,UB⟩:=Int.eq_ofNat_of_zero_le XE.1
    have htj:tn<j:=by omega
    rw [List.drop_eq_getElem_cons Ix] at Qg
    simp only [Te] at Qg
    have WY:o.getD ((xn:Nat):Int).toNat 0=d:=by rw [Int.toNat_natCast];exact hX.Si
    refine ⟨_,Av Ix,?_⟩
    rw [UB] at Qg⊢
    rw [Int.toNat_natCast] at Qg
    refine ⟨⟨by omega,by omega⟩,o.getD tn 0,XT (by omega),Br.dec (λkU=>?_) λkU=>?_⟩
    ·rw [if_pos kU,WY] at Qg
     have AH:=zJ hR hX (List.getElem_mem Ix) XE (by rw [UB,Int.toNat_natCast];exact kU)
     rw [UB,Int.toNat_natCast] at AH
     have WV:=vO (xs:=o) (i:=tn) (v:=d+1) (by omega) kU (by have:=hX.d0;omega)
     have YK:=hX.d0
     refine ⟨⟨by omega,by simp only [List.length_cons];omega⟩,(xn:Int),by simp,⟨by omega,by omega⟩,d,by rw [XT (by omega),<-hX.Si],⟨by omega,by omega⟩,by rw [Int.toNat_natCast];omega,rfl,rfl,?_,rfl,by rw [List.length_set],rfl,rfl,?_⟩
     ·show qq.length+1+1<=4294967296
      omega
     ·rw [Bh,Ar (by omega),Int.toNat_natCast,Nat.zero_add,Bw (n:=d+1) (by omega) (by omega)]
      refine hK2 Ix _ rfl ⟨qq++ [(tn:Int)],o.set tn (d+1),rfl,AH,?_,Qg⟩
      rw [List.length_append,List.length_singleton]
      omega
    ·rw [if_neg kU] at Qg
     refine ⟨rfl,rfl,rfl,rfl,?_⟩
     rw [Bh,Ar (by omega)]
     exact hK2 Ix _ rfl ⟨qq,o,rfl,hX,hc,Qg⟩
   ·have Ix:k=(Ft e'.1 xn).length:=by omega
    subst Ix
    rw [List.drop_length,Te] at Qg
    rw [<-Qg] at g3
    have ZI:=(GY hR g1).1
    rw [Int.toNat_natCast,<-Qg] at ZI
    have ht:List.take ((((xn:Int)::qq).length:Int).toNat-Int.toNat (1:Int)) (List.drop (0+Int.toNat (1:Int)) ((xn:Int)::qq))=qq:=by
     rw [Int.toNat_natCast,List.length_cons]
     show List.take (qq.length+1-1) qq=qq
     rw [Nat.add_sub_cancel,List.take_length]
    rw [ht]
    refine ⟨⟨by omega,by simp only [List.length_cons];omega,by omega⟩,rfl,rfl,rfl,rfl,⟨qq,o,f,T+1,rfl,ZI,by omega,g3,by omega,λi hi=>?_⟩,?_⟩
    ·have:=hX.hi i hi
     push_cast
     omega
    ·show qq.length+a7 o<((xn:Int)::q').length+a7 out
     simp only [List.length_cons]
     omega
  ·have:q= []:=by
    cases q with
    |nil=>rfl
    |cons x q'=>simp at hl
   subst this
   rw [Bh]
   cases f with
   |zero=>exact g3
   |succ f=>exact g3
theorem sT:Sound Try.prog 71 Vd:=
 Sound.Di (VL [Ho+6]) (Hg sX (Ah kC (Ah EJ Ao))) mixed Try.func71 (by kernel_rfl) (by kernel_rfl) λx h=>JI x.1 x.2.1 h
theorem yA (e:Option XP) (goal:List Int) (h:BF goal e):fnW Cy (look [(71,Vd)]) Nm Try.f68 (e,goal,()) (λ(z:List Int)=>z=ck e λi=>Mv goal e (i:Int)):=by
 obtain ⟨e',rfl,h1,h2⟩:=h
 exact Eq.mp (zo _ _ _) ⟨_,if_pos ⟨⟨e',rfl,h1⟩,rfl,e',rfl,h1,h2⟩,rfl⟩
theorem nB:Sound Try.prog 68 Nm:=
 Sound.Di Bx (Ah sT Ao) mixed Try.func68 (by kernel_rfl) (by kernel_rfl) λx h=>yA x.1 x.2.1 h
theorem Aao (y:Int) (d:List Int) (i:Int) (h:(0<=y/\y<(List.length d:Int))/\0<=i/\i<(List.length d:Int)):fnW Cy (look []) qz Try.f119 (y,d,i,()) (λ(z:Bool)=>z=decide (Ca d y<Ca d i)):=
 Eq.mp (Abc y d i _) ⟨_,Ur h.1.1 h.1.2,_,Ur h.2.1 h.2.2,rfl⟩
theorem EG:Sound Try.prog 119 qz:=
 Sound.Di Bx Ao mixed Try.func119 (by kernel_rfl) (by kernel_rfl) λx h=>Aao x.1 x.2.1 x.2.2.1 h
theorem UU (xs:List Int) (c:List Int×Int×Unit) (h:short xs/\Gs (List.length c.1) xs/\0<=c.2.1/\c.2.1<(List.length c.1:Int)):fnW Cy (look [(119,qz)]) jv Try.f118 (xs,c,()) (λ(z:Int)=>z=Ck (λy=>decide (Ca c.1 y<Ca c.1 c.2.1)) xs 0):=by
 obtain ⟨h,h5,h6⟩:=h
 unfold short at h
 refine Eq.mp (VU xs c _) ?_
 refine As xs.length (λv=>v.1) (λj _=>Ck (λy=>decide (Ca c.1 y<Ca c.1 c.2.1)) (xs.drop j) j=Ck (λy=>decide (Ca c.1 y<Ca c.1 c.2.1)) xs 0) rfl (by simp) ?_
 rintro j ⟨i,⟨⟩⟩ K hj hi hR hK
 dsimp only at hi⊢
 subst hi
 refine Br.dec (λhl=>?_) λhl=>?_
 ·have hl:j<xs.length:=by omega
  rw [List.drop_eq_getElem_cons hl] at hR
  simp only [Ck] at hR
  refine ⟨_,Av hl,_,if_pos ⟨h5 _ (List.getElem_mem hl),h6⟩,⟨λhe=>?_,λhe=>?_⟩⟩
  ·have he:decide (Ca c.1 xs[j]<Ca c.1 c.2.1)=true:=he
   rw [if_pos he] at hR
   exact hR
  ·have he:decide (Ca c.1 xs[j]<Ca c.1 c.2.1)=false:=he
   rw [if_neg (by rw [he];decide)] at hR
   rw [Ar (by omega)]
   exact hK hl _ rfl (by push_cast;exact hR)
 ·have:j=xs.length:=by omega
  subst this
  rw [List.drop_length] at hR
  exact hR
theorem z7:Sound Try.prog 118 jv:=
 Sound.Di Bx (Ah EG Ao) mixed Try.func118 (by kernel_rfl) (by kernel_rfl) λx h=>UU x.1 x.2.1 h
theorem j6 {α:Type} {P:α->Bool} : ∀(l:List α) (i:Nat),l.any P=true-> ∃k,∃h:k<l.length,Ck P l (i:Int)=((i+k:Nat):Int)/\P l[k]=true/\ ∀j (h:j<k),P (l[j]'(by omega))=false
 | [],i,h=>by simp at h
 |y::r,i,h=>by
  simp only [Ck]
  by_cases hy:P y=true
  ·rw [if_pos hy]
   exact ⟨0,by simp,rfl,hy,λj hj=>absurd hj (Nat.not_lt_zero _)⟩
  ·rw [if_neg hy]
   have hr:r.any P=true:=by
    rw [List.any_cons,Bool.or_eq_true] at h
    exact h.resolve_left hy
   obtain ⟨k,hk,h1,h2,h3⟩:=j6 r (i+1) hr
   refine ⟨k+1,by simpa using hk,?_,h2,λj hj=>?_⟩
   ·rw [show ((i:Int)+1)=((i+1:Nat):Int) by push_cast;rfl,h1]
    congr 1
    omega
   ·cases j with
    |zero=>exact Bool.not_eq_true _|>.mp hy
    |succ j=>exact h3 j (by omega)
theorem MO {p:PP} (hw:Bq p=true) {d:List Int} (h:BE p d) {i:Nat} (hi:i<d.length) (hp:0<d.getD i 0):
  ∃k,∃(h1:k<(Ag p.2.2.1.length).length) (h2:k<(Ft p i).length),Ck (λy=>decide (Ca d y<Ca d (i:Int))) (Ft p i) 0=(k:Int)/\
   ∃t:Nat,(Ft p i)[k]=(t:Int)/\t<d.length/\d.getD t 0<d.getD i 0:=by
 obtain ⟨t,ht,ZW⟩:=h.dn i hi hp
 have SP:(Ft p i).any (λy=>decide (Ca d y<Ca d (i:Int)))=true:=List.any_eq_true.2 ⟨t,ht,decide_eq_true ZW⟩
 obtain ⟨k,hk,h1,h2,_⟩:=j6 (Ft p i) 0 SP
 have hl:=h.len
 obtain ⟨r1,r2⟩:=gS hw i (by omega) _ (List.getElem_mem hk)
 obtain ⟨tn,UB⟩:=Int.eq_ofNat_of_zero_le r1
 refine ⟨k,by rw [<-mR];exact hk,hk,by rw [Nat.zero_add] at h1;exact h1,tn,UB,by omega,?_⟩
 have h2:=of_decide_eq_true h2
 unfold Ca at h2
 rw [UB,Int.toNat_natCast,Int.toNat_natCast] at h2
 exact h2
theorem DD (e:Option XP) (d:List Int) (i:Int) (h: ∃e':XP,e=some e'/\qR e'/\BE e'.1 d/\0<=i/\i<(List.length d:Int)):
  fnMW Xi (look [(117,Hz),(118,jv)]) Qt Try.f67 (e,d,i,()) (λ(z:(List Int×Int×Bool×Unit)×Unit)=>z=sf e d i):=by
 obtain ⟨e',rfl,hx,hd,h1,h2⟩:=h
 have hwv:=Cl hx.1
 have hV:=valid hwv.1
 have hf:=hV.o3
 have hdl:=hd.len
 refine Eq.mp (FD _ _ _ _) ⟨_,Ur h1 h2,?_⟩
 show Br _ (_=(Qm e'.1 d i,())) _
 unfold sf Qm
 dsimp only
 refine Br.dec (λhb=>by rw [if_pos hb];rfl) λhb=>?_
 rw [if_neg hb]
 refine ⟨e',rfl,Ag e'.1.2.2.1.length,(if_pos ⟨by show (0:Int)<=((e'.1.2.2.1.length:Nat):Int);omega,by show ((e'.1.2.2.1.length:Nat):Int)<=8;omega⟩).trans (congrArg some (by show Ag (((e'.1.2.2.1.length:Nat):Int)).toNat=_;rw [Int.toNat_natCast])),rfl,rfl,?_⟩
 have hnn: ∀k:Nat,k<d.length->0<=Ca d (k:Int):= λk hk=>by unfold Ca;rw [Int.toNat_natCast];exact hd.nn k hk
 obtain ⟨R,hRR⟩: ∃R,Xp (Ft e'.1) (Ag e'.1.2.2.1.length) d (Ca d i).toNat i []=R:=⟨_,rfl⟩
 rw [hRR]
 obtain ⟨i0,rfl⟩:=Int.eq_ofNat_of_zero_le h1
 refine Bt.mk (λv=> ∃(k:Nat) (w:List Int) (f:Nat),v=(d,(k:Int),w,())/\k<d.length/\Ca d (k:Int)<=f/\w.length+f<=200/\Xp (Ft e'.1) (Ag e'.1.2.2.1.length) d f (k:Int) w=R) (λv=>(Ca d v.2.1).toNat)
  ⟨i0,[],(Ca d (i0:Int)).toNat,rfl,by omega,by omega,by have:=hnn i0 (by omega);simp only [List.length_nil];omega,hRR⟩ ?_
 rintro v ⟨k,w,f,rfl,k1,k2,k3,k4⟩
 dsimp only
 refine ⟨Ca d (k:Int),Ur (by omega) (by omega),Br.dec (λhl=>?_) λhl=>?_⟩
 ·have Ha:0<d.getD k 0:=by unfold Ca at hl;rwa [Int.toNat_natCast] at hl
  obtain ⟨f,rfl⟩: ∃f',f=f'+1:=⟨f-1,by omega⟩
  obtain ⟨n,n1,n2,n3,t,n4,n5,n6⟩:=MO hx.1 hd k1 Ha
  simp only [Xp] at k4
  rw [if_pos hl,Int.toNat_natCast,n3,Int.toNat_natCast,Cv n2,n4,Cv n1] at k4
  have hnl:(Ft e'.1 k).length<=16:=by rw [mR];exact cd hV
  have Aep:Gs d.length (Ft e'.1 k):= λy hy=>by
   have:=gS hx.1 k (by omega) y hy
   omega
  refine ⟨e',rfl,Ft e'.1 k,HD hx (by omega),(n:Int),(if_pos ⟨by show (Ft e'.1 k).length<=4294967296;omega,Aep,by show (0:Int)<=(k:Int);omega,by show (k:Int)<(d.length:Int);omega⟩).trans (congrArg some n3),_,Av n1,rfl,rfl,?_,e',rfl,Ft e'.1 k,HD hx (by omega),(t:Int),by rw [Av n2,n4],rfl,rfl,?_⟩
  ·show w.length+1<=4294967296;omega
  ·have e6:Ca d (t:Int)<Ca d (k:Int):=by unfold Ca;rw [Int.toNat_natCast,Int.toNat_natCast];exact n6
   have h0:=hnn t n5
   refine ⟨⟨t,w++ [(Ag e'.1.2.2.1.length)[n]],f,rfl,n5,by omega,by rw [List.length_append,List.length_singleton];omega,k4⟩,?_⟩
   show (Ca d (t:Int)).toNat<(Ca d (k:Int)).toNat
   omega
 ·rw [Bh]
  have:Xp (Ft e'.1) (Ag e'.1.2.2.1.length) d f (k:Int) w=(w,(k:Int)):=by
   cases f with
   |zero=>rfl
   |succ f=>simp only [Xp];rw [if_neg (by omega)]
  rw [this] at k4
  subst k4
  rfl
theorem oY:Cd Try.prog 67 Qt:=
 Cd.jf Vg (Ah Xf (Ah z7 Ao)) mixed Try.func67 (by kernel_rfl) (by kernel_rfl) λx h=>DD x.1 x.2.1 x.2.2.1 h
end Go.Proofs.Ytjbdmibbbpdnnaa

namespace Go.Proofs.Ytjbdmibbbpdnnaa
open Go.RowKit
theorem Lj {s q t:List Int} (h:Gs s.length t):Cf (Aa s q) t=Aa (Cf s t) q:=by
 unfold Cf Aa
 rw [List.map_map]
 refine List.map_congr_left λy hy=>?_
 obtain ⟨h1,h2⟩:=h y hy
 have hy':y.toNat<s.length:=by omega
 show Ca (s.map (Ca q)) y=Ca q (Ca s y)
 unfold Ca
 rw [Cv (by rw [List.length_map];exact hy'),List.getElem_map,Cv hy']
 try rfl
theorem jn {n:Nat} {t:List Int} (h: ∀y∈t,0<=y/\y<(n:Int)):Cf (upto n) t=t:=by
 unfold Cf
 refine (List.map_congr_left λy hy=>?_).trans (List.map_id t)
 obtain ⟨h1,h2⟩:=h y hy
 obtain ⟨k,rfl⟩:=Int.eq_ofNat_of_zero_le h1
 have hk:k<n:=by omega
 show Ca (upto n) (k:Int)=(k:Int)
 unfold Ca
 rw [Int.toNat_natCast,List.getD_eq_getElem?_getD,nV hk]
 rfl
theorem sat_iff {goal s:List Int} :Wb goal s=true↔Cf s goal=goal:=by
 unfold Wb Cf
 rw [List.all_eq_true]
 constructor
 ·intro h
  exact (List.map_congr_left λy hy=>of_decide_eq_true (h y hy)).trans (List.map_id goal)
 ·intro h y hy
  obtain ⟨j,hj,rfl⟩:=List.mem_iff_getElem.1 hy
  have h2:(goal.map (Ca s))[j]?=goal[j]?:=congrArg (λz:List Int=>z[j]?) h
  rw [List.getElem?_map,List.getElem?_eq_getElem hj] at h2
  exact decide_eq_true (Option.some.inj h2)
theorem bR {p:PP} (hv:Bd p=true):(Ad p).getD 0 []=upto p.1.toNat/\upto p.1.toNat∈Ad p:=by
 obtain ⟨A,h⟩:=(Ym hv).first
 have h:Ad p=upto p.1.toNat::A:=h
 rw [h]
 exact ⟨rfl,by simp⟩
noncomputable def Wy (p:PP) (t:List Int):List (List Int):=(Dl p.2.2.1 t).1
noncomputable def sj (p:PP) (t:List Int):List Int:=(Dl p.2.2.1 t).2.1
noncomputable def Eb (p:PP) (t x:List Int):Int:=ki (Wy p t) (sj p t) x
theorem cU {p:PP} {t:List Int} (ht:Cm p t=true): ∀y∈t,0<=y/\y<((p.1.toNat:Nat):Int):= λy hy=>by
 have h1:=(Fg ht).2 y hy
 have:=(valid (Ik.1 ht).1).n
 omega
theorem DR {p:PP} {t:List Int} (hw:Bq p=true) (ht:Cm p t=true):(Dl p.2.2.1 t).2.2=true:=by
 have hv:=(Cl hw).1
 have hV:=valid hv
 obtain ⟨t1,t2⟩:=Fg ht
 have Yc:=nc ht
 obtain ⟨a1,_,a3⟩:=zE hv t1 t2 (λx=> ∃s∈Ad p,x=Cf s t) ⟨_,(bR hv).2,(jn (cU ht)).symm⟩ λx ⟨s,hs,hx⟩ l hl=>by
  refine ⟨_,(Oe hw).next s hs l hl,?_⟩
  rw [hx,Lj (dx hv hs ht)]
 refine Classical.byContradiction λhn=>?_
 obtain ⟨h1,z,⟨s,hs,hz⟩,h3⟩:=a3 (by simpa using hn)
 have h5:=cr (l1:=z::(Dl p.2.2.1 t).1) (l2:=(Ad p).map λs=>Cf s t) (List.nodup_cons.2 ⟨h3,Yc.ok.nodup⟩) λx hx=>by
  rcases List.mem_cons.1 hx with rfl|hx
  ·exact List.mem_map.2 ⟨s,hs,hz.symm⟩
  ·obtain ⟨s',pT,e⟩:=a1 x hx
   exact List.mem_map.2 ⟨s',pT,e.symm⟩
 have h6:=nL hv
 simp only [List.length_cons,List.length_map] at h5
 omega
theorem Jb.congr {g:List (List Int)} {ls:List Int} {L:List (List Int)} {S S':List Int->Prop} {d:List Int->Int} (h:Jb g ls L S d) (e: ∀x∈L,S x↔S' x):Jb g ls L S' d:=
 ⟨h.nn,λx hx=>(h.zero x hx).trans (e x hx),h.step,h.down⟩
theorem ab {p:PP} {t:List Int} (hw:Bq p=true) (ht:Cm p t=true):iD p.2.2.1 (Ag p.2.2.1.length) (Wy p t) (sj p t):=
 eV (Cl hw).1 (Fg ht).1 (Fg ht).2 (DR hw ht)
theorem qj {p:PP} {t:List Int} (ht:Cm p t=true):(Wy p t).getD 0 []=t/\t∈Wy p t:=by
 obtain ⟨_,A,h⟩:=r9 (Ik.1 ht).1 (Fg ht).1 (Fg ht).2
 have h:Wy p t=t::A:=h
 rw [h]
 exact ⟨rfl,by simp⟩
theorem sB {p:PP} {t:List Int} (hw:Bq p=true) (ht:Cm p t=true): ∀s∈Ad p,Cf s t∈Wy p t:=by
 have hv:=(Cl hw).1
 have hc:=Ww (valid hv) (nc ht) (ab hw ht)
 refine ik hw (λs=>Cf s t∈Wy p t) (λx hx hq l hl=>?_) (bR hv).2 ?_
 ·rw [Lj (dx hv hx ht)]
  exact hc.next _ hq l hl
 ·rw [jn (cU ht)]
  exact (qj ht).2
theorem JR {p:PP} {t:List Int} (hw:Bq p=true) (ht:Cm p t=true):
  Jb p.2.2.1 (Ag p.2.2.1.length) (Ad p) (λs=>Wb t s=true) (λs=>Eb p t (Cf s t)):=by
 have hv:=(Cl hw).1
 have hd:=cf (valid hv) (nc ht) (ab hw ht)
 have Qg:=sB hw ht
 refine ⟨λx hx=>hd.nn _ (Qg x hx),λx hx=>(hd.zero _ (Qg x hx)).trans ?_,λx hx l hl=>?_,λx hx h0=>?_⟩
 ·rw [show (Dl p.2.2.1 t).1.getD 0 []=t from (qj ht).1]
  exact sat_iff.symm
 ·rw [Lj (dx hv hx ht)]
  exact hd.step _ (Qg x hx) l hl
 ·obtain ⟨l,hl,h1⟩:=hd.down _ (Qg x hx) h0
  refine ⟨l,hl,?_⟩
  rw [Lj (dx hv hx ht)]
  exact h1
noncomputable def jb (p:PP) (goal:List Int):List Int:=kZ (Ft p) (λi=>Wb goal ((Ad p).getD i [])) (Ad p).length
theorem XR {p:PP} (hw:Bq p=true) (goal:List Int):ck (some (Ji p)) (λi=>Mv goal (some (Ji p)) (i:Int))=jb p goal:=by
 show kZ (Ft p) (λi=>Wb goal ((Ad p).getD ((i:Nat):Int).toNat [])) (Ad p).length=_
 rfl
theorem UH {p:PP} {t:List Int} (ht:Cm p t=true):Wb t (upto p.1.toNat)=true:=sat_iff.2 (jn (cU ht))
theorem rE {p:PP} {t:List Int} (hw:Bq p=true) (ht:Cm p t=true):
  Jb p.2.2.1 (Ag p.2.2.1.length) (Ad p) (λs=>Wb t s=true) (λx=>(jb p t).getD ((Ad p).idxOf x) 0):=by
 have hv:=(Cl hw).1
 have mA:=KH hv
 refine (MR hw (λi=>Wb t ((Ad p).getD i [])) (i0:=0) (by omega) (by rw [(bR hv).1];exact UH ht)).congr λx hx=>?_
 have h1:=List.idxOf_lt_length_of_mem hx
 rw [Cv h1,List.getElem_idxOf h1]
theorem QI {p:PP} {t:List Int} (hw:Bq p=true) (ht:Cm p t=true) {x:List Int} (hx:x∈Ad p):(jb p t).getD ((Ad p).idxOf x) 0=Eb p t (Cf x t):=
 (rE hw ht).eq (Oe hw) (JR hw ht) hx
theorem MM {p:PP} (hw:Bq p=true) {S:List Int->Prop} {d:List Int} (hl:d.length=(Ad p).length) (h:Jb p.2.2.1 (Ag p.2.2.1.length) (Ad p) S (λx=>d.getD ((Ad p).idxOf x) 0)):BE p d:=by
 have ow:=(KF hw).nodup
 refine ⟨hl,λi hi=>?_,λi hi h0=>?_⟩
 ·have:=h.nn _ (Kc (show i<(Ad p).length by omega))
  rwa [Jv ow (by omega)] at this
 ·have fk:i<(Ad p).length:=by omega
  obtain ⟨l,h1,h2⟩:=h.down _ (Kc fk) (by rw [Jv ow fk];exact h0)
  rw [Jv ow fk] at h2
  refine ⟨_,List.mem_map.2 ⟨l,h1,rfl⟩,?_⟩
  rw [Int.toNat_natCast,h2]
  omega
theorem HE {p:PP} (hw:Bq p=true) (t:List Int):(jb p t).length=(Ad p).length:=(QD (gS hw)).len
theorem QH {p:PP} {t:List Int} (hw:Bq p=true) (ht:Cm p t=true):BE p (jb p t):=MM hw (HE hw t) (rE hw ht)
def sZ (g:List (List Int)) (dep:List Int->Int) (ls:List Int):Nat->List Int->List Int->List Int×List Int
 |0,x,w=>(w,x)
 |n+1,x,w=>match ls.find? (λl=>decide (dep (Aa x (Af g l))=n)) with
  |some l=>sZ g dep ls n (Aa x (Af g l)) (w++ [l])
  |none=>sZ g dep ls n x w
theorem zM {α:Type} {P:α->Bool} : ∀(l:List α) (k:Nat) (h:k<l.length),P l[k]=true->(∀j (hj:j<k),P (l[j]'(by omega))=false)->l.find? P=some l[k]
 | [],k,h,_,_=>by simp at h
 |y::r,0,_,h1,_=>by rw [List.find?_cons_of_pos (show P y=true from h1)];rfl
 |y::r,k+1,h,h1,h2=>by
  rw [List.find?_cons_of_neg (by have:=h2 0 (by omega);simp at this;simp [this])]
  exact zM r k (by simpa using h) h1 λj hj=>h2 (j+1) (by omega)
theorem GZ {p:PP} (hw:Bq p=true) {S:List Int->Prop} {d:List Int} (SX:BE p d) (hd:Jb p.2.2.1 (Ag p.2.2.1.length) (Ad p) S (λx=>d.getD ((Ad p).idxOf x) 0))
  {see:List Int->List Int} {dep:List Int->Int} (hs: ∀x∈Ad p,∀l∈Ag p.2.2.1.length,see (Aa x (Af p.2.2.1 l))=Aa (see x) (Af p.2.2.1 l))
  (he: ∀x∈Ad p,d.getD ((Ad p).idxOf x) 0=dep (see x)):
  ∀(n i:Nat) (w:List Int),i<(Ad p).length->d.getD i 0=n->
   (Xp (Ft p) (Ag p.2.2.1.length) d n (i:Int) w).1=(sZ p.2.2.1 dep (Ag p.2.2.1.length) n (see ((Ad p).getD i [])) w).1/\
   (Xp (Ft p) (Ag p.2.2.1.length) d n (i:Int) w).1.length=w.length+n/\
   ∃j:Nat,(Xp (Ft p) (Ag p.2.2.1.length) d n (i:Int) w).2=(j:Int)/\j<(Ad p).length/\d.getD j 0=0/\see ((Ad p).getD j [])=(sZ p.2.2.1 dep (Ag p.2.2.1.length) n (see ((Ad p).getD i [])) w).2
 |0,i,w,hi,e=>⟨rfl,rfl,i,rfl,hi,e,rfl⟩
 |n+1,i,w,hi,e=>by
  have ow:=(KF hw).nodup
  have hl:=SX.len
  have mA:0<d.getD i 0:=by omega
  have hg:Ca d (i:Int)=d.getD i 0:=by unfold Ca;rw [Int.toNat_natCast]
  obtain ⟨t0,NU,ZW⟩:=SX.dn i (by omega) mA
  have SP:(Ft p i).any (λy=>decide (Ca d y<Ca d (i:Int)))=true:=List.any_eq_true.2 ⟨t0,NU,decide_eq_true ZW⟩
  obtain ⟨k,hk,k1,k2,k3⟩:=j6 (Ft p i) 0 SP
  have k1:Ck (λy=>decide (Ca d y<Ca d (i:Int))) (Ft p i) 0=(k:Int):=by rw [Nat.zero_add] at k1;exact k1
  have Ix:k<(Ag p.2.2.1.length).length:=by rw [<-mR p i];exact hk
  have hx:=Kc (L:=Ad p) hi
  have WJ: ∀j (hj:j<(Ag p.2.2.1.length).length),∃h2:j<(Ft p i).length,(Ft p i)[j]=(((Ad p).idxOf (Aa ((Ad p).getD i []) (Af p.2.2.1 (Ag p.2.2.1.length)[j])):Nat):Int):= λj hj=>
   ⟨by rw [mR];exact hj,by simp only [Ft,qb,List.getElem_map]⟩
  have kX: ∀j (hj:j<(Ag p.2.2.1.length).length) (h2:j<(Ft p i).length),decide (Ca d (Ft p i)[j]<Ca d (i:Int))=decide (dep (Aa (see ((Ad p).getD i [])) (Af p.2.2.1 (Ag p.2.2.1.length)[j]))=n):= λj hj h2=>by
   obtain ⟨_,h3⟩:=WJ j hj
   have xS:=List.getElem_mem hj
   have h4:=hd.CV (Oe hw) hx xS
   rw [Jv ow hi] at h4
   have h5:=he _ ((Oe hw).next _ hx _ xS)
   rw [hs _ hx _ xS] at h5
   rw [h3,hg,<-h5]
   unfold Ca
   rw [Int.toNat_natCast,Bool.eq_iff_iff,decide_eq_true_iff,decide_eq_true_iff]
   omega
  have zW:(Ag p.2.2.1.length).find? (λl=>decide (dep (Aa (see ((Ad p).getD i [])) (Af p.2.2.1 l))=n))=some (Ag p.2.2.1.length)[k]:=by
   refine zM _ k Ix ?_ λj hj=>?_
   ·rw [<-kX k Ix hk];exact k2
   ·rw [<-kX j (by omega) (by omega)];exact k3 j hj
  obtain ⟨_,hkn⟩:=WJ k Ix
  have xS:=List.getElem_mem Ix
  obtain ⟨n1,n2⟩:=yr hw hi xS
  have fj:Ca d (i:Int)>0:=by rw [hg];exact mA
  simp only [Xp,sZ]
  rw [if_pos fj,Int.toNat_natCast,k1,Int.toNat_natCast,Cv hk,hkn,Cv Ix,zW]
  dsimp only
  have hdk:d.getD ((Ad p).idxOf (Aa ((Ad p).getD i []) (Af p.2.2.1 (Ag p.2.2.1.length)[k]))) 0=n:=by
   have h6:=of_decide_eq_true ((kX k Ix hk).symm.trans k2)
   rw [he _ ((Oe hw).next _ hx _ xS),hs _ hx _ xS]
   exact h6
  obtain ⟨r1,r2,r3⟩:=GZ hw SX hd hs he n _ (w++ [(Ag p.2.2.1.length)[k]]) n1 hdk
  rw [n2,hs _ hx _ xS] at r1 r3
  refine ⟨r1,?_,r3⟩
  rw [r2,List.length_append,List.length_singleton]
  omega
end Go.Proofs.Ytjbdmibbbpdnnaa

namespace Go.Proofs.Ytjbdmibbbpdnnaa
open Go.RowKit
noncomputable abbrev Ny:Spec:=Di (.pair Wj (.pair tL .unit)) tI false true (λx=>Ct (List.length x.2.1) x.1.1 x.1.2.2.1/\List.length x.1.2.1=List.length x.1.1) (λx=>ki x.1.1 x.1.2.1 x.2.1)
noncomputable def Ke (p:PP) (goal s:List Int):List Int:=(sZ p.2.2.1 (Eb p goal) (Ag p.2.2.1.length) (Eb p goal (Cf s goal)).toNat (Cf s goal) []).1
noncomputable abbrev Ys:Spec:=Di (.pair Dn (.pair tL (.pair tL .unit))) tL false true (λx=>Dt x.1/\Cm x.1 x.2.1=true/\Bq x.1=true/\x.2.2.1∈Ad x.1) (λx=>Ke x.1 x.2.1 x.2.2.1)
def km (w:List Int):List Int×Bool×Unit:=if w.length>200 then ([],false,()) else (w,true,())
noncomputable abbrev qB:Spec:=Di (.pair tL .unit) (.pair tL (.pair .bool .unit)) true false (λx=>short x.1) (λx=>km x.1)
noncomputable def Lr (p:PP) (goal s:List Int):List Int×Bool×Unit:=if (Ri p s&&Gd p.1 goal)=true then km (Ke p goal s) else ([],false,())
noncomputable abbrev Oc:Spec:=Di (.pair Dn (.pair tL (.pair tL .unit))) (.pair tL (.pair .bool .unit)) true false (λx=>Dt x.1/\short x.2.1/\short x.2.2.1) (λx=>Lr x.1 x.2.1 x.2.2.1)
noncomputable abbrev Lk:MSpec:=jf [some 3,none,none] [(false, .Fc tI),(false, .Fc .str),(false, .Fc iB),(false, .Fc tL),(false, .Fc tL)] true [none,none] [rL, .Fc .bool]
 (λx=>Dt (x.1,x.2.1,x.2.2.1,())/\short x.2.2.2.1/\short x.2.2.2.2.1) (λx=>(((Lr (x.1,x.2.1,x.2.2.1,()) x.2.2.2.1 x.2.2.2.2.1).1,(Lr (x.1,x.2.1,x.2.2.1,()) x.2.2.2.1 x.2.2.2.2.1).2.1,()),()))
theorem FC (f:List (List Int)×List Int×List Int×Bool×Unit) (s:List Int) (P:Int->Prop):(∃(y3:Int),Kg.fn ((f.1,f.2.1,f.2.2.1,f.2.2.2.1,()),s,())=some y3/\Br (decide (y3<(0:Int))) (P (-1:Int)) (∃(y4:Int),idx f.2.1 y3=some y4/\P y4))=fnW Cy (look [(54,Kg)]) Ny Try.f114 (f,s,()) P:=by kernel_rfl
abbrev dE:Type:=List Int×Int×Int×ByteArray×List (List Int)×List (List Int)×List Int×List Int×Bool×List Int×PUnit
theorem LM (p:Int×ByteArray×List (List Int)×Unit) (goal s:List Int) (P:List Int->Prop):(∃(y4:List (List Int)×List Int×List Int×Bool×PUnit),Da.fn ((p.1,p.2.1,p.2.2.1,()),goal,())=some y4/\ ∃(y5:List Int),Ij.fn ((p.1,p.2.1,p.2.2.1,()),())=some y5/\ ∃(y6:List Int),Tz.fn (goal,s,())=some y6/\ ∃(y7:Int),Ny.fn ((y4.1,y4.2.1,y4.2.2.1,y4.2.2.2.1,()),y6,())=some y7/\0=0/\0=([]:List Int).length/\Bt (λ(v8:dE) (k9:dE->Prop)=>Br (decide (v8.2.1>(0:Int))) (0=0/\v8.2.2.2.2.2.2.2.2.2.1.length=v8.2.2.2.2.2.2.2.2.2.1.length/\Bt (λ(v10:dE) (k11:dE->Prop)=>Br (decide (v10.2.1<(↑y5.length:Int))) (∃(iw:Int),idx y5 v10.2.1=some iw/\ ∃(iy:List Int),Pe.fn ((v10.2.2.1,v10.2.2.2.1,v10.2.2.2.2.1,()),v10.1,iw,())=some iy/\ ∃(Yy:Int),Ny.fn ((v10.2.2.2.2.2.1,v10.2.2.2.2.2.2.1,v10.2.2.2.2.2.2.2.1,v10.2.2.2.2.2.2.2.2.1,()),iy,())=some Yy/\Br (Yy==IntKind.i64.wrap (v8.2.1-(1:Int))) (∃(dc:Int),idx y5 v10.2.1=some dc/\0=0/\v10.2.2.2.2.2.2.2.2.2.1.length=v10.2.2.2.2.2.2.2.2.2.1.length/\v10.2.2.2.2.2.2.2.2.2.1.length+(List.take 1 (List.drop 0 [dc])).length<=Bm/\0=0/\(v10.2.2.2.2.2.2.2.2.2.1++List.take 1 (List.drop 0 [dc])).length=(v10.2.2.2.2.2.2.2.2.2.1++List.take 1 (List.drop 0 [dc])).length/\k9 (iy,IntKind.i64.wrap (v8.2.1-(1:Int)),v10.2.2.1,v10.2.2.2.1,v10.2.2.2.2.1,v10.2.2.2.2.2.1,v10.2.2.2.2.2.2.1,v10.2.2.2.2.2.2.2.1,v10.2.2.2.2.2.2.2.2.1,v10.2.2.2.2.2.2.2.2.2.1++List.take 1 (List.drop 0 [dc]),())) (0=0/\v10.2.2.2.2.2.2.2.2.2.1.length=v10.2.2.2.2.2.2.2.2.2.1.length/\k11 (v10.1,IntKind.i64.wrap (v10.2.1+(1:Int)),v10.2.2.1,v10.2.2.2.1,v10.2.2.2.2.1,v10.2.2.2.2.2.1,v10.2.2.2.2.2.2.1,v10.2.2.2.2.2.2.2.1,v10.2.2.2.2.2.2.2.2.1,v10.2.2.2.2.2.2.2.2.2.1,()))) (0=0/\v10.2.2.2.2.2.2.2.2.2.1.length=v10.2.2.2.2.2.2.2.2.2.1.length/\k9 (v10.1,IntKind.i64.wrap (v8.2.1-(1:Int)),v10.2.2.1,v10.2.2.2.1,v10.2.2.2.2.1,v10.2.2.2.2.2.1,v10.2.2.2.2.2.2.1,v10.2.2.2.2.2.2.2.1,v10.2.2.2.2.2.2.2.2.1,v10.2.2.2.2.2.2.2.2.2.1,()))) (v8.1,(0:Int),v8.2.2.1,v8.2.2.2.1,v8.2.2.2.2.1,v8.2.2.2.2.2.1,v8.2.2.2.2.2.2.1,v8.2.2.2.2.2.2.2.1,v8.2.2.2.2.2.2.2.2.1,v8.2.2.2.2.2.2.2.2.2.1,PUnit.unit)) (P (List.take v8.2.2.2.2.2.2.2.2.2.1.length (List.drop 0 v8.2.2.2.2.2.2.2.2.2.1)))) (y6,y7,p.1,p.2.1,p.2.2.1,y4.1,y4.2.1,y4.2.2.1,y4.2.2.2.1,[],PUnit.unit))=fnW Cy (look [(112,Da),(96,Ij),(113,Tz),(114,Ny),(115,Pe)]) Ys Try.f64 (p,goal,s,()) P:=by kernel_rfl
theorem Abf (w:List Int) (P:(List Int×Bool×Unit)->Prop):(Br (decide ((↑w.length:Int)>(200:Int))) (P (List.take 0 (List.drop 0 []),false,())) (P (w,true,())))=fnW Cy (look []) qB Try.f59 (w,()) P:=by kernel_rfl
theorem x4 (p:Int×ByteArray×List (List Int)×Unit) (goal s:List Int) (P:(List Int×Bool×Unit)->Prop):(∃(y4:Bool),Ly.fn ((p.1,p.2.1,p.2.2.1,()),goal,())=some y4/\Br (!y4) (P (List.take 0 (List.drop 0 []),false,())) (∃(y5:Bool),Lw.fn ((p.1,p.2.1,p.2.2.1,()),s,())=some y5/\Br (!y5) (P (List.take 0 (List.drop 0 []),false,())) (∃(y6:List Int),Ys.fn ((p.1,p.2.1,p.2.2.1,()),goal,s,())=some y6/\ ∃(y7:List Int×Bool×PUnit),qB.fn (y6,())=some y7/\P (y7.1,y7.2.1,()))))=fnW Cy (look [(62,Ly),(63,Lw),(64,Ys),(59,qB)]) Oc Try.f28 (p,goal,s,()) P:=by kernel_rfl
theorem wV (n:Int) (str:ByteArray) (g:List (List Int)) (goal s:List Int) (P:((List Int×Bool×Unit)×Unit)->Prop):(∃(y6:Option ((Int×ByteArray×List (List Int)×PUnit)×List (List Int)×List Int×(ByteArray->Option Int)×List Int×List Int×List (List Int)×PUnit)×Int×Bool×PUnit),Tt.fn ((n,str,g,()),s,())=some y6/\Br (!y6.2.2.1) (P ((List.take 0 (List.drop 0 []),false,()),())) (∃(y7:Bool),Ff.fn (n,goal,())=some y7/\Br (!y7) (P ((List.take 0 (List.drop 0 []),false,()),())) (∃(y8:List Int),Nm.fn (y6.1,goal,())=some y8/\ ∃(y9:(List Int×Int×Bool×PUnit)×PUnit),Qt.fn (y6.1,y8,y6.2.1,())=some y9/\P ((List.take y9.1.1.length (List.drop 0 y9.1.1),y9.1.2.2.1,()),()))))=fnMW Xi (look [(65,Tt),(66,Ff),(68,Nm),(67,Qt)]) Lk Try.f29 (n,str,g,goal,s,()) P:=by kernel_rfl
abbrev cS:Type:=(Int×ByteArray×List (List Int)×PUnit)×PUnit
theorem zq (p:Int×ByteArray×List (List Int)×Unit) (a b:List Int) (P:Bool->Prop):(Br (decide ((↑a.length:Int)>(1048576:Int))) (P true) (Br (decide ((↑b.length:Int)>(1048576:Int))) (P true) (∃(y4:Int),qG.fn ((p.1,p.2.1,p.2.2.1,()),(1048576:Int),())=some y4/\Br (decide (y4<(0:Int))) (P true) (∃(y5:cS),Js.fn (p.1,p.2.1,p.2.2.1,())=some y5/\ ∃(y6:(List Int×PUnit)×PUnit),Ml.fn (a,())=some y6/\ ∃(y7:(List Int×PUnit)×PUnit),Ml.fn (b,())=some y7/\ ∃(y8:List Int×Bool×PUnit),Oc.fn ((y5.1.1,y5.1.2.1,List.take y5.1.2.2.1.length (List.drop 0 y5.1.2.2.1),()),List.take y6.1.1.length (List.drop 0 y6.1.1),List.take y7.1.1.length (List.drop 0 y7.1.1),())=some y8/\ ∃(y9:cS),Js.fn (p.1,p.2.1,p.2.2.1,())=some y9/\ ∃(lD:(List Int×PUnit)×PUnit),Ml.fn (a,())=some lD/\ ∃(kM:(List Int×PUnit)×PUnit),Ml.fn (b,())=some kM/\ ∃(iw:(List Int×Bool×PUnit)×PUnit),Lk.fn (y9.1.1,y9.1.2.1,List.take y9.1.2.2.1.length (List.drop 0 y9.1.2.2.1),List.take lD.1.1.length (List.drop 0 lD.1.1),List.take kM.1.1.length (List.drop 0 kM.1.1),())=some iw/\ ∃(iy:Bool),Cu.fn (List.take iw.1.1.length (List.drop 0 iw.1.1),y8.1,())=some iy/\Br (!iy) (P false) (Br (!iw.1.2.1==y8.2.1) (P false) (∃(Yy:Int×ByteArray×List (List Int)×PUnit),qH.fn ((p.1,p.2.1,p.2.2.1,()),())=some Yy/\ ∃(dc:Bool),qA.fn ((y9.1.1,y9.1.2.1,List.take y9.1.2.2.1.length (List.drop 0 y9.1.2.2.1),()),Yy,())=some dc/\Br (!dc) (P false) (∃(dM:(List Int×PUnit)×PUnit),Ml.fn (a,())=some dM/\ ∃(BD:Bool),Cu.fn (List.take lD.1.1.length (List.drop 0 lD.1.1),List.take dM.1.1.length (List.drop 0 dM.1.1),())=some BD/\Br (!BD) (P false) (∃(FO:(List Int×PUnit)×PUnit),Ml.fn (b,())=some FO/\ ∃(PX:Bool),Cu.fn (List.take kM.1.1.length (List.drop 0 kM.1.1),List.take FO.1.1.length (List.drop 0 FO.1.1),())=some PX/\Br (!PX) (P false) (0=0/\y9.1.2.2.1.length=y9.1.2.2.1.length/\ ∃(GC:(Int×PUnit)×List (List Int)×PUnit),Lt.fn (y9.1.1,y9.1.2.1,y9.1.2.2.1,(1:Int),())=some GC/\(GC.2.1.length=y9.1.2.2.1.length/\y9.1.2.2.1.length=y9.1.2.2.1.length)/\0=0/\lD.1.1.length=lD.1.1.length/\ ∃(xh:(Int×PUnit)×List Int×PUnit),Pf.fn (lD.1.1,GC.1.1,())=some xh/\(xh.2.1.length=lD.1.1.length/\lD.1.1.length=lD.1.1.length)/\0=0/\kM.1.1.length=kM.1.1.length/\ ∃(y22:(Int×PUnit)×List Int×PUnit),Pf.fn (kM.1.1,xh.1.1,())=some y22/\(y22.2.1.length=kM.1.1.length/\kM.1.1.length=kM.1.1.length)/\Br (decide (y22.1.1<(0:Int))) (P false) (∃(y23:Bool),Cu.fn (List.take iw.1.1.length (List.drop 0 iw.1.1),y8.1,())=some y23/\Br (!y23) (P false) (Br (!iw.1.2.1==y8.2.1) (P false) (0=0/\iw.1.1.length=iw.1.1.length/\ ∃(XJ:(Int×PUnit)×List Int×PUnit),Pf.fn (iw.1.1,(1:Int),())=some XJ/\(XJ.2.1.length=iw.1.1.length/\iw.1.1.length=iw.1.1.length)/\ ∃(y25:Int),ar.fn (List.take iw.1.1.length (List.drop 0 XJ.2.1),(1:Int),())=some y25/\Br (decide (y25<(0:Int))) (P false) (Br (y25 !=XJ.1.1) (P false) (∃(y26:cS),Js.fn (p.1,p.2.1,p.2.2.1,())=some y26/\ ∃(y27:(List Int×PUnit)×PUnit),Ml.fn (a,())=some y27/\ ∃(y28:(List Int×PUnit)×PUnit),Ml.fn (b,())=some y28/\ ∃(y29:(List Int×Bool×PUnit)×PUnit),Lk.fn (y26.1.1,y26.1.2.1,List.take y26.1.2.2.1.length (List.drop 0 y26.1.2.2.1),List.take y27.1.1.length (List.drop 0 y27.1.1),List.take y28.1.1.length (List.drop 0 y28.1.1),())=some y29/\ ∃(y30:Bool),Cu.fn (List.take y29.1.1.length (List.drop 0 y29.1.1),y8.1,())=some y30/\Br (!y30) (P false) (Br (!y29.1.2.1==y8.2.1) (P false) (∃(y31:Int),ar.fn (List.take iw.1.1.length (List.drop 0 XJ.2.1),(1:Int),())=some y31/\Br (decide (y31<(0:Int))) (P false) (Br (y31 !=XJ.1.1) (P false) (P true))))))))))))))))))=fnW Cy (look [(14,qG),(28,Oc),(29,Lk),(16,Vo.b qH Js),(17,Vo.b kB Ml),(19,qA),(20,Cu),(25,Lt),(26,Pf),(27,ar)]) jw Try.f6 (p,a,b,()) P:=by kernel_rfl
theorem DC (f:SS) (s:List Int) (h:Ct (List.length s) f.1 f.2.2.1/\List.length f.2.1=List.length f.1):fnW Cy (look [(54,Kg)]) Ny Try.f114 (f,s,()) (λ(z:Int)=>z=ki f.1 f.2.1 s):=by
 obtain ⟨h1,h2⟩:=h
 refine Eq.mp (FC f s _) ⟨_,if_pos h1,?_⟩
 show Br (decide (aU f.1 s<0)) _ _
 unfold aU ki
 by_cases hm:s∈f.1
 ·have hl:=List.idxOf_lt_length_of_mem hm
  rw [if_pos hm,if_pos hm]
  refine Br.dec (λhn=>absurd hn (by omega)) λ_=>?_
  have FY:List.idxOf s f.1<f.2.1.length:=by omega
  refine ⟨f.2.1[List.idxOf s f.1],?_,by rw [Cv FY]⟩
  show idx f.2.1 (if s∈f.1 then ((List.idxOf s f.1:Nat):Int) else-1)=_
  rw [if_pos hm]
  exact Av FY
 ·rw [if_neg hm,if_neg hm]
  exact ⟨λ_=>rfl,λhn=>by simp at hn⟩
theorem oX:Sound Try.prog 114 Ny:=
 Sound.Di Bx (Ah ay Ao) mixed Try.func114 (by kernel_rfl) (by kernel_rfl) λx h=>DC x.1 x.2.1 h
theorem jm {p:PP} {goal:List Int} (hw:Bq p=true) (ht:Cm p goal=true) {x:List Int} (hx:x∈Wy p goal):0<=Eb p goal x/\Eb p goal x<=3000:=by
 have Yc:=nc ht
 have uV:=Yc.ok.o3
 refine ⟨(cf (valid (Cl hw).1) Yc (ab hw ht)).nn x hx,?_⟩
 obtain ⟨i,hi,rfl⟩:=List.mem_iff_getElem.1 hx
 have hiD:i<(Dl p.2.2.1 goal).2.1.length:=by rw [Yc.len];exact hi
 have h1:=Yc.dep i hiD
 have h2:Eb p goal ((Wy p goal)[i])=(sj p goal).getD i 0:=by
  rw [<-Cv (d:= []) hi];exact fa Yc.ok.nodup hi
 have h3:(sj p goal).getD i 0=(Dl p.2.2.1 goal).2.1[i]:=Cv hiD
 rw [h2,h3]
 have:i<(Dl p.2.2.1 goal).1.length:=hi
 omega
theorem JO (p:PP) (goal s:List Int) (h:Dt p/\Cm p goal=true/\Bq p=true/\s∈Ad p):fnW Cy (look [(112,Da),(96,Ij),(113,Tz),(114,Ny),(115,Pe)]) Ys Try.f64 (p,goal,s,()) (λ(z:List Int)=>z=Ke p goal s):=by
 obtain ⟨hp,ht,hw,hs⟩:=h
 have hv:=(Cl hw).1
 have hV:=valid hv
 have hn:=hV.n
 obtain ⟨t1,t2⟩:=Fg ht
 have Yc:=nc ht
 have uV:=Yc.ok.o3
 have YW:=ab hw ht
 have hc:=Ww hV Yc YW
 have hd:=cf hV Yc YW
 have NX:=sB hw ht s hs
 obtain ⟨ls,kb⟩: ∃ls,Ag p.2.2.1.length=ls:=⟨_,rfl⟩
 have j0: ∀l∈ls,Gt (List.length p.2.2.1) l:= λl hl=>Jq (kb▸hl)
 have FV: ∀x,ki (Dl p.2.2.1 goal).1 (Dl p.2.2.1 goal).2.1 x=Eb p goal x:= λx=>rfl
 rw [kb] at hc hd
 have hdo: ∀x:List Int,x.length=goal.length->Ny.fn (((Dc p.2.2.1 goal).1,(Dc p.2.2.1 goal).2.1,(Dc p.2.2.1 goal).2.2.1,(Dc p.2.2.1 goal).2.2.2.1,()),x,())=some (Eb p goal x):= λx hx=>
  if_pos ⟨by show Ct x.length (Dl p.2.2.1 goal).1 (Sx (Dl p.2.2.1 goal).1);rw [hx];exact Yc.ok,Yc.len⟩
 have dr:(Cf s goal).length=goal.length:=wg _ _
 have hlf:=cd hV
 rw [kb] at hlf
 have Aeb:= λx hx=>jm hw ht (x:=x) hx
 unfold Ke
 rw [kb]
 refine Eq.mp (LM p goal s _) ⟨Dc p.2.2.1 goal,if_pos ⟨hv,t1,t2⟩,ls,(if_pos hV.o3.2).trans (congrArg some kb),Cf s goal,if_pos ⟨by show short goal;unfold short;omega,dx hv hs ht⟩,_,hdo _ dr,rfl,rfl,?_⟩
 obtain ⟨R,hR⟩: ∃R,sZ p.2.2.1 (Eb p goal) ls (Eb p goal (Cf s goal)).toNat (Cf s goal) []=R:=⟨_,rfl⟩
 rw [hR]
 have YK:=Aeb _ NX
 obtain ⟨n0,WU⟩:=Int.eq_ofNat_of_zero_le YK.1
 rw [WU] at hR YK⊢
 rw [Int.toNat_natCast] at hR
 refine Bt.mk (λv=> ∃(x:List Int) (n:Nat) (w:List Int),v=(x,(n:Int),p.1,p.2.1,p.2.2.1,(Dc p.2.2.1 goal).1,(Dc p.2.2.1 goal).2.1,(Dc p.2.2.1 goal).2.2.1,(Dc p.2.2.1 goal).2.2.2.1,w,())/\x∈Wy p goal/\Eb p goal x=n/\w.length+n<=3000/\sZ p.2.2.1 (Eb p goal) ls n x w=R) (λv=>v.2.1.toNat)
  ⟨Cf s goal,n0,[],rfl,NX,WU,by simp only [List.length_nil];omega,hR⟩ ?_
 rintro v ⟨x,n,w,rfl,g1,g2,g3,g4⟩
 dsimp only
 refine Br.dec (λhl=>⟨rfl,rfl,?_⟩) λhl=>?_
 ·obtain ⟨n,rfl⟩: ∃n',n=n'+1:=⟨n-1,by omega⟩
  simp only [sZ] at g4
  have NY:x.length=goal.length:=Yc.ok.len x g1
  have MD: ∀y∈x,0<=y/\y<p.1:=Yc.row x g1
  have hwr:IntKind.i64.wrap (((n+1:Nat):Int)-1)=(n:Int):=by rw [Bw (by omega) (by omega)];omega
  rw [hwr]
  refine As ls.length (λv=>v.2.1) (λi v=>v=(x,(i:Int),p.1,p.2.1,p.2.2.1,(Dc p.2.2.1 goal).1,(Dc p.2.2.1 goal).2.1,(Dc p.2.2.1 goal).2.2.1,(Dc p.2.2.1 goal).2.2.2.1,w,())/\
   (ls.drop i).find? (λl=>decide (Eb p goal (Aa x (Af p.2.2.1 l))=n))=ls.find? (λl=>decide (Eb p goal (Aa x (Af p.2.2.1 l))=n))) rfl ⟨rfl,by rw [List.drop_zero]⟩ ?_
  rintro i v K hi hii ⟨rfl,hf⟩ hK
  dsimp only
  refine Br.dec (λLX=>?_) λLX=>?_
  ·have LX:i<ls.length:=by omega
   have xS:=List.getElem_mem LX
   have xR:=j0 _ xS
   obtain ⟨nl,nr⟩:=lA hV MD xR
   have hnx:=hc.next x g1 _ xS
   rw [List.drop_eq_getElem_cons LX] at hf
   refine ⟨_,Av LX,_,if_pos ⟨hv,by show x.length<=20;omega,MD,xR⟩,_,hdo _ (by rw [<-NY];exact nl),Br.of (λhb=>?_) λhb=>?_⟩
   ·have hb:Eb p goal (Aa x (Af p.2.2.1 ls[i]))=n:=by simpa using hb
    rw [List.find?_cons_of_pos (by simpa using hb)] at hf
    rw [<-hf] at g4
    refine ⟨_,Av LX,rfl,rfl,?_,rfl,rfl,⟨_,n,w++ [ls[i]],rfl,hnx,hb,by rw [List.length_append,List.length_singleton];omega,g4⟩,?_⟩
    ·show w.length+1<=4294967296;omega
    ·show ((n:Int)).toNat<(((n+1:Nat):Int)).toNat
     omega
   ·have hb: ¬Eb p goal (Aa x (Af p.2.2.1 ls[i]))=n:=by simpa using hb
    rw [List.find?_cons_of_neg (by simpa using hb)] at hf
    refine ⟨rfl,rfl,?_⟩
    rw [Ar (by omega)]
    exact hK LX _ rfl ⟨rfl,hf⟩
  ·have:i=ls.length:=by omega
   subst this
   rw [List.drop_length,List.find?_nil] at hf
   obtain ⟨l,xS,hle⟩:=hd.down x g1 (by rw [FV,g2];omega)
   have:=List.find?_eq_none.1 hf.symm l xS
   rw [FV,FV,g2] at hle
   exact absurd (decide_eq_true (by rw [hle];omega)) this
 ·rw [Bh]
  have:n=0:=by omega
  subst this
  rw [<-g4]
  rfl
theorem sY:Sound Try.prog 64 Ys:=
 Sound.Di Bx (Ah kE (Ah bb (Ah pa (Ah oX (Ah ia Ao))))) mixed Try.func64 (by kernel_rfl) (by kernel_rfl) λx h=>JO x.1 x.2.1 x.2.2.1 h
theorem Aar (w:List Int) (h:short w):fnW Cy (look []) qB Try.f59 (w,()) (λ(z:List Int×Bool×Unit)=>z=km w):=by
 refine Eq.mp (Abf w _) ?_
 unfold km
 refine Br.dec (λhl=>?_) λhl=>?_
 ·rw [if_pos (by omega)];rfl
 ·rw [if_neg (by omega)]
theorem EI:Sound Try.prog 59 qB:=
 Sound.Di Bx Ao mixed Try.func59 (by kernel_rfl) (by kernel_rfl) λx h=>Aar x.1 h
theorem qN {p:PP} {goal s:List Int} (hw:Bq p=true) (ht:Cm p goal=true) (hs:s∈Ad p):
  (Ke p goal s).length=(Eb p goal (Cf s goal)).toNat/\(Ke p goal s).length<=3000/\
  (Ca (jb p goal) (Vl p s).1=Eb p goal (Cf s goal))/\(Xp (Ft p) (Ag p.2.2.1.length) (jb p goal) (Eb p goal (Cf s goal)).toNat (Vl p s).1 []).1=Ke p goal s:=by
 have hv:=(Cl hw).1
 have hb:=jm hw ht (sB hw ht s hs)
 have he:=QI hw ht hs
 have hi:=List.idxOf_lt_length_of_mem hs
 have WO:(Vl p s).1=(((Ad p).idxOf s:Nat):Int):=by unfold Vl;rw [if_pos hs]
 have hsi:(Ad p).getD ((Ad p).idxOf s) []=s:=by rw [Cv hi];exact List.getElem_idxOf hi
 obtain ⟨r1,r2,_⟩:=GZ hw (QH hw ht) (rE hw ht) (see:= λx=>Cf x goal) (dep:=Eb p goal) (λx hx l _=>Lj (dx hv hx ht)) (λx hx=>QI hw ht hx)
  (Eb p goal (Cf s goal)).toNat ((Ad p).idxOf s) [] hi (by rw [he];omega)
 rw [hsi] at r1
 have r1:_=Ke p goal s:=r1
 rw [r1] at r2
 simp only [List.length_nil,Nat.zero_add] at r2
 refine ⟨r2,by omega,?_,by rw [WO];exact r1⟩
 rw [WO,<-he]
 unfold Ca
 rw [Int.toNat_natCast]
theorem zf {p:PP} {goal s:List Int} (hw:Bq p=true) (ht:Cm p goal=true) (hs:s∈Ad p):
  (Qm p (jb p goal) (Vl p s).1).1=(km (Ke p goal s)).1/\(Qm p (jb p goal) (Vl p s).1).2.2.1=(km (Ke p goal s)).2.1:=by
 obtain ⟨a1,a2,a3,a4⟩:=qN hw ht hs
 have hb:=jm hw ht (sB hw ht s hs)
 unfold Qm km
 rw [a3]
 by_cases h:Eb p goal (Cf s goal)>200
 ·rw [if_pos h,if_pos (by omega)];exact ⟨rfl,rfl⟩
 ·rw [if_neg h,if_neg (by omega)];exact ⟨a4,rfl⟩
theorem wb (p:PP) (goal s:List Int) (h:Dt p/\short goal/\short s):fnW Cy (look [(62,Ly),(63,Lw),(64,Ys),(59,qB)]) Oc Try.f28 (p,goal,s,()) (λ(z:List Int×Bool×Unit)=>z=Lr p goal s):=by
 obtain ⟨hp,hg,hs⟩:=h
 unfold Lr
 refine Eq.mp (x4 p goal s _) ⟨_,if_pos ⟨hp,hg⟩,Br.of (λht=>?_) λht=>?_⟩
 ·have ht:Cm p goal=false:=GR ht
  rw [if_neg λh=>by
   obtain ⟨h1,h2⟩:=Bool.and_eq_true_iff.1 h
   rw [Ik.2 ⟨(Cl (iV.1 h1).1).1,h2⟩] at ht
   cases ht]
  rfl
 have ht:Cm p goal=true:=by simpa using ht
 have ZX:Gd p.1 goal=true:=(Ik.1 ht).2
 rw [ZX,Bool.and_true]
 refine ⟨_,if_pos ⟨hp,hs⟩,Br.of (λhf=>?_) λhf=>?_⟩
 ·rw [if_neg (Dh hf)];rfl
 have hf:Ri p s=true:=by simpa using hf
 rw [if_pos hf]
 obtain ⟨hw,hm⟩:=iV.1 hf
 have hl:=(qN hw ht hm).2.1
 exact ⟨_,if_pos ⟨hp,ht,hw,hm⟩,_,if_pos (by show (Ke p goal s).length<=4294967296;omega),rfl⟩
theorem ld:Sound Try.prog 28 Oc:=
 Sound.Di Bx (Ah ij (Ah jF (Ah sY (Ah EI Ao)))) mixed Try.func28 (by kernel_rfl) (by kernel_rfl) λx h=>wb x.1 x.2.1 x.2.2.1 h
theorem w6 (n:Int) (str:ByteArray) (g:List (List Int)) (goal s:List Int) (h:Dt (n,str,g,())/\short goal/\short s):
  fnMW Xi (look [(65,Tt),(66,Ff),(68,Nm),(67,Qt)]) Lk Try.f29 (n,str,g,goal,s,()) (λ(z:(List Int×Bool×Unit)×Unit)=>z=(((Lr (n,str,g,()) goal s).1,(Lr (n,str,g,()) goal s).2.1,()),())):=by
 obtain ⟨hp,hg,hs⟩:=h
 obtain ⟨p,hpe⟩: ∃p:PP,p=(n,str,g,()):=⟨_,rfl⟩
 rw [<-hpe] at hp⊢
 refine Eq.mp (wV n str g goal s _) ?_
 rw [<-hpe]
 refine ⟨_,if_pos ⟨hp,hs⟩,?_⟩
 show Br (!(Kk p s).2.2.1) _ _
 rw [xK]
 unfold Lr
 refine Br.of (λhf=>?_) λhf=>?_
 ·rw [GR hf,Bool.false_and,if_neg (by decide)];rfl
 have hf:Ri p s=true:=by simpa using hf
 obtain ⟨hw,hm⟩:=iV.1 hf
 have hv:=(Cl hw).1
 have hn:=(valid hv).n
 have hn1:p.1=n:=by rw [hpe]
 rw [hf,Bool.true_and]
 refine ⟨_,if_pos ⟨by show OE n;unfold OE;omega,hg⟩,?_⟩
 show Br (!Gd n goal) _ _
 rw [<-hn1]
 refine Br.of (λht=>?_) λht=>?_
 ·rw [if_neg (Dh ht)];rfl
 have ZX:Gd p.1 goal=true:=by simpa using ht
 have ht:Cm p goal=true:=Ik.2 ⟨hv,ZX⟩
 rw [if_pos ZX]
 have hex:Kk p s=(some (Ji p),(Vl p s).1,(Vl p s).2.1,()):=if_pos hw
 obtain ⟨i1,i2,i3⟩:=Aaf hm
 obtain ⟨d1,d2⟩:=zf hw ht hm
 have LW:Nm.fn ((Kk p s).1,goal,())=some (jb p goal):=by
  rw [hex]
  exact (if_pos ⟨Ji p,rfl,⟨hw,rfl⟩,ZX⟩).trans (congrArg some (XR hw goal))
 have hds:Qt.fn ((Kk p s).1,jb p goal,(Kk p s).2.1,())=some (Qm p (jb p goal) (Vl p s).1,()):=by
  rw [hex]
  exact if_pos ⟨Ji p,rfl,⟨hw,rfl⟩,QH hw ht,i1,by show (Vl p s).1<((jb p goal).length:Int);rw [HE hw];exact i2⟩
 refine ⟨_,LW,_,hds,?_⟩
 dsimp only
 rw [Bh,d1,d2]
theorem l7:Cd Try.prog 29 Lk:=
 Cd.jf Vg (Ah oZ (Ah l8 (Ah nB (Hg oY Ao)))) mixed Try.func29 (by kernel_rfl) (by kernel_rfl) λx h=>w6 x.1 x.2.1 x.2.2.1 x.2.2.2.1 x.2.2.2.2.1 h
theorem wG {p:PP} {goal s:List Int} :short (Lr p goal s).1:=by
 unfold Lr km
 split
 ·split
  ·simp [short]
  ·show (Ke p goal s).length<=4294967296
   omega
 ·simp [short]
theorem yC (p:PP) (a:List Int) (b:List Int) (h:Dt p/\short a/\short b):fnW Cy (look [(14,qG),(28,Oc),(29,Lk),(16,Vo.b qH Js),(17,Vo.b kB Ml),(19,qA),(20,Cu),(25,Lt),(26,Pf),(27,ar)]) jw Try.f6 (p,a,b,()) (λ(z:Bool)=>z=true):=by
 have h0:Dt (p.1,p.2.1,p.2.2.1,()):=h.1
 have h1:short a:=h.2.1
 have h2:short b:=h.2.2
 refine Eq.mp (zq p a b _) ?_
 refine Br.dec (λ_=>rfl) λAjm=>?_
 refine Br.dec (λ_=>rfl) λAjn=>?_
 refine ⟨_,if_pos ⟨h0,wm⟩,Br.dec (λ_=>rfl) λAfk=>?_⟩
 have Aa5:(((Cn p.2.2.1:Nat):Nat):Int)<=(1048576)-(cp (p.1,p.2.1,p.2.2.1,()) (1048576))/\roomy (cp (p.1,p.2.1,p.2.2.1,()) (1048576)):=KK wm Afk
 have Ako:=Aa5.1
 have Ak1:0<=cp (p.1,p.2.1,p.2.2.1,()) (1048576)/\cp (p.1,p.2.1,p.2.2.1,()) (1048576)<=4294967296:=Aa5.2
 have l0:low (1+(Cn p.2.2.1:Nat)):=⟨by omega,by omega⟩
 have l1:low (1+(Cn p.2.2.1:Nat)+(a.length:Nat)):=⟨by omega,by omega⟩
 have l2:low (1+(Cn p.2.2.1:Nat)+(a.length:Nat)+(b.length:Nat)):=⟨by omega,by omega⟩
 refine ⟨_,if_pos h0,_,if_pos h1,_,if_pos h2,?_⟩
 try simp only [Bh]
 refine ⟨_,if_pos ⟨h0,h1,h2⟩,_,if_pos h0,_,if_pos h1,_,if_pos h2,?_⟩
 try simp only [Bh]
 have NH:short ((Lr p a b).1):=wG
 generalize he0:(Lr p a b).1=g0 at NH
 generalize he1:(Lr p a b).2.1=g1
 refine ⟨_,if_pos ⟨h0,h1,h2⟩,?_⟩
 simp only [Bh,he0,he1]
 refine ⟨_,if_pos NH,⟨λhe=>absurd (Jh _) (Dh he),λ_=>?_⟩⟩
 refine ⟨λhe=>iJ he,λ_=>?_⟩
 refine ⟨_,if_pos h0,_,if_pos h0,⟨λhe=>absurd (yk _) (Dh he),λ_=>?_⟩⟩
 refine ⟨_,if_pos h1,?_⟩
 try simp only [Bh]
 refine ⟨_,if_pos h1,⟨λhe=>absurd (Jh _) (Dh he),λ_=>?_⟩⟩
 refine ⟨_,if_pos h2,?_⟩
 try simp only [Bh]
 refine ⟨_,if_pos h2,⟨λhe=>absurd (Jh _) (Dh he),λ_=>?_⟩⟩
 refine ⟨trivial,trivial,_,if_pos ⟨h0.2,lz,l0⟩,⟨Wx _ _,trivial⟩,trivial,trivial,_,if_pos ⟨h1,l0⟩,⟨Lg _ _,trivial⟩,trivial,trivial,_,if_pos ⟨h2,l1⟩,⟨Lg _ _,trivial⟩,Br.dec (λhn=>absurd l2.1 (Int.not_le.2 hn)) λ_=>?_⟩
 refine ⟨_,if_pos NH,⟨λhe=>absurd (Jh _) (Dh he),λ_=>?_⟩⟩
 refine ⟨λhe=>iJ he,λ_=>?_⟩
 refine ⟨trivial,trivial,_,if_pos ⟨NH,lz⟩,⟨Lg _ _,trivial⟩,?_⟩
 simp only [xb]
 have TO: ∀k,short (Gw k g0.length):= λk=>by unfold short at*;rw [Lg];exact NH
 refine ⟨_,if_pos ⟨TO _,lz⟩,?_⟩
 simp only [ei]
 refine Br.dec (λhn=>by omega) λ_=>⟨λhe=>by simp at he,λ_=>?_⟩
 refine ⟨_,if_pos h0,_,if_pos h1,_,if_pos h2,?_⟩
 try simp only [Bh]
 refine ⟨_,if_pos ⟨h0,h1,h2⟩,?_⟩
 simp only [Bh,he0,he1]
 refine ⟨_,if_pos NH,⟨λhe=>absurd (Jh _) (Dh he),λ_=>?_⟩⟩
 refine ⟨λhe=>iJ he,λ_=>?_⟩
 refine ⟨_,if_pos ⟨TO _,lz⟩,?_⟩
 simp only [ei]
 exact Br.dec (λhn=>by omega) λ_=>⟨λhe=>by simp at he,λ_=>trivial⟩
theorem nD:Sound Try.prog 6 jw:=
 Sound.Di Bx (Ah EO (Ah ld (Hg l7 (uC EP lf (uC qM nJ (Ah EH (Ah qL (Hg jE (Hg kD (Ah wB Ao)))))))))) mixed Try.func6 (by kernel_rfl) (by kernel_rfl) λx h=>yC x.1 x.2.1 x.2.2.1 h
end Go.Proofs.Ytjbdmibbbpdnnaa
