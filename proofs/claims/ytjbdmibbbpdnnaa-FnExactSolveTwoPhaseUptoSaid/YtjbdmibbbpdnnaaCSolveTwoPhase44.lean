/-
  Part 45 of the proof that the statement FnExactSolveTwoPhase holds.
-/
import Derived.Test.YtjbdmibbbpdnnaaCSolveTwoPhase43
namespace Go.Proofs.Ytjbdmibbbpdnnaa
open Go.RowKit
noncomputable abbrev Mw:Spec:=Dg (.pair tU (.pair tU .unit)) (.pair tU (.pair tU .unit)) true true (λx=>x.1=1/\0<=x.2.1/\x.2.1<=100000) (λx=>(0,x.2.1,()))
noncomputable abbrev aa:MSpec:=Yp [none,none] [(false, .Dy tL),(false, .Dy tI)] false [none] [rL] (λx=>(∃v,x.1= [v])/\1<=x.2.1/\x.2.1<=100000) (λx=>((List.replicate x.2.1.toNat (x.1.getD 0 0),()),()))
theorem UA (x y:Int) (P:(Int×Int×Unit)->Prop):(¬(32:Int)<(0:Int)/\ ¬(32:Int)<(0:Int)/\ ¬(32:Int)<(0:Int)/\ ¬(32:Int)<(0:Int)/\ ¬(32:Int)<(0:Int)/\P (IntKind.u64.wrap (IntKind.u64.wrap (IntKind.u64.wrap (x.fdiv ((2:Int)^min (Int.toNat (32:Int)) IntKind.u64.bits)*y.fdiv ((2:Int)^min (Int.toNat (32:Int)) IntKind.u64.bits))+(IntKind.u64.wrap (IntKind.u64.wrap (x.fdiv ((2:Int)^min (Int.toNat (32:Int)) IntKind.u64.bits)*IntKind.u64.wrap (↑(BitVec.ofInt IntKind.u64.bits y&&&BitVec.ofInt IntKind.u64.bits (4294967295:Int)).toNat:Int))+(IntKind.u64.wrap (IntKind.u64.wrap (↑(BitVec.ofInt IntKind.u64.bits x&&&BitVec.ofInt IntKind.u64.bits (4294967295:Int)).toNat:Int)*IntKind.u64.wrap (↑(BitVec.ofInt IntKind.u64.bits y&&&BitVec.ofInt IntKind.u64.bits (4294967295:Int)).toNat:Int))).fdiv ((2:Int)^min (Int.toNat (32:Int)) IntKind.u64.bits))).fdiv ((2:Int)^min (Int.toNat (32:Int)) IntKind.u64.bits))+(IntKind.u64.wrap (IntKind.u64.wrap (↑(BitVec.ofInt IntKind.u64.bits (IntKind.u64.wrap (IntKind.u64.wrap (x.fdiv ((2:Int)^min (Int.toNat (32:Int)) IntKind.u64.bits)*IntKind.u64.wrap (↑(BitVec.ofInt IntKind.u64.bits y&&&BitVec.ofInt IntKind.u64.bits (4294967295:Int)).toNat:Int))+(IntKind.u64.wrap (IntKind.u64.wrap (↑(BitVec.ofInt IntKind.u64.bits x&&&BitVec.ofInt IntKind.u64.bits (4294967295:Int)).toNat:Int)*IntKind.u64.wrap (↑(BitVec.ofInt IntKind.u64.bits y&&&BitVec.ofInt IntKind.u64.bits (4294967295:Int)).toNat:Int))).fdiv ((2:Int)^min (Int.toNat (32:Int)) IntKind.u64.bits)))&&&BitVec.ofInt IntKind.u64.bits (4294967295:Int)).toNat:Int)+IntKind.u64.wrap (IntKind.u64.wrap (↑(BitVec.ofInt IntKind.u64.bits x&&&BitVec.ofInt IntKind.u64.bits (4294967295:Int)).toNat:Int)*y.fdiv ((2:Int)^min (Int.toNat (32:Int)) IntKind.u64.bits)))).fdiv ((2:Int)^min (Int.toNat (32:Int)) IntKind.u64.bits)),IntKind.u64.wrap (x*y),()))=fnW eZ (look []) Mw Try.f172 (x,y,()) P:=by kernel_rfl
theorem Aan (x y:Int) (P:(Int×Int×Unit)->Prop):(∃(y3:Int×Int×PUnit),Mw.fn (x,y,())=some y3/\P (y3.1,y3.2.1,()))=fnW eZ (look [(172,Mw)]) Mw Try.f152 (x,y,()) P:=by kernel_rfl
theorem PX (xs:List Int) (n:Int) (P:((List Int×Unit)×Unit)->Prop):(Br (decide (n<(0:Int))) False (∃(y3:Int×Int×PUnit),Mw.fn (IntKind.u64.wrap (↑xs.length:Int),IntKind.u64.wrap n,())=some y3/\Br (decide (y3.1>(0:Int))) False (Br (decide (y3.2.1>(9223372036854775807:Int))) False (((0:Int)<=IntKind.i64.wrap y3.2.1/\IntKind.i64.wrap y3.2.1<(↑Bm:Int)+(1:Int))/\IntKind.i64.wrap y3.2.1=IntKind.i64.wrap y3.2.1/\0=0/\(List.replicate (IntKind.i64.wrap y3.2.1).toNat (Int.ofNat (nat_lit 0))).length=(Bp (List.replicate (IntKind.i64.wrap y3.2.1).toNat (Int.ofNat (nat_lit 0))) 0 (List.take (List.replicate (IntKind.i64.wrap y3.2.1).toNat (Int.ofNat (nat_lit 0))).length xs)).length/\Bo (λ(v4:Int×List Int×PUnit) (k5:Int×List Int×PUnit->Prop)=>Br (decide (v4.1<(↑v4.2.1.length:Int))) (((0:Int)<=v4.1/\v4.1<=(↑v4.2.1.length:Int)/\(↑v4.2.1.length:Int)<=(↑v4.2.1.length:Int))/\((0:Int)<=(0:Int)/\(0:Int)<=v4.1/\v4.1<=(↑v4.2.1.length:Int))/\0=0/\v4.2.1.length=(Bp v4.2.1 (0+v4.1.toNat) (List.take ((↑v4.2.1.length:Int).toNat-v4.1.toNat) (List.take (v4.1.toNat-Int.toNat (0:Int)) (List.drop (0+Int.toNat (0:Int)) v4.2.1)))).length/\k5 (IntKind.i64.wrap (v4.1+(↑(min ((↑v4.2.1.length:Int).toNat-v4.1.toNat) (List.take (v4.1.toNat-Int.toNat (0:Int)) (List.drop (0+Int.toNat (0:Int)) v4.2.1)).length):Int)),Bp v4.2.1 (0+v4.1.toNat) (List.take ((↑v4.2.1.length:Int).toNat-v4.1.toNat) (List.take (v4.1.toNat-Int.toNat (0:Int)) (List.drop (0+Int.toNat (0:Int)) v4.2.1))),())) (P ((List.take v4.2.1.length (List.drop 0 v4.2.1),()),()))) ((↑(min (List.replicate (IntKind.i64.wrap y3.2.1).toNat (Int.ofNat (nat_lit 0))).length xs.length):Int),Bp (List.replicate (IntKind.i64.wrap y3.2.1).toNat (Int.ofNat (nat_lit 0))) 0 (List.take (List.replicate (IntKind.i64.wrap y3.2.1).toNat (Int.ofNat (nat_lit 0))).length xs),PUnit.unit)))))=fnMW eZ (look [(152,Mw)]) aa Try.f122 (xs,n,()) P:=by kernel_rfl
theorem KN {y:Int} (h0:0<=y) (h:y<4294967296):(((BitVec.ofInt IntKind.u64.bits y)&&&(BitVec.ofInt IntKind.u64.bits 4294967295)).toNat:Int)=y:=by
 obtain ⟨n,rfl⟩:=Int.eq_ofNat_of_zero_le h0
 show ((((BitVec.ofInt 64 (n:Int))&&&(BitVec.ofInt 64 4294967295)).toNat:Nat):Int)=(n:Int)
 have e1:(BitVec.ofInt 64 (n:Int)).toNat=n:=by rw [BitVec.toNat_ofInt];omega
 have e2:(BitVec.ofInt 64 4294967295).toNat=2^32-1:=by decide
 rw [BitVec.toNat_and,e1,e2,Nat.and_two_pow_sub_one_eq_mod]
 omega
theorem yU {n:Int} (h1:0<=n) (h2:n<18446744073709551616):IntKind.u64.wrap n=n:=by rw [IntKind.wrap_u64];omega
theorem TB (x y:Int) (h:x=1/\0<=y/\y<=100000):fnW eZ (look []) Mw Try.f172 (x,y,()) (λ(z:Int×Int×Unit)=>z=(0,y,())):=by
 obtain ⟨rfl,h1,h2⟩:=h
 have e32:(2:Int)^min (Int.toNat (32:Int)) IntKind.u64.bits=4294967296:=by decide
 have e1:(1:Int).fdiv 4294967296=0:=by decide
 have e0:(0:Int).fdiv 4294967296=0:=by decide
 have ey:y.fdiv 4294967296=0:=by rw [Int.fdiv_eq_ediv_of_nonneg _ (by omega)];omega
 refine Eq.mp (UA 1 y _) ⟨by omega,by omega,by omega,by omega,by omega,?_⟩
 rw [e32]
 simp only [e1,ey,e0,KN h1 (show y<4294967296 by omega),KN (show (0:Int)<=1 by omega) (show (1:Int)<4294967296 by omega),KN (show (0:Int)<=0 by omega) (show (0:Int)<4294967296 by omega),Int.zero_mul,Int.mul_zero,Int.one_mul,Int.zero_add,Int.add_zero,
  yU h1 (show y<18446744073709551616 by omega),yU (show (0:Int)<=0 by omega) (show (0:Int)<18446744073709551616 by omega),yU (show (0:Int)<=1 by omega) (show (1:Int)<18446744073709551616 by omega)]
theorem yi:Sound Try.prog 172 Mw:=
 Sound.Dg CM As mixed Try.func172 (by kernel_rfl) (by kernel_rfl) λx h=>TB x.1 x.2.1 h
theorem ZS (x y:Int) (h:x=1/\0<=y/\y<=100000):fnW eZ (look [(172,Mw)]) Mw Try.f152 (x,y,()) (λ(z:Int×Int×Unit)=>z=(0,y,())):=
 Eq.mp (Aan x y _) ⟨_,if_pos h,rfl⟩
theorem CB:Sound Try.prog 152 Mw:=
 Sound.Dg CM (Ah yi As) mixed Try.func152 (by kernel_rfl) (by kernel_rfl) λx h=>ZS x.1 x.2.1 h
theorem lV {α:Type} (a b:α) {k m j:Nat} (h1:k+j<=m):Bp (List.replicate k a++List.replicate (m-k) b) k (List.replicate j a)=List.replicate (k+j) a++List.replicate (m-(k+j)) b:=by
 unfold Bp
 have e1:(List.replicate k a++List.replicate (m-k) b).take k=List.replicate k a:=List.take_left' (by simp)
 have e2:(List.replicate k a++List.replicate (m-k) b).drop (k+(List.replicate j a).length)=List.replicate (m-(k+j)) b:=by
  rw [List.length_replicate,List.drop_append,List.length_replicate,List.drop_replicate,List.drop_replicate,show k-(k+j)=0 by omega,show m-k-(k+j-k)=m-(k+j) by omega]
  rfl
 rw [e1,e2,<-List.replicate_append_replicate (n:=k) (m:=j)]
theorem NW (xs:List Int) (n:Int) (h:(∃v,xs= [v])/\1<=n/\n<=100000):fnMW eZ (look [(152,Mw)]) aa Try.f122 (xs,n,()) (λ(z:(List Int×Unit)×Unit)=>z=((List.replicate n.toNat (xs.getD 0 0),()),())):=by
 obtain ⟨⟨v,rfl⟩,h1,h2⟩:=h
 obtain ⟨m,rfl⟩:=Int.eq_ofNat_of_zero_le (show 0<=n by omega)
 have e1:IntKind.u64.wrap (([v]:List Int).length:Int)=1:=yU (by simp) (by simp)
 have e2:IntKind.u64.wrap (m:Int)=(m:Int):=yU (by omega) (by omega)
 have e3:IntKind.i64.wrap (m:Int)=(m:Int):=Bd (by omega) (by omega)
 have hmul:Mw.fn (IntKind.u64.wrap (([v]:List Int).length:Int),IntKind.u64.wrap (m:Int),())=some (0,(m:Int),()):=by
  rw [e1,e2];exact if_pos ⟨rfl,by show (0:Int)<=m;omega,by show (m:Int)<=100000;omega⟩
 refine Eq.mp (PX [v] m _) (Br.dec (λhb=>absurd hb (by omega)) λ_=>⟨_,hmul,Br.dec (λhb=>absurd hb (by show ¬(0:Int)>0;omega)) λ_=>Br.dec (λhb=>absurd hb (by show ¬(m:Int)>9223372036854775807;omega)) λ_=>?_⟩)
 dsimp only
 rw [e3]
 have Aj6:Bp (List.replicate (m:Int).toNat (Int.ofNat 0)) 0 (List.take (List.replicate (m:Int).toNat (Int.ofNat 0)).length [v])=List.replicate 1 v++List.replicate (m-1) 0:=by
  rw [Int.toNat_natCast,List.length_replicate,List.take_of_length_le (by simp;omega)]
  have:=lV v (0:Int) (k:=0) (m:=m) (j:=1) (by omega)
  simpa using this
 rw [Aj6]
 refine ⟨⟨by omega,by show (m:Int)<(4294967296:Int)+1;omega⟩,rfl,rfl,by simp;omega,?_⟩
 refine Bo.mk (λw=> ∃k:Nat,1<=k/\k<=m/\w=((k:Int),List.replicate k v++List.replicate (m-k) 0,())) (λw=>m-w.1.toNat) ⟨1,Nat.le_refl _,by omega,?_⟩ ?_
 ·have:min (List.replicate (m:Int).toNat (Int.ofNat 0)).length ([v]:List Int).length=1:=by simp;omega
  rw [this]
  first|rfl|skip
 rintro w ⟨k,k1,k2,rfl⟩
 dsimp only
 have hlen:(List.replicate k v++List.replicate (m-k) (0:Int)).length=m:=by simp;omega
 rw [hlen]
 refine Br.dec (λhl=>?_) λhl=>?_
 ·have hl:k<m:=by omega
  obtain ⟨j,hj⟩: ∃j,min (m-k) k=j:=⟨_,rfl⟩
  have MG:List.take (((k:Int)).toNat-Int.toNat (0:Int)) (List.drop (0+Int.toNat (0:Int)) (List.replicate k v++List.replicate (m-k) (0:Int)))=List.replicate k v:=by
   have e0:Int.toNat (0:Int)=0:=rfl
   rw [e0,Int.toNat_natCast,Nat.add_zero,Nat.sub_zero,List.drop_zero,List.take_left' (by simp)]
  have ht:List.take ((m:Int).toNat-((k:Int)).toNat) (List.replicate k v)=List.replicate j v:=by
   rw [Int.toNat_natCast,Int.toNat_natCast,List.take_replicate,hj]
  have Ad0:min ((m:Int).toNat-((k:Int)).toNat) (List.replicate k v).length=j:=by rw [List.length_replicate,Int.toNat_natCast,Int.toNat_natCast];exact hj
  rw [MG,ht,Ad0,Int.toNat_natCast,Nat.zero_add,lV v (0:Int) (by omega)]
  refine ⟨⟨by omega,by omega,by omega⟩,⟨by omega,by omega,by omega⟩,rfl,by simp;omega,⟨k+j,by omega,by omega,?_⟩,?_⟩
  ·rw [Bd (by omega) (by omega)]
   rfl
  ·rw [Bd (by omega) (by omega)]
   omega
 ·have:k=m:=by omega
  subst this
  rw [Nat.sub_self,List.replicate_zero,List.append_nil,List.drop_zero,List.take_of_length_le (by simp),Int.toNat_natCast]
  rfl
theorem uQ:Bq Try.prog 122 aa:=
 Bq.Yp CM (Ah CB As) mixed Try.func122 (by kernel_rfl) (by kernel_rfl) λx h=>NW x.1 x.2.1 h
end Go.Proofs.Ytjbdmibbbpdnnaa

namespace Go.Proofs.Ytjbdmibbbpdnnaa
open Go.RowKit
def og (g:List (List Int)) (L:List (List Int)) (x:List Int):List Int:=(Ae g.length).map λl=>((L.idxOf (Ab x (Af g l)):Nat):Int)
theorem Ve {g:List (List Int)} {k:Int} {x:List Int} {d:Int} : ∀(ls:List Int) (s:EX) (row:List Int),∃A,(Wz g k x d ls s row).1.1=s.1++A
 | [],s,row=>⟨[],by simp [Wz]⟩
 |l::ls,s,row=>by
  simp only [Wz]
  split
  ·exact Ve ls s _
  ·obtain ⟨A,h⟩:=Ve (g:=g) (k:=k) (x:=x) (d:=d) ls (s.1++ [Ab x (Af g l)],s.2.1++ [d+1],s.2.2.1++ [k],s.2.2.2++ [l]) (row++ [(s.1.length:Int)])
   exact ⟨_::A,by rw [h,List.append_assoc];rfl⟩
theorem zR {L A:List (List Int)} {y:List Int} (h:y∈L):(L++A).idxOf y=L.idxOf y:=by rw [List.idxOf_append,if_pos h]
theorem GR {L A:List (List Int)} {y:List Int} (h:y∉L):(L++y::A).idxOf y=L.length:=by
 rw [List.idxOf_append,if_neg h,List.idxOf_cons_self];simp
theorem jX {g:List (List Int)} {k:Int} {x:List Int} {d:Int} : ∀(ls:List Int) (s:EX) (row:List Int) (A:List (List Int)),
  (Wz g k x d ls s row).2=row++ls.map λl=>((((Wz g k x d ls s row).1.1++A).idxOf (Ab x (Af g l)):Nat):Int)
 | [],s,row,A=>by simp [Wz]
 |l::ls,s,row,A=>by
  simp only [Wz]
  split
  ·rename_i hm
   obtain ⟨B,hB⟩:=Ve (g:=g) (k:=k) (x:=x) (d:=d) ls s (row++ [(s.1.idxOf (Ab x (Af g l)):Int)])
   rw [jX ls s _ A,List.append_assoc,List.map_cons,hB,List.append_assoc,zR hm]
   rfl
  ·rename_i hm
   obtain ⟨B,hB⟩:=Ve (g:=g) (k:=k) (x:=x) (d:=d) ls (s.1++ [Ab x (Af g l)],s.2.1++ [d+1],s.2.2.1++ [k],s.2.2.2++ [l]) (row++ [(s.1.length:Int)])
   rw [jX ls _ _ A,List.append_assoc,List.map_cons,hB]
   dsimp only
   rw [List.append_assoc,List.append_assoc,List.singleton_append,List.cons_append,GR hm]
   try rfl
theorem rj {g:List (List Int)} {ls:List Int} : ∀(f k:Nat) (s:EX) (N:List (List Int)),∃A,(Yi g ls f k s N).1.1=s.1++A
 |0,k,s,N=>⟨[],by simp [Yi]⟩
 |f+1,k,s,N=>by
  simp only [Yi]
  split
  ·obtain ⟨A,hA⟩:=Ve (g:=g) (k:=(k:Int)) (x:=s.1.getD k []) (d:=s.2.1.getD k 0) ls s []
   obtain ⟨B,hB⟩:=rj (g:=g) (ls:=ls) f (k+1) (Wz g (k:Int) (s.1.getD k []) (s.2.1.getD k 0) ls s []).1 (N++ [(Wz g (k:Int) (s.1.getD k []) (s.2.1.getD k 0) ls s []).2])
   exact ⟨A++B,by rw [hB,hA,List.append_assoc]⟩
  ·exact ⟨[],by simp⟩
theorem rk {g:List (List Int)} : ∀(f k:Nat) (s:EX) (N:List (List Int)),(Yi g (Ae g.length) f k s N).1.1.length<=f+k->
  (Yi g (Ae g.length) f k s N).2=N++((Yi g (Ae g.length) f k s N).1.1.drop k).map (og g (Yi g (Ae g.length) f k s N).1.1)
 |0,k,s,N,h=>by
  simp only [Yi] at h⊢
  rw [List.drop_of_length_le (by omega)]
  simp
 |f+1,k,s,N,h=>by
  simp only [Yi] at h⊢
  split
  ·rename_i hk
   rw [if_pos hk] at h
   obtain ⟨A,hA⟩:=Ve (g:=g) (k:=(k:Int)) (x:=s.1.getD k []) (d:=s.2.1.getD k 0) (Ae g.length) s []
   obtain ⟨B,hB⟩:=rj (g:=g) (ls:=Ae g.length) f (k+1) (Wz g (k:Int) (s.1.getD k []) (s.2.1.getD k 0) (Ae g.length) s []).1 (N++ [(Wz g (k:Int) (s.1.getD k []) (s.2.1.getD k 0) (Ae g.length) s []).2])
   have Rn:=jX (g:=g) (k:=(k:Int)) (x:=s.1.getD k []) (d:=s.2.1.getD k 0) (Ae g.length) s [] B
   rw [<-hB,List.nil_append] at Rn
   rw [rk f (k+1) _ _ (by omega),List.append_assoc]
   congr 1
   generalize hR:Yi g (Ae g.length) f (k+1) _ _=R at*
   have hkR:k<R.1.1.length:=by rw [hB,hA,List.length_append,List.length_append];omega
   rw [List.drop_eq_getElem_cons hkR,List.map_cons,List.singleton_append]
   congr 1
   have e:R.1.1[k]=s.1.getD k []:=by
    rw [<-Bu (d:= []) hkR,hB,hA,List.append_assoc,Fk hk]
   rw [Rn,e]
   rfl
  ·rename_i hk
   rw [List.drop_of_length_le (by show s.1.length<=k;omega)]
   simp
theorem FZ {p:PP} (hw:Bz p=true):(Fu p).2.2.2.2.2.2.1=(Aa p).map (og p.2.2.1 (Aa p)):=by
 have h1:=(er hw).1
 have h2:=dW (Bt hw).1
 have h3:=rk (g:=p.2.2.1) 3001 0 ([upto p.1.toNat],[0],[0],[0]) [] (by
  show (Fu p).2.1.length<=3001+0
  rw [h1];omega)
 have h4:(Yi p.2.2.1 (Ae p.2.2.1.length) 3001 0 ([upto p.1.toNat],[0],[0],[0]) []).1.1=Aa p:=h1
 rw [h4,List.nil_append,List.drop_zero] at h3
 exact h3
noncomputable def Dc (p:PP) (i:Nat):List Int:=og p.2.2.1 (Aa p) ((Aa p).getD i [])
theorem Lj {p:PP} (hw:Bz p=true):mX p.2.2.1 (Ae p.2.2.1.length) (Aa p):=by
 obtain ⟨hv,hb⟩:=Bt hw
 have hV:=valid hv
 have hn:=hV.n
 exact qf hV (Yu hv) (ny hv (by rw [Qs];omega) (λy hy=>by have:=Jf.1 hy;omega) hb)
theorem sx {p:PP} (hw:Bz p=true):nc p.2.2.1 (Ae p.2.2.1.length) (Aa p) (Aj p):=by
 obtain ⟨hv,hb⟩:=Bt hw
 have hn:=(valid hv).n
 exact ny hv (by rw [Qs];omega) (λy hy=>by have:=Jf.1 hy;omega) hb
theorem AK {p:PP} (hw:Bz p=true) {i:Nat} (hi:i<(Aa p).length) {l:Int} (hl:l∈Ae p.2.2.1.length):
  (Aa p).idxOf (Ab ((Aa p).getD i []) (Af p.2.2.1 l))<(Aa p).length/\
  (Aa p).getD ((Aa p).idxOf (Ab ((Aa p).getD i []) (Af p.2.2.1 l))) []=Ab ((Aa p).getD i []) (Af p.2.2.1 l):=by
 have hm:=(Lj hw).next _ (Ib hi) l hl
 have h1:=List.idxOf_lt_length_of_mem hm
 exact ⟨h1,by rw [Bu h1];exact List.getElem_idxOf h1⟩
theorem Xs {p:PP} (hw:Bz p=true):ay (Dc p) (Aa p).length:= λi hi t ht=>by
 obtain ⟨l,hl,rfl⟩:=List.mem_map.1 ht
 have:=(AK hw hi hl).1
 omega
theorem uS {p:PP} (hw:Bz p=true) (Q:List Int->Prop) (hQ: ∀x∈Aa p,Q x-> ∀l∈Ae p.2.2.1.length,Q (Ab x (Af p.2.2.1 l))) {x:List Int} (hx:x∈Aa p) (hq:Q x):
  ∀y∈Aa p,Q y:=by
 have hc:=Lj hw
 have hL:=sx hw
 have up: ∀(j:Nat),j<(Aa p).length->Q ((Aa p).getD j [])->Q ((Aa p).getD 0 []):=by
  intro j
  induction j using Nat.strongRecOn with
  |_ j ih=>
   intro hj hqj
   by_cases e:j=0
   ·subst e;exact hqj
   ·obtain ⟨i,l,h1,h2,h3,_⟩:=hL.par j (by omega) hj
    have hi:i<(Aa p).length:=by omega
    obtain ⟨b1,b2⟩:=hc.back _ (Ib hi) l h2
    refine ih i h1 hi ?_
    have:=hQ _ (Ib hj) hqj _ b1
    rwa [h3,b2] at this
 have down:Q ((Aa p).getD 0 [])-> ∀(j:Nat),j<(Aa p).length->Q ((Aa p).getD j []):=by
  intro h0 j
  induction j using Nat.strongRecOn with
  |_ j ih=>
   intro hj
   by_cases e:j=0
   ·subst e;exact h0
   ·obtain ⟨i,l,h1,h2,h3,_⟩:=hL.par j (by omega) hj
    have hi:i<(Aa p).length:=by omega
    rw [h3]
    exact hQ _ (Ib hi) (ih i h1 hi) l h2
 obtain ⟨j,hj,rfl⟩:=List.mem_iff_getElem.1 hx
 rw [<-Bu (d:= []) hj] at hq
 intro y hy
 obtain ⟨k,hk,rfl⟩:=List.mem_iff_getElem.1 hy
 rw [<-Bu (d:= []) hk]
 exact down (up j hj hq) k hk
theorem RH {p:PP} (hw:Bz p=true) (S:Nat->Bool) {i0:Nat} (VE:i0<(Aa p).length) (hS:S i0=true):
  Ip p.2.2.1 (Ae p.2.2.1.length) (Aa p) (λx=>S ((Aa p).idxOf x)=true) (λx=>(cj (Dc p) S (Aa p).length).getD ((Aa p).idxOf x) 0):=by
 have hd:=UL (S:=S) (Xs hw)
 have q9:=(sy hw).nodup
 have hc:=Lj hw
 have ix: ∀ {x:List Int},x∈Aa p->(Aa p).idxOf x<(Aa p).length/\(Aa p).getD ((Aa p).idxOf x) []=x:= λ {x} hx=>by
  have h1:=List.idxOf_lt_length_of_mem hx
  exact ⟨h1,by rw [Bu h1];exact List.getElem_idxOf h1⟩
 have st: ∀x∈Aa p,0<=(cj (Dc p) S (Aa p).length).getD ((Aa p).idxOf x) 0-> ∀l∈Ae p.2.2.1.length,
   0<=(cj (Dc p) S (Aa p).length).getD ((Aa p).idxOf (Ab x (Af p.2.2.1 l))) 0/\
   (cj (Dc p) S (Aa p).length).getD ((Aa p).idxOf (Ab x (Af p.2.2.1 l))) 0<=(cj (Dc p) S (Aa p).length).getD ((Aa p).idxOf x) 0+1:= λx hx h0 l hl=>by
  obtain ⟨i1,i2⟩:=ix hx
  have:=hd.done _ i1 h0 (by simp) (λh=>h) (((Aa p).idxOf (Ab x (Af p.2.2.1 l)):Nat):Int) (List.mem_map.2 ⟨l,hl,by rw [i2]⟩)
  rwa [Int.toNat_natCast] at this
 have nn: ∀x∈Aa p,0<=(cj (Dc p) S (Aa p).length).getD ((Aa p).idxOf x) 0:=by
  refine uS hw _ (λx hx h0 l hl=>(st x hx h0 l hl).1) (Ib VE) ?_
  rw [Jn q9 VE,hd.src i0 VE hS]
  exact Int.le_refl _
 refine ⟨nn,λx hx=>⟨λh0=>hd.OP _ (ix hx).1 h0,λhs=>hd.src _ (ix hx).1 hs⟩,λx hx l hl=>(st x hx (nn x hx) l hl).2,λx hx h0=>?_⟩
 obtain ⟨j,j1,j2,j3⟩:=hd.par _ (ix hx).1 h0
 obtain ⟨l,hl,hlj⟩:=List.mem_map.1 j2
 obtain ⟨n1,n2⟩:=AK hw j1 hl
 have e:(Aa p).idxOf (Ab ((Aa p).getD j []) (Af p.2.2.1 l))=(Aa p).idxOf x:=by omega
 obtain ⟨b1,b2⟩:=hc.back _ (Ib j1) l hl
 rw [e,(ix hx).2] at n2
 refine ⟨-l,b1,?_⟩
 have e5:Ab x (Af p.2.2.1 (-l))=(Aa p).getD j []:=(congrArg (λz=>Ab z (Af p.2.2.1 (-l))) n2).trans b2
 rw [e5,Jn q9 j1,j3]
end Go.Proofs.Ytjbdmibbbpdnnaa

namespace Go.Proofs.Ytjbdmibbbpdnnaa
open Go.RowKit
noncomputable def xo (e:Option XP) (S:Nat->Bool):List Int:=match e with|some e=>cj (Dc e.1) S (Aa e.1).length|none=> []
abbrev tDs:Ty:= .clo 119 (.pair (.ptr tL) (.pair (.ptr tI) .unit))
noncomputable abbrev si:Spec:=Dg (.pair tI (.pair (.ptr tL) (.pair (.ptr tI) .unit))) .bool false true (λx=>(0<=x.1/\x.1<List.length x.2.1)/\0<=x.2.2.1/\x.2.2.1<List.length x.2.1) (λx=>decide (Bj x.2.1 x.1<Bj x.2.1 x.2.2.1))
noncomputable abbrev kL:Spec:=Dg (.pair tL (.pair tDs .unit)) tI false true (λx=>short x.1/\Ny (List.length x.2.1.1) x.1/\0<=x.2.1.2.1/\x.2.1.2.1<List.length x.2.1.1) (λx=>Db (λy=>decide (Bj x.2.1.1 y<Bj x.2.1.1 x.2.1.2.1)) x.1 0)
def Ox (N:Nat->List Int) (ls d:List Int):Nat->Int->List Int->List Int×Int
 |0,i,w=>(w,i)
 |f+1,i,w=>if 0<Bj d i then Ox N ls d f ((N i.toNat).getD (Db (λy=>decide (Bj d y<Bj d i)) (N i.toNat) 0).toNat 0) (w++ [ls.getD (Db (λy=>decide (Bj d y<Bj d i)) (N i.toNat) 0).toNat 0]) else (w,i)
noncomputable def Hv (p:PP) (d:List Int) (i:Int):List Int×Int×Bool×Unit:=
 if Bj d i>200 then ([],0,false,()) else ((Ox (Dc p) (Ae p.2.2.1.length) d (Bj d i).toNat i []).1,(Ox (Dc p) (Ae p.2.2.1.length) d (Bj d i).toNat i []).2,true,())
noncomputable def tX (e:Option XP) (d:List Int) (i:Int):(List Int×Int×Bool×Unit)×Unit:=match e with|some e=>(Hv e.1 d i,())|none=>(([],0,false,()),())
structure z9 (p:PP) (d:List Int):Prop where
 len:d.length=(Aa p).length
 nn: ∀i,i<d.length->0<=d.getD i 0
 dn: ∀i,i<d.length->0<d.getD i 0-> ∃t∈Dc p i,d.getD t.toNat 0<d.getD i 0
noncomputable abbrev Rz:MSpec:=Yp [none,none,none] [(false, .Dy (.optr c6)),(false, .Dy tL),(false, .Dy tI)] true [none,none,none] [rL, .Dy tI, .Dy .bool]
 (λx=> ∃e':XP,x.1=some e'/\jK e'/\z9 e'.1 x.2.1/\0<=x.2.2.1/\x.2.2.1<List.length x.2.1) (λx=>tX x.1 x.2.1 x.2.2.1)
theorem Aev (y:Int) (d:List Int) (i:Int) (P:Bool->Prop):(∃(y4:Int),idx d y=some y4/\ ∃(y5:Int),idx d i=some y5/\P (decide (y4<y5)))=fnW Da (look []) si Try.f119 (y,d,i,()) P:=by kernel_rfl
theorem Aal (xs:List Int) (c:List Int×Int×Unit) (P:Int->Prop):(Bo (λ(v3:Int×PUnit) (k4:Int×PUnit->Prop)=>Br (decide (v3.1<(↑xs.length:Int))) (∃(y5:Int),idx xs v3.1=some y5/\ ∃(y6:Bool),si.fn (y5,c.1,c.2.1,())=some y6/\Br y6 (P v3.1) (k4 (IntKind.i64.wrap (v3.1+(1:Int)),()))) (P (-1:Int))) ((0:Int),PUnit.unit))=fnW Da (look [(119,si)]) kL Try.f118 (xs,c,()) P:=by kernel_rfl
abbrev hJ:Type:=(Int×ByteArray×List (List Int)×PUnit)×List (List Int)×List Int×(ByteArray->Option Int)×List Int×List Int×List (List Int)×PUnit
theorem JK (e:Option XP) (d:List Int) (i:Int) (P:((List Int×Int×Bool×Unit)×Unit)->Prop):(∃(y4:Int),idx d i=some y4/\Br (decide (y4>(200:Int))) (P ((List.take 0 (List.drop 0 []),(0:Int),false,()),())) (∃(y5:hJ),e=some y5/\ ∃(y6:List Int),Gj.fn ((↑y5.1.2.2.1.length:Int),())=some y6/\0=0/\0=([]:List Int).length/\Bo (λ(v7:List Int×Int×List Int×PUnit) (k8:List Int×Int×List Int×PUnit->Prop)=> ∃(y9:Int),idx v7.1 v7.2.1=some y9/\Br (decide (y9>(0:Int))) (∃(Jv:hJ),e=some Jv/\ ∃(Im:List Int),idx Jv.2.2.2.2.2.2.1 v7.2.1=some Im/\ ∃(Tv:Int),kL.fn (Im,(v7.1,v7.2.1,()),())=some Tv/\ ∃(an:Int),idx y6 Tv=some an/\0=0/\v7.2.2.1.length=v7.2.2.1.length/\v7.2.2.1.length+(List.take 1 (List.drop 0 [an])).length<=Bm/\ ∃(Pu:hJ),e=some Pu/\ ∃(Vd:List Int),idx Pu.2.2.2.2.2.2.1 v7.2.1=some Vd/\ ∃(Xd:Int),idx Vd Tv=some Xd/\0=0/\(v7.2.2.1++List.take 1 (List.drop 0 [an])).length=(v7.2.2.1++List.take 1 (List.drop 0 [an])).length/\k8 (v7.1,Xd,v7.2.2.1++List.take 1 (List.drop 0 [an]),())) (P ((List.take v7.2.2.1.length (List.drop 0 v7.2.2.1),v7.2.1,true,()),()))) (d,i,[],PUnit.unit)))=fnMW Nq (look [(117,Gj),(118,kL)]) Rz Try.f67 (e,d,i,()) P:=by kernel_rfl
theorem Abx {e:XP} (h:jK e):e.2.1=Aa e.1:=(congrArg (λz:XP=>z.2.1) h.2).trans (er h.1).1
theorem LC {e:XP} (h:jK e):e.2.2.1=Aj e.1:=(congrArg (λz:XP=>z.2.2.1) h.2).trans (er h.1).2
theorem RI {e:XP} (h:jK e):e.2.2.2.2.2.2.1=(Aa e.1).map (og e.1.2.2.1 (Aa e.1)):=(congrArg (λz:XP=>z.2.2.2.2.2.2.1) h.2).trans (FZ h.1)
theorem DP {e:XP} (h:jK e) {i:Nat} (hi:i<(Aa e.1).length):idx e.2.2.2.2.2.2.1 (i:Int)=some (Dc e.1 i):=by
 rw [RI h,Au (by rw [List.length_map];exact hi),List.getElem_map]
 unfold Dc
 rw [Bu hi]
theorem dt (p:PP) (i:Nat):(Dc p i).length=(Ae p.2.2.1.length).length:=by unfold Dc og;rw [List.length_map]
theorem Pd {p:PP} (hV:Valid p):(Ae p.2.2.1.length).length<=16:=by rw [Ld];have:=hV.cn;omega
def JX (S:Nat->Bool) (i:Nat):List Int:=((List.range i).filter S).map λ(k:Nat)=>(k:Int)
theorem iB (S:Nat->Bool) (i:Nat):JX S (i+1)=if S i=true then JX S i++ [(i:Int)] else JX S i:=by
 unfold JX
 rw [List.range_succ,List.filter_append]
 by_cases h:S i=true
 ·rw [if_pos h];simp [h]
 ·rw [if_neg h];simp [h]
theorem DM (S:Nat->Bool) (i:Nat):(JX S i).length<=i:=by
 unfold JX
 rw [List.length_map]
 exact Nat.le_trans (List.length_filter_le _ _) (by simp)
theorem uE {xs:List Int} {i:Nat} {v:Int} {m:Nat} (hl:xs.length=m) (hi:i<m) {f g:Nat->Int} (h: ∀k,k<m->xs.getD k 0=f k) (hg:g i=v) (Et: ∀k,k≠i->g k=f k): ∀k,k<m->(xs.set i v).getD k 0=g k:= λk hk=>by
 rw [eA (by omega)]
 by_cases e:i=k
 ·subst e;rw [if_pos rfl,hg]
 ·rw [if_neg e,h k hk,Et k λe'=>e e'.symm]
theorem rP {xs ys:List Int} (h1:xs.length=ys.length) (h: ∀k,k<xs.length->xs.getD k 0=ys.getD k 0):xs=ys:=
 List.ext_getElem h1 λk h2 h3=>by have:=h k h2;rwa [Bu h2,Bu h3] at this
theorem GF {xs:List Int} {k:Nat} (h:k<xs.length):xs[0+((k:Nat):Int).toNat]?=some (xs.getD k 0):=by
 rw [Nat.zero_add,Int.toNat_natCast,List.getElem?_eq_getElem h,Bu h]
theorem Aeb (y:Int) (d:List Int) (i:Int) (h:(0<=y/\y<(List.length d:Int))/\0<=i/\i<(List.length d:Int)):fnW Da (look []) si Try.f119 (y,d,i,()) (λ(z:Bool)=>z=decide (Bj d y<Bj d i)):=
 Eq.mp (Aev y d i _) ⟨_,Jc h.1.1 h.1.2,_,Jc h.2.1 h.2.2,rfl⟩
theorem IN:Sound Try.prog 119 si:=
 Sound.Dg Cg As mixed Try.func119 (by kernel_rfl) (by kernel_rfl) λx h=>Aeb x.1 x.2.1 x.2.2.1 h
theorem ZQ (xs:List Int) (c:List Int×Int×Unit) (h:short xs/\Ny (List.length c.1) xs/\0<=c.2.1/\c.2.1<(List.length c.1:Int)):fnW Da (look [(119,si)]) kL Try.f118 (xs,c,()) (λ(z:Int)=>z=Db (λy=>decide (Bj c.1 y<Bj c.1 c.2.1)) xs 0):=by
 obtain ⟨h,h5,h6⟩:=h
 unfold short at h
 refine Eq.mp (Aal xs c _) ?_
 refine Ap xs.length (λv=>v.1) (λj _=>Db (λy=>decide (Bj c.1 y<Bj c.1 c.2.1)) (xs.drop j) j=Db (λy=>decide (Bj c.1 y<Bj c.1 c.2.1)) xs 0) rfl (by simp) ?_
 rintro j ⟨i,⟨⟩⟩ K hj hi hR hK
 dsimp only at hi⊢
 subst hi
 refine Br.dec (λhl=>?_) λhl=>?_
 ·have hl:j<xs.length:=by omega
  rw [List.drop_eq_getElem_cons hl] at hR
  simp only [Db] at hR
  refine ⟨_,Au hl,_,if_pos ⟨h5 _ (List.getElem_mem hl),h6⟩,⟨λhe=>?_,λhe=>?_⟩⟩
  ·have he:decide (Bj c.1 xs[j]<Bj c.1 c.2.1)=true:=he
   rw [if_pos he] at hR
   exact hR
  ·have he:decide (Bj c.1 xs[j]<Bj c.1 c.2.1)=false:=he
   rw [if_neg (by rw [he];decide)] at hR
   rw [Ak (by omega)]
   exact hK hl _ rfl (by push_cast;exact hR)
 ·have:j=xs.length:=by omega
  subst this
  rw [List.drop_length] at hR
  exact hR
theorem CA:Sound Try.prog 118 kL:=
 Sound.Dg Cg (Ah IN As) mixed Try.func118 (by kernel_rfl) (by kernel_rfl) λx h=>ZQ x.1 x.2.1 h
theorem eF {α:Type} {P:α->Bool} : ∀(l:List α) (i:Nat),l.any P=true-> ∃k,∃h:k<l.length,Db P l (i:Int)=((i+k:Nat):Int)/\P l[k]=true/\ ∀j (h:j<k),P (l[j]'(by omega))=false
 | [],i,h=>by simp at h
 |y::r,i,h=>by
  simp only [Db]
  by_cases hy:P y=true
  ·rw [if_pos hy]
   exact ⟨0,by simp,rfl,hy,λj hj=>absurd hj (Nat.not_lt_zero _)⟩
  ·rw [if_neg hy]
   have hr:r.any P=true:=by
    rw [List.any_cons,Bool.or_eq_true] at h
    exact h.resolve_left hy
   obtain ⟨k,hk,h1,h2,h3⟩:=eF r (i+1) hr
   refine ⟨k+1,by simpa using hk,?_,h2,λj hj=>?_⟩
   ·rw [show ((i:Int)+1)=((i+1:Nat):Int) by push_cast;rfl,h1]
    congr 1
    omega
   ·cases j with
    |zero=>exact Bool.not_eq_true _|>.mp hy
    |succ j=>exact h3 j (by omega)
theorem DK {p:PP} (hw:Bz p=true) {d:List Int} (h:z9 p d) {i:Nat} (hi:i<d.length) (hp:0<d.getD i 0):
  ∃k,∃(h1:k<(Ae p.2.2.1.length).length) (h2:k<(Dc p i).length),Db (λy=>decide (Bj d y<Bj d (i:Int))) (Dc p i) 0=(k:Int)/\
   ∃t:Nat,(Dc p i)[k]=(t:Int)/\t<d.length/\d.getD t 0<d.getD i 0:=by
 obtain ⟨t,ht,YS⟩:=h.dn i hi hp
 have LJ:(Dc p i).any (λy=>decide (Bj d y<Bj d (i:Int)))=true:=List.any_eq_true.2 ⟨t,ht,decide_eq_true YS⟩
 obtain ⟨k,hk,h1,h2,_⟩:=eF (Dc p i) 0 LJ
 have hl:=h.len
 obtain ⟨r1,r2⟩:=Xs hw i (by omega) _ (List.getElem_mem hk)
 obtain ⟨tn,YT⟩:=Int.eq_ofNat_of_zero_le r1
 refine ⟨k,by rw [<-dt];exact hk,hk,by rw [Nat.zero_add] at h1;exact h1,tn,YT,by omega,?_⟩
 have h2:=of_decide_eq_true h2
 unfold Bj at h2
 rw [YT,Int.toNat_natCast,Int.toNat_natCast] at h2
 exact h2
theorem HS (e:Option XP) (d:List Int) (i:Int) (h: ∃e':XP,e=some e'/\jK e'/\z9 e'.1 d/\0<=i/\i<(List.length d:Int)):
  fnMW Nq (look [(117,Gj),(118,kL)]) Rz Try.f67 (e,d,i,()) (λ(z:(List Int×Int×Bool×Unit)×Unit)=>z=tX e d i):=by
 obtain ⟨e',rfl,hx,hd,h1,h2⟩:=h
 have SN:=Bt hx.1
 have hV:=valid SN.1
 have hf:=hV.cn
 have hdl:=hd.len
 refine Eq.mp (JK _ _ _ _) ⟨_,Jc h1 h2,?_⟩
 show Br _ (_=(Hv e'.1 d i,())) _
 unfold tX Hv
 dsimp only
 refine Br.dec (λhb=>by rw [if_pos hb];rfl) λhb=>?_
 rw [if_neg hb]
 refine ⟨e',rfl,Ae e'.1.2.2.1.length,(if_pos ⟨by show (0:Int)<=((e'.1.2.2.1.length:Nat):Int);omega,by show ((e'.1.2.2.1.length:Nat):Int)<=8;omega⟩).trans (congrArg some (by show Ae (((e'.1.2.2.1.length:Nat):Int)).toNat=_;rw [Int.toNat_natCast])),rfl,rfl,?_⟩
 have VN: ∀k:Nat,k<d.length->0<=Bj d (k:Int):= λk hk=>by unfold Bj;rw [Int.toNat_natCast];exact hd.nn k hk
 obtain ⟨R,hRR⟩: ∃R,Ox (Dc e'.1) (Ae e'.1.2.2.1.length) d (Bj d i).toNat i []=R:=⟨_,rfl⟩
 rw [hRR]
 obtain ⟨i0,rfl⟩:=Int.eq_ofNat_of_zero_le h1
 refine Bo.mk (λv=> ∃(k:Nat) (w:List Int) (f:Nat),v=(d,(k:Int),w,())/\k<d.length/\Bj d (k:Int)<=f/\w.length+f<=200/\Ox (Dc e'.1) (Ae e'.1.2.2.1.length) d f (k:Int) w=R) (λv=>(Bj d v.2.1).toNat)
  ⟨i0,[],(Bj d (i0:Int)).toNat,rfl,by omega,by omega,by have:=VN i0 (by omega);simp only [List.length_nil];omega,hRR⟩ ?_
 rintro v ⟨k,w,f,rfl,k1,k2,k3,k4⟩
 dsimp only
 refine ⟨Bj d (k:Int),Jc (by omega) (by omega),Br.dec (λhl=>?_) λhl=>?_⟩
 ·have Hl:0<d.getD k 0:=by unfold Bj at hl;rwa [Int.toNat_natCast] at hl
  obtain ⟨f,rfl⟩: ∃f',f=f'+1:=⟨f-1,by omega⟩
  obtain ⟨n,n1,n2,n3,t,n4,n5,n6⟩:=DK hx.1 hd k1 Hl
  simp only [Ox] at k4
  rw [if_pos hl,Int.toNat_natCast,n3,Int.toNat_natCast,Bu n2,n4,Bu n1] at k4
  have hnl:(Dc e'.1 k).length<=16:=by rw [dt];exact Pd hV
  have Ai3:Ny d.length (Dc e'.1 k):= λy hy=>by
   have:=Xs hx.1 k (by omega) y hy
   omega
  refine ⟨e',rfl,Dc e'.1 k,DP hx (by omega),(n:Int),(if_pos ⟨by show (Dc e'.1 k).length<=4294967296;omega,Ai3,by show (0:Int)<=(k:Int);omega,by show (k:Int)<(d.length:Int);omega⟩).trans (congrArg some n3),_,Au n1,rfl,rfl,?_,e',rfl,Dc e'.1 k,DP hx (by omega),(t:Int),by rw [Au n2,n4],rfl,rfl,?_⟩
  ·show w.length+1<=4294967296;omega
  ·have e6:Bj d (t:Int)<Bj d (k:Int):=by unfold Bj;rw [Int.toNat_natCast,Int.toNat_natCast];exact n6
   have h0:=VN t n5
   refine ⟨⟨t,w++ [(Ae e'.1.2.2.1.length)[n]],f,rfl,n5,by omega,by rw [List.length_append,List.length_singleton];omega,k4⟩,?_⟩
   show (Bj d (t:Int)).toNat<(Bj d (k:Int)).toNat
   omega
 ·rw [Ax]
  have:Ox (Dc e'.1) (Ae e'.1.2.2.1.length) d f (k:Int) w=(w,(k:Int)):=by
   cases f with
   |zero=>rfl
   |succ f=>simp only [Ox];rw [if_neg (by omega)]
  rw [this] at k4
  subst k4
  rfl
theorem qG:Bq Try.prog 67 Rz:=
 Bq.Yp Mk (Ah Sy (Ah CA As)) mixed Try.func67 (by kernel_rfl) (by kernel_rfl) λx h=>HS x.1 x.2.1 x.2.2.1 h
end Go.Proofs.Ytjbdmibbbpdnnaa

namespace Go.Proofs.Ytjbdmibbbpdnnaa
open Go.RowKit
theorem ll {p:PP} (hv:Ba p=true):(Aa p).getD 0 []=upto p.1.toNat/\upto p.1.toNat∈Aa p:=by
 obtain ⟨A,h⟩:=(Wm hv).first
 have h:Aa p=upto p.1.toNat::A:=h
 rw [h]
 exact ⟨rfl,by simp⟩
theorem Ip.congr {g:List (List Int)} {ls:List Int} {L:List (List Int)} {S S':List Int->Prop} {d:List Int->Int} (h:Ip g ls L S d) (e: ∀x∈L,S x↔S' x):Ip g ls L S' d:=
 ⟨h.nn,λx hx=>(h.zero x hx).trans (e x hx),h.step,h.down⟩
theorem sU {p:PP} (hw:Bz p=true) {S:List Int->Prop} {d:List Int} (hl:d.length=(Aa p).length) (h:Ip p.2.2.1 (Ae p.2.2.1.length) (Aa p) S (λx=>d.getD ((Aa p).idxOf x) 0)):z9 p d:=by
 have q9:=(sy hw).nodup
 refine ⟨hl,λi hi=>?_,λi hi h0=>?_⟩
 ·have:=h.nn _ (Ib (show i<(Aa p).length by omega))
  rwa [Jn q9 (by omega)] at this
 ·have cX:i<(Aa p).length:=by omega
  obtain ⟨l,h1,h2⟩:=h.down _ (Ib cX) (by rw [Jn q9 cX];exact h0)
  rw [Jn q9 cX] at h2
  refine ⟨_,List.mem_map.2 ⟨l,h1,rfl⟩,?_⟩
  rw [Int.toNat_natCast,h2]
  omega
def Xb (g:List (List Int)) (dep:List Int->Int) (ls:List Int):Nat->List Int->List Int->List Int×List Int
 |0,x,w=>(w,x)
 |n+1,x,w=>match ls.find? (λl=>decide (dep (Ab x (Af g l))=n)) with
  |some l=>Xb g dep ls n (Ab x (Af g l)) (w++ [l])
  |none=>Xb g dep ls n x w
theorem DR {α:Type} {P:α->Bool} : ∀(l:List α) (k:Nat) (h:k<l.length),P l[k]=true->(∀j (hj:j<k),P (l[j]'(by omega))=false)->l.find? P=some l[k]
 | [],k,h,_,_=>by simp at h
 |y::r,0,_,h1,_=>by rw [List.find?_cons_of_pos (show P y=true from h1)];rfl
 |y::r,k+1,h,h1,h2=>by
  rw [List.find?_cons_of_neg (by have:=h2 0 (by omega);simp at this;simp [this])]
  exact DR r k (by simpa using h) h1 λj hj=>h2 (j+1) (by omega)
theorem sW {p:PP} (hw:Bz p=true) {S:List Int->Prop} {d:List Int} (QI:z9 p d) (hd:Ip p.2.2.1 (Ae p.2.2.1.length) (Aa p) S (λx=>d.getD ((Aa p).idxOf x) 0))
  {see:List Int->List Int} {dep:List Int->Int} (hs: ∀x∈Aa p,∀l∈Ae p.2.2.1.length,see (Ab x (Af p.2.2.1 l))=Ab (see x) (Af p.2.2.1 l))
  (he: ∀x∈Aa p,d.getD ((Aa p).idxOf x) 0=dep (see x)):
  ∀(n i:Nat) (w:List Int),i<(Aa p).length->d.getD i 0=n->
   (Ox (Dc p) (Ae p.2.2.1.length) d n (i:Int) w).1=(Xb p.2.2.1 dep (Ae p.2.2.1.length) n (see ((Aa p).getD i [])) w).1/\
   (Ox (Dc p) (Ae p.2.2.1.length) d n (i:Int) w).1.length=w.length+n/\
   ∃j:Nat,(Ox (Dc p) (Ae p.2.2.1.length) d n (i:Int) w).2=(j:Int)/\j<(Aa p).length/\d.getD j 0=0/\see ((Aa p).getD j [])=(Xb p.2.2.1 dep (Ae p.2.2.1.length) n (see ((Aa p).getD i [])) w).2
 |0,i,w,hi,e=>⟨rfl,rfl,i,rfl,hi,e,rfl⟩
 |n+1,i,w,hi,e=>by
  have q9:=(sy hw).nodup
  have hl:=QI.len
  have kh:0<d.getD i 0:=by omega
  have hg:Bj d (i:Int)=d.getD i 0:=by unfold Bj;rw [Int.toNat_natCast]
  obtain ⟨t0,MG,YS⟩:=QI.dn i (by omega) kh
  have LJ:(Dc p i).any (λy=>decide (Bj d y<Bj d (i:Int)))=true:=List.any_eq_true.2 ⟨t0,MG,decide_eq_true YS⟩
  obtain ⟨k,hk,k1,k2,k3⟩:=eF (Dc p i) 0 LJ
  have k1:Db (λy=>decide (Bj d y<Bj d (i:Int))) (Dc p i) 0=(k:Int):=by rw [Nat.zero_add] at k1;exact k1
  have Hx:k<(Ae p.2.2.1.length).length:=by rw [<-dt p i];exact hk
  have hx:=Ib (L:=Aa p) hi
  have RQ: ∀j (hj:j<(Ae p.2.2.1.length).length),∃h2:j<(Dc p i).length,(Dc p i)[j]=(((Aa p).idxOf (Ab ((Aa p).getD i []) (Af p.2.2.1 (Ae p.2.2.1.length)[j])):Nat):Int):= λj hj=>
   ⟨by rw [dt];exact hj,by simp only [Dc,og,List.getElem_map]⟩
  have mo: ∀j (hj:j<(Ae p.2.2.1.length).length) (h2:j<(Dc p i).length),decide (Bj d (Dc p i)[j]<Bj d (i:Int))=decide (dep (Ab (see ((Aa p).getD i [])) (Af p.2.2.1 (Ae p.2.2.1.length)[j]))=n):= λj hj h2=>by
   obtain ⟨_,h3⟩:=RQ j hj
   have nZ:=List.getElem_mem hj
   have h4:=hd.HH (Lj hw) hx nZ
   rw [Jn q9 hi] at h4
   have h5:=he _ ((Lj hw).next _ hx _ nZ)
   rw [hs _ hx _ nZ] at h5
   rw [h3,hg,<-h5]
   unfold Bj
   rw [Int.toNat_natCast,Bool.eq_iff_iff,decide_eq_true_iff,decide_eq_true_iff]
   omega
  have EC:(Ae p.2.2.1.length).find? (λl=>decide (dep (Ab (see ((Aa p).getD i [])) (Af p.2.2.1 l))=n))=some (Ae p.2.2.1.length)[k]:=by
   refine DR _ k Hx ?_ λj hj=>?_
   ·rw [<-mo k Hx hk];exact k2
   ·rw [<-mo j (by omega) (by omega)];exact k3 j hj
  obtain ⟨_,jH⟩:=RQ k Hx
  have nZ:=List.getElem_mem Hx
  obtain ⟨n1,n2⟩:=AK hw hi nZ
  have eU:Bj d (i:Int)>0:=by rw [hg];exact kh
  simp only [Ox,Xb]
  rw [if_pos eU,Int.toNat_natCast,k1,Int.toNat_natCast,Bu hk,jH,Bu Hx,EC]
  dsimp only
  have hdk:d.getD ((Aa p).idxOf (Ab ((Aa p).getD i []) (Af p.2.2.1 (Ae p.2.2.1.length)[k]))) 0=n:=by
   have h6:=of_decide_eq_true ((mo k Hx hk).symm.trans k2)
   rw [he _ ((Lj hw).next _ hx _ nZ),hs _ hx _ nZ]
   exact h6
  obtain ⟨r1,r2,r3⟩:=sW hw QI hd hs he n _ (w++ [(Ae p.2.2.1.length)[k]]) n1 hdk
  rw [n2,hs _ hx _ nZ] at r1 r3
  refine ⟨r1,?_,r3⟩
  rw [r2,List.length_append,List.length_singleton]
  omega
end Go.Proofs.Ytjbdmibbbpdnnaa

namespace Go.Proofs.Ytjbdmibbbpdnnaa
open Go.RowKit
noncomputable abbrev Ph:Spec:=Dg (.pair Lt (.pair tL .unit)) tI false true (λx=>Cx (List.length x.2.1) x.1.1 x.1.2.2.1/\List.length x.1.2.1=List.length x.1.1) (λx=>Gy x.1.1 x.1.2.1 x.2.1)
def EW (w:List Int):List Int×Bool×Unit:=if w.length>200 then ([],false,()) else (w,true,())
theorem JJ (f:List (List Int)×List Int×List Int×Bool×Unit) (s:List Int) (P:Int->Prop):(∃(y3:Int),Em.fn ((f.1,f.2.1,f.2.2.1,f.2.2.2.1,()),s,())=some y3/\Br (decide (y3<(0:Int))) (P (-1:Int)) (∃(y4:Int),idx f.2.1 y3=some y4/\P y4))=fnW Da (look [(54,Em)]) Ph Try.f114 (f,s,()) P:=by kernel_rfl
theorem HR (f:SS) (s:List Int) (h:Cx (List.length s) f.1 f.2.2.1/\List.length f.2.1=List.length f.1):fnW Da (look [(54,Em)]) Ph Try.f114 (f,s,()) (λ(z:Int)=>z=Gy f.1 f.2.1 s):=by
 obtain ⟨h1,h2⟩:=h
 refine Eq.mp (JJ f s _) ⟨_,if_pos h1,?_⟩
 show Br (decide (Qf f.1 s<0)) _ _
 unfold Qf Gy
 by_cases hm:s∈f.1
 ·have hl:=List.idxOf_lt_length_of_mem hm
  rw [if_pos hm,if_pos hm]
  refine Br.dec (λhn=>absurd hn (by omega)) λ_=>?_
  have yX:List.idxOf s f.1<f.2.1.length:=by omega
  refine ⟨f.2.1[List.idxOf s f.1],?_,by rw [Bu yX]⟩
  show idx f.2.1 (if s∈f.1 then ((List.idxOf s f.1:Nat):Int) else-1)=_
  rw [if_pos hm]
  exact Au yX
 ·rw [if_neg hm,if_neg hm]
  exact ⟨λ_=>rfl,λhn=>by simp at hn⟩
theorem qF:Sound Try.prog 114 Ph:=
 Sound.Dg Cg (Ah Qp As) mixed Try.func114 (by kernel_rfl) (by kernel_rfl) λx h=>HR x.1 x.2.1 h
end Go.Proofs.Ytjbdmibbbpdnnaa

namespace Go.Proofs.Ytjbdmibbbpdnnaa
open Go.RowKit
def Wh (ls N d:List Int) (i:Int):List Int×List Int:=(((ls.zip N).filter (λq=>decide (Bj d q.2<Bj d i))).map Prod.fst,((ls.zip N).filter (λq=>decide (Bj d q.2<Bj d i))).map Prod.snd)
noncomputable def EV (e:Option XP) (i:Int):(List Int×List Int×Unit)×Unit:=match e with|some e=>(((Wh (Ae e.1.2.2.1.length) (Dc e.1 i.toNat) (Aj e.1) i).1,(Wh (Ae e.1.2.2.1.length) (Dc e.1 i.toNat) (Aj e.1) i).2,()),())|none=>(([],[],()),())
noncomputable abbrev Tq:MSpec:=Yp [none,none] [(false, .Dy (.optr c6)),(false, .Dy tI)] true [none,none] [rL,rL]
 (λx=> ∃e':XP,x.1=some e'/\jK e'/\0<=x.2.1/\x.2.1<(Aa e'.1).length) (λx=>EV x.1 x.2.1)
noncomputable def Rq (p:PP) (i:Int):List Int×Bool×Unit:=((Hv p (Aj p) i).1,(Hv p (Aj p) i).2.2.1,())
noncomputable def ND (e:Option XP) (i:Int):(List Int×Bool×Unit)×Unit:=match e with|some e=>(Rq e.1 i,())|none=>(([],false,()),())
noncomputable abbrev dM:MSpec:=Yp [none,none] [(false, .Dy (.optr c6)),(false, .Dy tI)] true [none,none] [rL, .Dy .bool]
 (λx=> ∃e':XP,x.1=some e'/\jK e'/\0<=x.2.1/\x.2.1<(Aa e'.1).length) (λx=>ND x.1 x.2.1)
def Ua (t:List Int) (l:Int):Int:=if l>0 then Bj t (l-1)+1 else-(Bj t (-l-1)+1)
noncomputable def eI (p:PP) (t s:List Int):List Int×Bool×Unit:=if s∈Aa (An p t) then ((Rq (An p t) (Ms (An p t) s).1).1.map (Ua t),(Rq (An p t) (Ms (An p t) s).1).2.1,()) else ([],false,())
noncomputable def xp (h:Option HP) (i:Int):(List Int×Bool×Unit)×Unit:=match h with
 |some (some e,t,_)=>(eI e.1 t ((Aa e.1).getD i.toNat []),())
 |_=>(([],false,()),())
noncomputable abbrev Xv:MSpec:=Yp [none,none] [(false, .Dy (.optr bx)),(false, .Dy tI)] true [none,none] [rL, .Dy .bool]
 (λx=> ∃p t,Ho p t=true/\x.1=some (Dn p t)/\0<=x.2.1/\x.2.1<(Aa p).length) (λx=>xp x.1 x.2.1)
noncomputable def Wi (p:PP) (s:List Int):List Int:=(Xb p.2.2.1 (Gy (Aa p) (Aj p)) (Ae p.2.2.1.length) (Gy (Aa p) (Aj p) s).toNat s []).1
noncomputable abbrev bn:MSpec:=Yp [some 3,some 4,none] [(false, .Dy tI),(false, .Dy .str),(false, .Dy hY),(false, .Dy hY),(false, .Dy tL),(false, .Dy tL),(false, .Dy .bool),(false, .Dy tL)] false [none] [rL]
 (λx=>Bz (x.1,x.2.1,x.2.2.1,())=true/\(x.2.2.2.1,x.2.2.2.2.1,x.2.2.2.2.2.1,x.2.2.2.2.2.2.1,())=Ai x.2.2.1 (upto x.1.toNat)/\x.2.2.2.2.2.2.2.1∈Aa (x.1,x.2.1,x.2.2.1,())) (λx=>((Wi (x.1,x.2.1,x.2.2.1,()) x.2.2.2.2.2.2.2.1,()),()))
noncomputable def Kx (p:PP) (t s:List Int):List Int:=(Wi (An p t) s).map (Ua t)
noncomputable abbrev Wq:Spec:=Dg (.pair Co (.pair tL (.pair Lt (.pair tL .unit)))) tL false true (λx=>Cn x.1/\Ho x.1 x.2.1=true/\x.2.2.1=Ai (An x.1 x.2.1).2.2.1 (upto x.1.1.toNat)/\x.2.2.2.1∈Aa (An x.1 x.2.1)) (λx=>Kx x.1 x.2.1 x.2.2.2.1)
noncomputable abbrev Rw:Spec:=Dg (.pair Co (.pair tL (.pair tI .unit))) tL false false (λx=>Ba x.1=true/\List.length x.2.1<=20/\(∀y∈x.2.1,0<=y/\y<x.1.1)/\Dh (List.length x.1.2.2.1) x.2.2.1) (λx=>Ab x.2.1 (Af x.1.2.2.1 x.2.2.1))
abbrev eQ:Type:=(Int×ByteArray×List (List Int)×PUnit)×List (List Int)×List Int×(ByteArray->Option Int)×List Int×List Int×List (List Int)×PUnit
theorem PR (e:Option XP) (i:Int) (P:((List Int×List Int×Unit)×Unit)->Prop):(∃(y3:eQ),e=some y3/\ ∃(y4:List Int),Gj.fn ((↑y3.1.2.2.1.length:Int),())=some y4/\ ∃(y5:eQ),e=some y5/\ ∃(y6:List Int),idx y5.2.2.2.2.2.2.1 i=some y6/\0=0/\0=([]:List Int).length/\0=0/\0=([]:List Int).length/\Bo (λ(v7:Int×List Int×List Int×PUnit) (k8:Int×List Int×List Int×PUnit->Prop)=>Br (decide (v7.1<(↑y6.length:Int))) (∃(y9:Int),idx y6 v7.1=some y9/\ ∃(Jv:eQ),e=some Jv/\ ∃(Im:Int),idx Jv.2.2.1 y9=some Im/\ ∃(Tv:eQ),e=some Tv/\ ∃(an:Int),idx Tv.2.2.1 i=some an/\Br (decide (Im<an)) (∃(Pu:Int),idx y4 v7.1=some Pu/\0=0/\v7.2.1.length=v7.2.1.length/\v7.2.1.length+(List.take 1 (List.drop 0 [Pu])).length<=Bm/\0=0/\v7.2.2.1.length=v7.2.2.1.length/\v7.2.2.1.length+(List.take 1 (List.drop 0 [y9])).length<=Bm/\0=0/\(v7.2.1++List.take 1 (List.drop 0 [Pu])).length=(v7.2.1++List.take 1 (List.drop 0 [Pu])).length/\0=0/\(v7.2.2.1++List.take 1 (List.drop 0 [y9])).length=(v7.2.2.1++List.take 1 (List.drop 0 [y9])).length/\k8 (IntKind.i64.wrap (v7.1+(1:Int)),v7.2.1++List.take 1 (List.drop 0 [Pu]),v7.2.2.1++List.take 1 (List.drop 0 [y9]),())) (0=0/\v7.2.1.length=v7.2.1.length/\0=0/\v7.2.2.1.length=v7.2.2.1.length/\k8 (IntKind.i64.wrap (v7.1+(1:Int)),v7.2.1,v7.2.2.1,()))) (P ((List.take v7.2.1.length (List.drop 0 v7.2.1),List.take v7.2.2.1.length (List.drop 0 v7.2.2.1),()),()))) ((0:Int),[],[],PUnit.unit))=fnMW Nq (look [(117,Gj)]) Tq Try.f146 (e,i,()) P:=by kernel_rfl
abbrev FL:Type:=(Int×ByteArray×List (List Int)×PUnit)×List (List Int)×List Int×(ByteArray->Option Int)×List Int×List Int×List (List Int)×PUnit
theorem Aap (e:Option XP) (i:Int) (P:((List Int×Bool×Unit)×Unit)->Prop):(∃(y3:FL),e=some y3/\ ∃(y4:Int),idx y3.2.2.1 i=some y4/\Br (decide (y4>(200:Int))) (P ((List.take 0 (List.drop 0 []),false,()),())) (0=0/\0=([]:List Int).length/\Bo (λ(v5:Int×List Int×PUnit) (k6:Int×List Int×PUnit->Prop)=> ∃(y7:FL),e=some y7/\ ∃(y8:Int),idx y7.2.2.1 v5.1=some y8/\Br (decide (y8>(0:Int))) (∃(y9:(List Int×List Int×PUnit)×PUnit),Tq.fn (e,v5.1,())=some y9/\((0:Int)<=(0:Int)/\(0:Int)<(↑y9.1.1.length:Int))/\ ∃(Jv:Int),y9.1.1[0+Int.toNat (0:Int)]?=some Jv/\0=0/\v5.2.1.length=v5.2.1.length/\v5.2.1.length+(List.take 1 (List.drop 0 [Jv])).length<=Bm/\((0:Int)<=(0:Int)/\(0:Int)<(↑y9.1.2.1.length:Int))/\ ∃(Im:Int),y9.1.2.1[0+Int.toNat (0:Int)]?=some Im/\0=0/\(v5.2.1++List.take 1 (List.drop 0 [Jv])).length=(v5.2.1++List.take 1 (List.drop 0 [Jv])).length/\k6 (Im,v5.2.1++List.take 1 (List.drop 0 [Jv]),())) (P ((List.take v5.2.1.length (List.drop 0 v5.2.1),true,()),()))) (i,[],PUnit.unit)))=fnMW Nq (look [(146,Tq)]) dM Try.f109 (e,i,()) P:=by kernel_rfl
abbrev dZ:Type:=Option ((Int×ByteArray×List (List Int)×PUnit)×List (List Int)×List Int×(ByteArray->Option Int)×List Int×List Int×List (List Int)×PUnit)×List Int×Option ((Int×ByteArray×List (List Int)×PUnit)×List (List Int)×List Int×(ByteArray->Option Int)×List Int×List Int×List (List Int)×PUnit)×PUnit
theorem UD (h:Option HP) (i:Int) (P:((List Int×Bool×Unit)×Unit)->Prop):(∃(y3:dZ),h=some y3/\ ∃(y4:dZ),h=some y4/\ ∃(y5:(Int×ByteArray×List (List Int)×PUnit)×List (List Int)×List Int×(ByteArray->Option Int)×List Int×List Int×List (List Int)×PUnit),y4.1=some y5/\ ∃(y6:List Int),idx y5.2.1 i=some y6/\ ∃(y7:Int×Bool×PUnit),Sa.fn (y3.2.2.1,y6,())=some y7/\Br (!y7.2.1) (P ((List.take 0 (List.drop 0 []),false,()),())) (∃(y8:dZ),h=some y8/\ ∃(y9:(List Int×Bool×PUnit)×PUnit),dM.fn (y8.2.2.1,y7.1,())=some y9/\Br (!y9.1.2.1) (P ((List.take 0 (List.drop 0 []),false,()),())) (0=0/\y9.1.1.length=y9.1.1.length/\0=0/\y9.1.1.length=y9.1.1.length/\Bo (λ(v10:Int×List Int×PUnit) (k11:Int×List Int×PUnit->Prop)=>Br (decide (v10.1<(↑y9.1.1.length:Int))) (((0:Int)<=v10.1/\v10.1<(↑v10.2.1.length:Int))/\ ∃(Tv:Int),v10.2.1[0+v10.1.toNat]?=some Tv/\Br (decide (Tv>(0:Int))) (∃(an:dZ),h=some an/\ ∃(Pu:Int),idx an.2.1 (IntKind.i64.wrap (Tv-(1:Int)))=some Pu/\((0:Int)<=v10.1/\v10.1<(↑v10.2.1.length:Int))/\0+v10.1.toNat<v10.2.1.length/\0=0/\v10.2.1.length=(v10.2.1.set (0+v10.1.toNat) (IntKind.i64.wrap (Pu+(1:Int)))).length/\0=0/\v10.2.1.length=(v10.2.1.set (0+v10.1.toNat) (IntKind.i64.wrap (Pu+(1:Int)))).length/\k11 (IntKind.i64.wrap (v10.1+(1:Int)),v10.2.1.set (0+v10.1.toNat) (IntKind.i64.wrap (Pu+(1:Int))),())) (∃(an:dZ),h=some an/\ ∃(Pu:Int),idx an.2.1 (IntKind.i64.wrap (IntKind.i64.wrap ((0:Int)-Tv)-(1:Int)))=some Pu/\((0:Int)<=v10.1/\v10.1<(↑v10.2.1.length:Int))/\0+v10.1.toNat<v10.2.1.length/\0=0/\v10.2.1.length=(v10.2.1.set (0+v10.1.toNat) (IntKind.i64.wrap ((0:Int)-IntKind.i64.wrap (Pu+(1:Int))))).length/\0=0/\v10.2.1.length=(v10.2.1.set (0+v10.1.toNat) (IntKind.i64.wrap ((0:Int)-IntKind.i64.wrap (Pu+(1:Int))))).length/\k11 (IntKind.i64.wrap (v10.1+(1:Int)),v10.2.1.set (0+v10.1.toNat) (IntKind.i64.wrap ((0:Int)-IntKind.i64.wrap (Pu+(1:Int)))),()))) (P ((List.take v10.2.1.length (List.drop 0 v10.2.1),true,()),()))) ((0:Int),y9.1.1,PUnit.unit))))=fnMW Nq (look [(98,Sa),(109,dM)]) Xv Try.f61 (h,i,()) P:=by kernel_rfl
abbrev mT:Type:=List Int×Int×Int×ByteArray×List (List Int)×List (List Int)×List Int×List Int×Bool×List Int×PUnit
theorem Aag (n:Int) (str:ByteArray) (g L:List (List Int)) (D Hg:List Int) (b:Bool) (s:List Int) (P:((List Int×Unit)×Unit)->Prop):(∃(y9:List Int),Eh.fn ((n,str,g,()),())=some y9/\ ∃(Jv:Int),Ph.fn ((L,D,Hg,b,()),s,())=some Jv/\0=0/\0=([]:List Int).length/\Bo (λ(v11:mT) (WH:mT->Prop)=>Br (decide (v11.2.1>(0:Int))) (0=0/\v11.2.2.2.2.2.2.2.2.2.1.length=v11.2.2.2.2.2.2.2.2.2.1.length/\Bo (λ(Wv:mT) (k14:mT->Prop)=>Br (decide (Wv.2.1<(↑y9.length:Int))) (∃(Vd:Int),idx y9 Wv.2.1=some Vd/\ ∃(Xd:List Int),Rw.fn ((Wv.2.2.1,Wv.2.2.2.1,Wv.2.2.2.2.1,()),Wv.1,Vd,())=some Xd/\ ∃(pK:Int),Ph.fn ((Wv.2.2.2.2.2.1,Wv.2.2.2.2.2.2.1,Wv.2.2.2.2.2.2.2.1,Wv.2.2.2.2.2.2.2.2.1,()),Xd,())=some pK/\Br (pK==IntKind.i64.wrap (v11.2.1-(1:Int))) (∃(pP:Int),idx y9 Wv.2.1=some pP/\0=0/\Wv.2.2.2.2.2.2.2.2.2.1.length=Wv.2.2.2.2.2.2.2.2.2.1.length/\Wv.2.2.2.2.2.2.2.2.2.1.length+(List.take 1 (List.drop 0 [pP])).length<=Bm/\0=0/\(Wv.2.2.2.2.2.2.2.2.2.1++List.take 1 (List.drop 0 [pP])).length=(Wv.2.2.2.2.2.2.2.2.2.1++List.take 1 (List.drop 0 [pP])).length/\WH (Xd,IntKind.i64.wrap (v11.2.1-(1:Int)),Wv.2.2.1,Wv.2.2.2.1,Wv.2.2.2.2.1,Wv.2.2.2.2.2.1,Wv.2.2.2.2.2.2.1,Wv.2.2.2.2.2.2.2.1,Wv.2.2.2.2.2.2.2.2.1,Wv.2.2.2.2.2.2.2.2.2.1++List.take 1 (List.drop 0 [pP]),())) (0=0/\Wv.2.2.2.2.2.2.2.2.2.1.length=Wv.2.2.2.2.2.2.2.2.2.1.length/\k14 (Wv.1,IntKind.i64.wrap (Wv.2.1+(1:Int)),Wv.2.2.1,Wv.2.2.2.1,Wv.2.2.2.2.1,Wv.2.2.2.2.2.1,Wv.2.2.2.2.2.2.1,Wv.2.2.2.2.2.2.2.1,Wv.2.2.2.2.2.2.2.2.1,Wv.2.2.2.2.2.2.2.2.2.1,()))) (0=0/\Wv.2.2.2.2.2.2.2.2.2.1.length=Wv.2.2.2.2.2.2.2.2.2.1.length/\WH (Wv.1,IntKind.i64.wrap (v11.2.1-(1:Int)),Wv.2.2.1,Wv.2.2.2.1,Wv.2.2.2.2.1,Wv.2.2.2.2.2.1,Wv.2.2.2.2.2.2.1,Wv.2.2.2.2.2.2.2.1,Wv.2.2.2.2.2.2.2.2.1,Wv.2.2.2.2.2.2.2.2.2.1,()))) (v11.1,(0:Int),v11.2.2.1,v11.2.2.2.1,v11.2.2.2.2.1,v11.2.2.2.2.2.1,v11.2.2.2.2.2.2.1,v11.2.2.2.2.2.2.2.1,v11.2.2.2.2.2.2.2.2.1,v11.2.2.2.2.2.2.2.2.2.1,PUnit.unit)) (P ((List.take v11.2.2.2.2.2.2.2.2.2.1.length (List.drop 0 v11.2.2.2.2.2.2.2.2.2.1),()),()))) (s,Jv,n,str,g,L,D,Hg,b,[],PUnit.unit))=fnMW Nq (look [(96,Eh),(114,Ph),(115,Rw)]) bn Try.f108 (n,str,g,L,D,Hg,b,s,()) P:=by kernel_rfl
abbrev bw:Type:=Int×Int×ByteArray×List (List Int)×Int×ByteArray×Int×ByteArray×List (List Int)×List (List Int)×PUnit
abbrev Mt (v5:bw) (Im:(List Int×PUnit)×PUnit) (y9:(List Int×PUnit)×PUnit) (t:List Int) (y7:Int) (Jv:List Int) (y8:List Int):Prop:=0=0/\v5.2.2.2.2.2.2.2.2.2.1.length=v5.2.2.2.2.2.2.2.2.2.1.length/\v5.2.2.2.2.2.2.2.2.2.1.length+(List.take 1 (List.drop 0 [List.take Im.1.1.length (List.drop 0 Im.1.1)])).length<=Bm/\ [(0,(v5.2.2.2.2.2.2.2.2.2.1++List.take 1 (List.drop 0 [List.take Im.1.1.length (List.drop 0 Im.1.1)])).length),(0,v5.2.2.2.2.2.2.2.2.1.length),(0,(v5.2.2.2.2.2.2.2.2.2.1++List.take 1 (List.drop 0 [List.take Im.1.1.length (List.drop 0 Im.1.1)])).length)]= [(0,(v5.2.2.2.2.2.2.2.2.2.1++List.take 1 (List.drop 0 [List.take y9.1.1.length (List.drop 0 y9.1.1)])).length),(0,v5.2.2.2.2.2.2.2.2.1.length),(0,(v5.2.2.2.2.2.2.2.2.2.1++List.take 1 (List.drop 0 [List.take y9.1.1.length (List.drop 0 y9.1.1)])).length)]/\(t,v5.1,y7,v5.1,t,(↑t.length:Int),decide (v5.1<(↑t.length:Int)),t,v5.1,y7,y7,v5.2.2.2.2.2.2.2.1,v5.2.2.1,y7,y7,IntKind.i64.wrap (y7+(1:Int)),v5.2.2.1.extract y7.toNat (IntKind.i64.wrap (y7+(1:Int))).toNat,v5.2.2.2.2.2.2.2.1++v5.2.2.1.extract y7.toNat (IntKind.i64.wrap (y7+(1:Int))).toNat,v5.2.2.2.1,y7,Jv,Jv,List.take Im.1.1.length (List.drop 0 Im.1.1),List.take 1 (List.drop 0 [List.take Im.1.1.length (List.drop 0 Im.1.1)]),v5.2.1,v5.2.2.1,v5.2.2.2.1,v5.2.2.2.2.1,v5.2.2.2.2.2.1,v5.2.2.2.2.2.2.1,v5.2.2.2.2.2.2.2.1++v5.2.2.1.extract y7.toNat (IntKind.i64.wrap (y7+(1:Int))).toNat,v5.2.2.2.2.2.2.2.2.1,v5.2.2.2.2.2.2.2.2.2.1++List.take 1 (List.drop 0 [List.take Im.1.1.length (List.drop 0 Im.1.1)]),())=(t,v5.1,y7,v5.1,t,(↑t.length:Int),decide (v5.1<(↑t.length:Int)),t,v5.1,y7,y7,v5.2.2.2.2.2.2.2.1,v5.2.2.1,y7,y7,IntKind.i64.wrap (y7+(1:Int)),v5.2.2.1.extract y7.toNat (IntKind.i64.wrap (y7+(1:Int))).toNat,v5.2.2.2.2.2.2.2.1++v5.2.2.1.extract y7.toNat (IntKind.i64.wrap (y7+(1:Int))).toNat,v5.2.2.2.1,y7,y8,y8,List.take y9.1.1.length (List.drop 0 y9.1.1),List.take 1 (List.drop 0 [List.take y9.1.1.length (List.drop 0 y9.1.1)]),v5.2.1,v5.2.2.1,v5.2.2.2.1,v5.2.2.2.2.1,v5.2.2.2.2.2.1,v5.2.2.2.2.2.2.1,v5.2.2.2.2.2.2.2.1++v5.2.2.1.extract y7.toNat (IntKind.i64.wrap (y7+(1:Int))).toNat,v5.2.2.2.2.2.2.2.2.1,v5.2.2.2.2.2.2.2.2.2.1++List.take 1 (List.drop 0 [List.take y9.1.1.length (List.drop 0 y9.1.1)]),PUnit.unit)
theorem yM (n:Int) (str:ByteArray) (g:List (List Int)) (t:List Int) (P:((Int×ByteArray×List (List Int)×Unit)×Unit)->Prop):(0=0/\0=([]:List Int).length/\0=0/\0=([]:List Int).length/\Bo (λ(v5:bw) (k6:bw->Prop)=>Br (decide (v5.1<(↑t.length:Int))) (∃(y7:Int),idx t v5.1=some y7/\((0:Int)<=y7/\y7<=IntKind.i64.wrap (y7+(1:Int))/\IntKind.i64.wrap (y7+(1:Int))<=(↑v5.2.2.1.size:Int))/\v5.2.2.2.2.2.2.2.1.size+(v5.2.2.1.extract y7.toNat (IntKind.i64.wrap (y7+(1:Int))).toNat).size<=4294967296/\ ∃(y8:List Int),idx v5.2.2.2.1 y7=some y8/\ ∃(y9:(List Int×PUnit)×PUnit),Ga.fn (y8,())=some y9/\0=0/\v5.2.2.2.2.2.2.2.2.2.1.length=v5.2.2.2.2.2.2.2.2.2.1.length/\v5.2.2.2.2.2.2.2.2.2.1.length+(List.take 1 (List.drop 0 [List.take y9.1.1.length (List.drop 0 y9.1.1)])).length<=Bm/\(0=0/\v5.2.2.2.2.2.2.2.2.1.length=v5.2.2.2.2.2.2.2.2.1.length/\0=0/\(v5.2.2.2.2.2.2.2.2.2.1++List.take 1 (List.drop 0 [List.take y9.1.1.length (List.drop 0 y9.1.1)])).length=(v5.2.2.2.2.2.2.2.2.2.1++List.take 1 (List.drop 0 [List.take y9.1.1.length (List.drop 0 y9.1.1)])).length/\k6 (IntKind.i64.wrap (v5.1+(1:Int)),v5.2.1,v5.2.2.1,v5.2.2.2.1,v5.2.2.2.2.1,v5.2.2.2.2.2.1,v5.2.2.2.2.2.2.1,v5.2.2.2.2.2.2.2.1++v5.2.2.1.extract y7.toNat (IntKind.i64.wrap (y7+(1:Int))).toNat,v5.2.2.2.2.2.2.2.2.1,v5.2.2.2.2.2.2.2.2.2.1++List.take 1 (List.drop 0 [List.take y9.1.1.length (List.drop 0 y9.1.1)]),()))/\(∃(Jv:List Int),idx v5.2.2.2.1 y7=some Jv/\ ∃(Im:(List Int×PUnit)×PUnit),Ga.fn (Jv,())=some Im/\(Mt v5 Im y9 t y7 Jv y8))/\(∃(Jv:List Int),idx v5.2.2.2.1 y7=some Jv/\ ∃(Im:(List Int×PUnit)×PUnit),Ga.fn (Jv,())=some Im/\(Mt v5 Im y9 t y7 Jv y8))/\ ∃(Jv:List Int),idx v5.2.2.2.1 y7=some Jv/\(∃(Im:(List Int×PUnit)×PUnit),Ga.fn (Jv,())=some Im/\(Mt v5 Im y9 t y7 Jv y8))/\(∃(Im:(List Int×PUnit)×PUnit),Ga.fn (Jv,())=some Im/\(Mt v5 Im y9 t y7 Jv y8))/\ ∃(Im:(List Int×PUnit)×PUnit),Ga.fn (Jv,())=some Im/\((Mt v5 Im y9 t y7 Jv y8))/\(Mt v5 Im y9 t y7 Jv y8)) (P ((v5.2.2.2.2.2.2.1,v5.2.2.2.2.2.2.2.1,List.take v5.2.2.2.2.2.2.2.2.2.1.length (List.drop 0 v5.2.2.2.2.2.2.2.2.2.1),()),()))) ((0:Int),n,str,g,Int.ofNat (nat_lit 0), {data:= #[]},n, {data:= #[]},[],[],PUnit.unit))=fnMW Nq (look [(123,Ga)]) Jh Try.f102 (n,str,g,t,()) P:=by kernel_rfl
abbrev l4:Type:=(Int×ByteArray×List (List Int)×PUnit)×PUnit
theorem PW (p:Int×ByteArray×List (List Int)×Unit) (t:List Int) (f:List (List Int)×List Int×List Int×Bool×Unit) (s:List Int) (P:List Int->Prop):(((∃(y5:l4),Jh.fn (p.1,p.2.1,p.2.2.1,t,())=some y5/\ ∃(y6:(List Int×PUnit)×PUnit),bn.fn (y5.1.1,y5.1.2.1,List.take y5.1.2.2.1.length (List.drop 0 y5.1.2.2.1),f.1,f.2.1,f.2.2.1,f.2.2.2.1,s,())=some y6/\0=0/\y6.1.1.length=y6.1.1.length/\Bo (λ(v7:Int×List Int×PUnit) (k8:Int×List Int×PUnit->Prop)=>Br (decide (v7.1<(↑v7.2.1.length:Int))) (((0:Int)<=v7.1/\v7.1<(↑v7.2.1.length:Int))/\ ∃(y9:Int),v7.2.1[0+v7.1.toNat]?=some y9/\Br (decide (y9>(0:Int))) (((0:Int)<=v7.1/\v7.1<(↑v7.2.1.length:Int))/\ ∃(Jv:Int),v7.2.1[0+v7.1.toNat]?=some Jv/\ ∃(Im:Int),idx t (IntKind.i64.wrap (Jv-(1:Int)))=some Im/\((0:Int)<=v7.1/\v7.1<(↑v7.2.1.length:Int))/\0+v7.1.toNat<v7.2.1.length/\0=0/\v7.2.1.length=(v7.2.1.set (0+v7.1.toNat) (IntKind.i64.wrap (Im+(1:Int)))).length/\k8 (IntKind.i64.wrap (v7.1+(1:Int)),v7.2.1.set (0+v7.1.toNat) (IntKind.i64.wrap (Im+(1:Int))),())) (((0:Int)<=v7.1/\v7.1<(↑v7.2.1.length:Int))/\ ∃(Jv:Int),v7.2.1[0+v7.1.toNat]?=some Jv/\ ∃(Im:Int),idx t (IntKind.i64.wrap (IntKind.i64.wrap ((0:Int)-Jv)-(1:Int)))=some Im/\((0:Int)<=v7.1/\v7.1<(↑v7.2.1.length:Int))/\0+v7.1.toNat<v7.2.1.length/\0=0/\v7.2.1.length=(v7.2.1.set (0+v7.1.toNat) (IntKind.i64.wrap (IntKind.i64.wrap ((0:Int)-Im)-(1:Int)))).length/\k8 (IntKind.i64.wrap (v7.1+(1:Int)),v7.2.1.set (0+v7.1.toNat) (IntKind.i64.wrap (IntKind.i64.wrap ((0:Int)-Im)-(1:Int))),()))) (P (List.take v7.2.1.length (List.drop 0 v7.2.1)))) ((0:Int),y6.1.1,PUnit.unit))/\ ∃(y5:l4),Jh.fn (p.1,p.2.1,p.2.2.1,t,())=some y5/\ ∃(y6:(List Int×PUnit)×PUnit),bn.fn (y5.1.1,y5.1.2.1,List.take y5.1.2.2.1.length (List.drop 0 y5.1.2.2.1),f.1,f.2.1,f.2.2.1,f.2.2.2.1,s,())=some y6/\0=0/\y6.1.1.length=y6.1.1.length/\Bo (λ(v7:Int×List Int×PUnit) (k8:Int×List Int×PUnit->Prop)=>Br (decide (v7.1<(↑v7.2.1.length:Int))) (((0:Int)<=v7.1/\v7.1<(↑v7.2.1.length:Int))/\ ∃(y9:Int),v7.2.1[0+v7.1.toNat]?=some y9/\Br (decide (y9>(0:Int))) (((0:Int)<=v7.1/\v7.1<(↑v7.2.1.length:Int))/\ ∃(Jv:Int),v7.2.1[0+v7.1.toNat]?=some Jv/\ ∃(Im:Int),idx t (IntKind.i64.wrap (Jv-(1:Int)))=some Im/\((0:Int)<=v7.1/\v7.1<(↑v7.2.1.length:Int))/\0+v7.1.toNat<v7.2.1.length/\0=0/\v7.2.1.length=(v7.2.1.set (0+v7.1.toNat) (IntKind.i64.wrap (Im+(1:Int)))).length/\k8 (IntKind.i64.wrap (v7.1+(1:Int)),v7.2.1.set (0+v7.1.toNat) (IntKind.i64.wrap (Im+(1:Int))),())) (((0:Int)<=v7.1/\v7.1<(↑v7.2.1.length:Int))/\ ∃(Jv:Int),v7.2.1[0+v7.1.toNat]?=some Jv/\ ∃(Im:Int),idx t (IntKind.i64.wrap (IntKind.i64.wrap ((0:Int)-Jv)-(1:Int)))=some Im/\((0:Int)<=v7.1/\v7.1<(↑v7.2.1.length:Int))/\0+v7.1.toNat<v7.2.1.length/\0=0/\v7.2.1.length=(v7.2.1.set (0+v7.1.toNat) (IntKind.i64.wrap (IntKind.i64.wrap ((0:Int)-Im)-(1:Int)))).length/\k8 (IntKind.i64.wrap (v7.1+(1:Int)),v7.2.1.set (0+v7.1.toNat) (IntKind.i64.wrap (IntKind.i64.wrap ((0:Int)-Im)-(1:Int))),()))) (P (List.take v7.2.1.length (List.drop 0 v7.2.1)))) ((0:Int),y6.1.1,PUnit.unit))/\ ∃(y5:l4),Jh.fn (p.1,p.2.1,p.2.2.1,t,())=some y5/\ ∃(y6:(List Int×PUnit)×PUnit),bn.fn (y5.1.1,y5.1.2.1,List.take y5.1.2.2.1.length (List.drop 0 y5.1.2.2.1),f.1,f.2.1,f.2.2.1,f.2.2.2.1,s,())=some y6/\0=0/\y6.1.1.length=y6.1.1.length/\Bo (λ(v7:Int×List Int×PUnit) (k8:Int×List Int×PUnit->Prop)=>Br (decide (v7.1<(↑v7.2.1.length:Int))) (((0:Int)<=v7.1/\v7.1<(↑v7.2.1.length:Int))/\ ∃(y9:Int),v7.2.1[0+v7.1.toNat]?=some y9/\Br (decide (y9>(0:Int))) (((0:Int)<=v7.1/\v7.1<(↑v7.2.1.length:Int))/\ ∃(Jv:Int),v7.2.1[0+v7.1.toNat]?=some Jv/\ ∃(Im:Int),idx t (IntKind.i64.wrap (Jv-(1:Int)))=some Im/\((0:Int)<=v7.1/\v7.1<(↑v7.2.1.length:Int))/\0+v7.1.toNat<v7.2.1.length/\0=0/\v7.2.1.length=(v7.2.1.set (0+v7.1.toNat) (IntKind.i64.wrap (Im+(1:Int)))).length/\k8 (IntKind.i64.wrap (v7.1+(1:Int)),v7.2.1.set (0+v7.1.toNat) (IntKind.i64.wrap (Im+(1:Int))),())) (((0:Int)<=v7.1/\v7.1<(↑v7.2.1.length:Int))/\ ∃(Jv:Int),v7.2.1[0+v7.1.toNat]?=some Jv/\ ∃(Im:Int),idx t (IntKind.i64.wrap (IntKind.i64.wrap ((0:Int)-Jv)-(1:Int)))=some Im/\((0:Int)<=v7.1/\v7.1<(↑v7.2.1.length:Int))/\0+v7.1.toNat<v7.2.1.length/\0=0/\v7.2.1.length=(v7.2.1.set (0+v7.1.toNat) (IntKind.i64.wrap (IntKind.i64.wrap ((0:Int)-Im)-(1:Int)))).length/\k8 (IntKind.i64.wrap (v7.1+(1:Int)),v7.2.1.set (0+v7.1.toNat) (IntKind.i64.wrap (IntKind.i64.wrap ((0:Int)-Im)-(1:Int))),()))) (P (List.take v7.2.1.length (List.drop 0 v7.2.1)))) ((0:Int),y6.1.1,PUnit.unit))=fnW Da (look [(102,Jh),(108,bn)]) Wq Try.f60 (p,t,f,s,()) P:=by kernel_rfl
theorem fK:Sound Try.prog 115 Rw:=Uy.loose
theorem nC {p:PP} (hw:Bz p=true):Ip p.2.2.1 (Ae p.2.2.1.length) (Aa p) (λx=>x=(Aa p).getD 0 []) (Gy (Aa p) (Aj p)):=
 xh (valid (Bt hw).1) (Yu (Bt hw).1) (sx hw)
theorem Yg {p:PP} {x:List Int} (hx:x∈Aa p):(Aj p).getD ((Aa p).idxOf x) 0=Gy (Aa p) (Aj p) x:=by unfold Gy;rw [if_pos hx]
theorem gu {p:PP} (hw:Bz p=true):Ip p.2.2.1 (Ae p.2.2.1.length) (Aa p) (λx=>x=(Aa p).getD 0 []) (λx=>(Aj p).getD ((Aa p).idxOf x) 0):=by
 have h:=nC hw
 have hc:=Lj hw
 exact ⟨λx hx=>by rw [Yg hx];exact h.nn x hx,λx hx=>by rw [Yg hx];exact h.zero x hx,λx hx l hl=>by rw [Yg hx,Yg (hc.next x hx l hl)];exact h.step x hx l hl,
  fun x hx h0=>by
   rw [Yg hx] at h0⊢
   obtain ⟨l,hl,e⟩:=h.down x hx h0
   exact ⟨l,hl,by rw [Yg (hc.next x hx l hl)];exact e⟩⟩
theorem Vu {p:PP} (hw:Bz p=true):(Aj p).length=(Aa p).length:=(Yu (Bt hw).1).len
theorem sT {p:PP} (hw:Bz p=true):z9 p (Aj p):=sU hw (Vu hw) (gu hw)
theorem QE {α β:Type} (P:α×β->Bool) (xs:List α) (ys:List β) {j:Nat} (h1:j<xs.length) (h2:j<ys.length):((xs.zip ys).take (j+1)).filter P=if P (xs[j],ys[j])=true then ((xs.zip ys).take j).filter P++ [(xs[j],ys[j])] else ((xs.zip ys).take j).filter P:=by
 have hz:j<(xs.zip ys).length:=by rw [List.length_zip];omega
 rw [List.take_add_one,List.getElem?_eq_getElem hz,Option.toList_some,List.filter_append,List.getElem_zip]
 by_cases h:P (xs[j],ys[j])=true
 ·rw [if_pos h,List.filter_cons_of_pos h];rfl
 ·rw [if_neg h,List.filter_cons_of_neg h];simp
theorem NQ (e:Option XP) (i:Int) (h: ∃e':XP,e=some e'/\jK e'/\0<=i/\i<(Aa e'.1).length):fnMW Nq (look [(117,Gj)]) Tq Try.f146 (e,i,()) (λ(z:(List Int×List Int×Unit)×Unit)=>z=EV e i):=by
 obtain ⟨e',rfl,hx,h1,h2⟩:=h
 obtain ⟨i0,rfl⟩:=Int.eq_ofNat_of_zero_le h1
 have VE:i0<(Aa e'.1).length:=by omega
 have SN:=Bt hx.1
 have hV:=valid SN.1
 have hf:=hV.cn
 have hdl:=Vu hx.1
 have zI:=LC hx
 obtain ⟨ls,Yj⟩: ∃ls,Ae e'.1.2.2.1.length=ls:=⟨_,rfl⟩
 have SB:=Pd hV
 obtain ⟨N,hN⟩: ∃N,Dc e'.1 i0=N:=⟨_,rfl⟩
 have hNl:N.length=ls.length:=by rw [<-hN,<-Yj,dt]
 have hNr: ∀t∈N,0<=t/\t<(Aj e'.1).length:= λt ht=>by have:=Xs hx.1 i0 VE t (by rw [hN];exact ht);omega
 show fnMW _ _ Tq _ _ (λz=>z=(((Wh (Ae e'.1.2.2.1.length) (Dc e'.1 ((i0:Nat):Int).toNat) (Aj e'.1) (i0:Int)).1,(Wh (Ae e'.1.2.2.1.length) (Dc e'.1 ((i0:Nat):Int).toNat) (Aj e'.1) (i0:Int)).2,()),()))
 rw [Int.toNat_natCast,Yj,hN]
 rw [Yj] at SB
 refine Eq.mp (PR _ _ _) ⟨e',rfl,ls,(if_pos ⟨by show (0:Int)<=((e'.1.2.2.1.length:Nat):Int);omega,by show ((e'.1.2.2.1.length:Nat):Int)<=8;omega⟩).trans (congrArg some (by show Ae (((e'.1.2.2.1.length:Nat):Int)).toNat=_;rw [Int.toNat_natCast];exact Yj)),e',rfl,N,by rw [<-hN];exact DP hx VE,rfl,rfl,rfl,rfl,?_⟩
 refine Ap N.length (λv=>v.1) (λj v=>v.2.1=(((ls.zip N).take j).filter (λq=>decide (Bj (Aj e'.1) q.2<Bj (Aj e'.1) (i0:Int)))).map Prod.fst/\v.2.2.1=(((ls.zip N).take j).filter (λq=>decide (Bj (Aj e'.1) q.2<Bj (Aj e'.1) (i0:Int)))).map Prod.snd/\v.2.1.length<=j/\v.2.2.1.length<=j) rfl ⟨rfl,rfl,Nat.le_refl _,Nat.le_refl _⟩ ?_
 rintro j ⟨jj,a,b,⟨⟩⟩ K hj ig ⟨r1,r2,r3,r4⟩ hK
 dsimp only at ig r1 r2 r3 r4⊢
 subst ig
 refine Br.dec (λhl=>?_) λhl=>?_
 ·have hl:j<N.length:=by omega
  have hjl:j<ls.length:=by omega
  have ht:=hNr _ (List.getElem_mem hl)
  have hzt:=QE (λq=>decide (Bj (Aj e'.1) q.2<Bj (Aj e'.1) (i0:Int))) ls N hjl hl
  refine ⟨_,Au hl,e',rfl,_,by rw [zI];exact Jc ht.1 ht.2,e',rfl,_,by rw [zI];exact Jc (y:=(i0:Int)) (by omega) (by omega),Br.dec (λhb=>?_) λhb=>?_⟩
  ·rw [if_pos (decide_eq_true hb)] at hzt
   refine ⟨_,Au hjl,rfl,rfl,?_,rfl,rfl,?_,rfl,rfl,rfl,rfl,?_⟩
   ·show a.length+1<=4294967296;omega
   ·show b.length+1<=4294967296;omega
   ·rw [Ak (by omega)]
    refine hK hl _ rfl ⟨?_,?_,?_,?_⟩
    ·show a++ [ls[j]]=_
     rw [hzt,List.map_append,r1];rfl
    ·show b++ [N[j]]=_
     rw [hzt,List.map_append,r2];rfl
    ·show (a++ [ls[j]]).length<=j+1
     rw [List.length_append,List.length_singleton];omega
    ·show (b++ [N[j]]).length<=j+1
     rw [List.length_append,List.length_singleton];omega
  ·rw [if_neg (by simpa using hb)] at hzt
   refine ⟨rfl,rfl,rfl,rfl,?_⟩
   rw [Ak (by omega)]
   refine hK hl _ rfl ⟨?_,?_,by show a.length<=j+1;omega,by show b.length<=j+1;omega⟩
   ·rw [hzt];exact r1
   ·rw [hzt];exact r2
 ·have:j=N.length:=by omega
  subst this
  rw [List.take_of_length_le (by rw [List.length_zip];omega)] at r1 r2
  rw [Ax,Ax,r1,r2]
  rfl
theorem uK:Bq Try.prog 146 Tq:=
 Bq.Yp Mk (Ah Sy As) mixed Try.func146 (by kernel_rfl) (by kernel_rfl) λx h=>NQ x.1 x.2.1 h
theorem iL {α:Type} {P:α->Bool} : ∀(l:List α) (k:Nat) (h:k<l.length),P l[k]=true->(∀j (hj:j<k),P (l[j]'(by omega))=false)-> ∃r,l.filter P=l[k]::r
 | [],k,h,_,_=>by simp at h
 |y::r,0,_,h1,_=>⟨_,List.filter_cons_of_pos (show P y=true from h1)⟩
 |y::r,k+1,h,h1,h2=>by
  rw [List.filter_cons_of_neg (by have:=h2 0 (by omega);simp at this;simp [this])]
  exact iL r k (by simpa using h) h1 λj hj=>h2 (j+1) (by omega)
theorem ZU (e:Option XP) (i:Int) (h: ∃e':XP,e=some e'/\jK e'/\0<=i/\i<(Aa e'.1).length):fnMW Nq (look [(146,Tq)]) dM Try.f109 (e,i,()) (λ(z:(List Int×Bool×Unit)×Unit)=>z=ND e i):=by
 obtain ⟨e',rfl,hx,h1,h2⟩:=h
 have SN:=Bt hx.1
 have hV:=valid SN.1
 have hdl:=Vu hx.1
 have zI:=LC hx
 have hd:=sT hx.1
 show fnMW _ _ dM _ _ (λz=>z=(Rq e'.1 i,()))
 unfold Rq Hv
 refine Eq.mp (Aap _ _ _) ⟨e',rfl,Bj (Aj e'.1) i,by rw [zI];exact Jc h1 (by omega),Br.dec (λhb=>by rw [if_pos hb];rfl) λhb=>⟨rfl,rfl,?_⟩⟩
 rw [if_neg hb]
 have VN: ∀k:Nat,k<(Aj e'.1).length->0<=Bj (Aj e'.1) (k:Int):= λk hk=>by unfold Bj;rw [Int.toNat_natCast];exact hd.nn k hk
 obtain ⟨R,hRR⟩: ∃R,Ox (Dc e'.1) (Ae e'.1.2.2.1.length) (Aj e'.1) (Bj (Aj e'.1) i).toNat i []=R:=⟨_,rfl⟩
 rw [hRR]
 obtain ⟨i0,rfl⟩:=Int.eq_ofNat_of_zero_le h1
 refine Bo.mk (λv=> ∃(k:Nat) (w:List Int) (f:Nat),v=((k:Int),w,())/\k<(Aj e'.1).length/\Bj (Aj e'.1) (k:Int)<=f/\w.length+f<=200/\Ox (Dc e'.1) (Ae e'.1.2.2.1.length) (Aj e'.1) f (k:Int) w=R) (λv=>(Bj (Aj e'.1) v.1).toNat)
  ⟨i0,[],(Bj (Aj e'.1) (i0:Int)).toNat,rfl,by omega,by omega,by have:=VN i0 (by omega);simp only [List.length_nil];omega,hRR⟩ ?_
 rintro v ⟨k,w,f,rfl,k1,k2,k3,k4⟩
 dsimp only
 refine ⟨e',rfl,Bj (Aj e'.1) (k:Int),by rw [zI];exact Jc (by omega) (by omega),Br.dec (λhl=>?_) λhl=>?_⟩
 ·have Hl:0<(Aj e'.1).getD k 0:=by unfold Bj at hl;rwa [Int.toNat_natCast] at hl
  obtain ⟨f,rfl⟩: ∃f',f=f'+1:=⟨f-1,by omega⟩
  obtain ⟨t0,MG,YS⟩:=hd.dn k (by omega) Hl
  have eU:Bj (Aj e'.1) (k:Int)=(Aj e'.1).getD k 0:=by unfold Bj;rw [Int.toNat_natCast]
  have LJ:(Dc e'.1 k).any (λy=>decide (Bj (Aj e'.1) y<Bj (Aj e'.1) (k:Int)))=true:=List.any_eq_true.2 ⟨t0,MG,decide_eq_true (by rw [eU];exact YS)⟩
  obtain ⟨n,n2,n3,q1,q2⟩:=eF (Dc e'.1 k) 0 LJ
  have n3:Db (λy=>decide (Bj (Aj e'.1) y<Bj (Aj e'.1) (k:Int))) (Dc e'.1 k) 0=(n:Int):=by rw [Nat.zero_add] at n3;exact n3
  have n1:n<(Ae e'.1.2.2.1.length).length:=by rw [<-dt e'.1 k];exact n2
  obtain ⟨r1,r2⟩:=Xs hx.1 k (by omega) _ (List.getElem_mem n2)
  obtain ⟨t,n4⟩:=Int.eq_ofNat_of_zero_le r1
  have n6:Bj (Aj e'.1) (t:Int)<Bj (Aj e'.1) (k:Int):=by have:=of_decide_eq_true q1;rwa [n4] at this
  simp only [Ox] at k4
  rw [if_pos hl,Int.toNat_natCast,n3,Int.toNat_natCast,Bu n2,n4,Bu n1] at k4
  have hz:n<((Ae e'.1.2.2.1.length).zip (Dc e'.1 k)).length:=by rw [List.length_zip];omega
  obtain ⟨rest,Zt⟩:=iL (P:= λq:Int×Int=>decide (Bj (Aj e'.1) q.2<Bj (Aj e'.1) (k:Int))) ((Ae e'.1.2.2.1.length).zip (Dc e'.1 k)) n hz (by rw [List.getElem_zip];exact q1) λj hj=>by rw [List.getElem_zip];exact q2 j hj
  rw [List.getElem_zip,n4] at Zt
  have Ob:Tq.fn (some e',(k:Int),())=some (((Ae e'.1.2.2.1.length)[n]::rest.map Prod.fst,(t:Int)::rest.map Prod.snd,()),()):=by
   refine (if_pos ⟨e',rfl,hx,by show (0:Int)<=(k:Int);omega,by show (k:Int)<((Aa e'.1).length:Int);omega⟩).trans (congrArg some ?_)
   show (((Wh (Ae e'.1.2.2.1.length) (Dc e'.1 ((k:Nat):Int).toNat) (Aj e'.1) (k:Int)).1,(Wh (Ae e'.1.2.2.1.length) (Dc e'.1 ((k:Nat):Int).toNat) (Aj e'.1) (k:Int)).2,()),())=_
   rw [Int.toNat_natCast]
   unfold Wh
   rw [Zt]
   rfl
  have h0:=VN t (by omega)
  refine ⟨_,Ob,⟨by omega,by simp only [List.length_cons];omega⟩,(Ae e'.1.2.2.1.length)[n],rfl,rfl,rfl,?_,⟨by omega,by simp only [List.length_cons];omega⟩,(t:Int),rfl,rfl,rfl,⟨t,w++ [(Ae e'.1.2.2.1.length)[n]],f,rfl,by omega,by omega,by rw [List.length_append,List.length_singleton];omega,k4⟩,?_⟩
  ·show w.length+1<=4294967296;omega
  ·show (Bj (Aj e'.1) (t:Int)).toNat<(Bj (Aj e'.1) (k:Int)).toNat
   omega
 ·rw [Ax]
  have:Ox (Dc e'.1) (Ae e'.1.2.2.1.length) (Aj e'.1) f (k:Int) w=(w,(k:Int)):=by
   cases f with
   |zero=>rfl
   |succ f=>simp only [Ox];rw [if_neg (by omega)]
  rw [this] at k4
  subst k4
  rfl
theorem CD:Bq Try.prog 109 dM:=
 Bq.Yp Mk (Ev uK As) mixed Try.func109 (by kernel_rfl) (by kernel_rfl) λx h=>ZU x.1 x.2.1 h
theorem NM {p:PP} {i:Int} (hw:Bz p=true) (h1:0<=i) (h2:i<(Aa p).length):(Rq p i).1.length<=200:=by
 unfold Rq Hv
 split
 ·simp
 ·rename_i hb
  obtain ⟨i0,rfl⟩:=Int.eq_ofNat_of_zero_le h1
  have hd:=sT hw
  have hg:Bj (Aj p) (i0:Int)=(Aj p).getD i0 0:=by unfold Bj;rw [Int.toNat_natCast]
  have VN:=hd.nn i0 (by rw [Vu hw];omega)
  obtain ⟨_,r2,_⟩:=sW hw hd (gu hw) (see:= λx=>x) (dep:=Gy (Aa p) (Aj p)) (λ_ _ _ _=>rfl) (λx hx=>Yg hx) (Bj (Aj p) (i0:Int)).toNat i0 [] (by omega) (by rw [<-hg];omega)
  rw [r2]
  simp only [List.length_nil]
  omega
theorem fc {p:PP} (hw:Bz p=true) {d:List Int} (hd:z9 p d): ∀(f:Nat) (i:Nat) (w:List Int),i<d.length->(∀l∈w,l∈Ae p.2.2.1.length)-> ∀l∈(Ox (Dc p) (Ae p.2.2.1.length) d f (i:Int) w).1,l∈Ae p.2.2.1.length
 |0,i,w,_,h=>h
 |f+1,i,w,hi,h=>by
  simp only [Ox]
  split
  ·rename_i hl
   have Hl:0<d.getD i 0:=by unfold Bj at hl;rwa [Int.toNat_natCast] at hl
   obtain ⟨n,n1,n2,n3,t,n4,n5,n6⟩:=DK hw hd hi Hl
   rw [Int.toNat_natCast,n3,Int.toNat_natCast,Bu n2,n4,Bu n1]
   refine fc hw hd f t _ n5 λl yX=>?_
   rcases List.mem_append.1 yX with h2|h2
   ·exact h l h2
   ·rw [List.mem_singleton.1 h2];exact List.getElem_mem n1
  ·exact h
theorem u9 {p:PP} {i:Int} (hw:Bz p=true) (h1:0<=i) (h2:i<(Aa p).length): ∀l∈(Rq p i).1,Dh (List.length p.2.2.1) l:=by
 unfold Rq Hv
 split
 ·intro l hl;cases hl
 ·obtain ⟨i0,rfl⟩:=Int.eq_ofNat_of_zero_le h1
  intro l hl
  exact Fo (fc hw (sT hw) _ i0 [] (by rw [Vu hw];omega) (λl hl=>by cases hl) l hl)
theorem FG {p:PP} {t:List Int} (hs:Bk p t=true) {l:Int} (hl:Dh (List.length (An p t).2.2.1) l):
  (l>0->0<=l-1/\l-1<t.length/\0<=Bj t (l-1)/\Bj t (l-1)<8)/\(¬l>0->0<= -l-1/\ -l-1<t.length/\0<=Bj t (-l-1)/\Bj t (-l-1)<8):=by
 have Lu:=Wu hs
 have hlen:List.length (An p t).2.2.1=t.length:=List.length_map _
 rw [hlen] at hl
 have h8:=Lu.g8
 have key: ∀k:Int,0<=k->k<t.length->0<=Bj t k/\Bj t k<8:= λk k1 k2=>by
  obtain ⟨kn,rfl⟩:=Int.eq_ofNat_of_zero_le k1
  have hk:kn<t.length:=by omega
  obtain ⟨j,e,hj⟩:=Lu.Nv hk
  have:Bj t (kn:Int)=(j:Int):=by unfold Bj;rw [Int.toNat_natCast,Bu hk,e]
  rw [this];omega
 obtain ⟨l1,l2,l3⟩:=hl
 exact ⟨λh=>⟨by omega,by omega,key _ (by omega) (by omega)⟩,λh=>⟨by omega,by omega,key _ (by omega) (by omega)⟩⟩
theorem jB {f:Int->Int} {w ys:List Int} {j:Nat} (hj:j<w.length) (hl:ys.length=w.length) (h1:ys.take j=(w.take j).map f) (h2:ys.drop j=w.drop j):
  (ys.set j (f w[j])).take (j+1)=(w.take (j+1)).map f/\(ys.set j (f w[j])).drop (j+1)=w.drop (j+1)/\ys.getD j 0=w[j]:=by
 have hjy:j<ys.length:=by omega
 refine ⟨?_,?_,?_⟩
 ·rw [List.take_add_one,List.take_set_of_le (by omega),h1,List.getElem?_set_self hjy,List.take_add_one,List.getElem?_eq_getElem hj,List.map_append]
  rfl
 ·rw [List.drop_set_of_lt (by omega)]
  have:=congrArg (List.drop 1) h2
  rwa [List.drop_drop,List.drop_drop] at this
 ·have:=congrArg (λz=>z[0]?) h2
  simp only [List.getElem?_drop,Nat.add_zero] at this
  rw [List.getElem?_eq_getElem hjy,List.getElem?_eq_getElem hj] at this
  rw [Bu hjy]
  exact Option.some.inj this
theorem TE (h:Option HP) (i:Int) (hh: ∃p t,Ho p t=true/\h=some (Dn p t)/\0<=i/\i<(Aa p).length):fnMW Nq (look [(98,Sa),(109,dM)]) Xv Try.f61 (h,i,()) (λ(z:(List Int×Bool×Unit)×Unit)=>z=xp h i):=by
 obtain ⟨p,t,hw,rfl,h1,h2⟩:=hh
 obtain ⟨k,rfl⟩:=Int.eq_ofNat_of_zero_le h1
 have hk:k<(Aa p).length:=by omega
 obtain ⟨gF,hm⟩:=Ig.1 hw
 have Qv:=(er gF).1
 have z0:=Sl gF hm
 obtain ⟨s,hs⟩: ∃s,(Aa p)[k]=s:=⟨_,rfl⟩
 have hfd:Sa.fn (some (Fu (An p t)),s,())=some (Ms (An p t) s):=if_pos ⟨⟨Fu (An p t),rfl,z0,rfl⟩,by rw [<-hs];exact oJ (dV (Bt gF).1 (List.getElem_mem hk))⟩
 show fnMW _ _ Xv _ _ (λz=>z=(eI p t ((Aa p).getD ((k:Nat):Int).toNat []),()))
 rw [Int.toNat_natCast,Bu hk,hs]
 unfold eI
 refine Eq.mp (UD _ _ _) ⟨Dn p t,rfl,Dn p t,rfl,Fu p,rfl,s,by rw [Qv,<-hs];exact Au hk,_,hfd,?_⟩
 rw [WG]
 refine Br.of (λhb=>?_) λhb=>?_
 ·have hn:s∉Aa (An p t):=by simpa using hb
  rw [if_neg hn];rfl
 have Iv:s∈Aa (An p t):=by simpa using hb
 rw [if_pos Iv]
 obtain ⟨i1,i2,_⟩:=WE Iv
 have lz:dM.fn (some (Fu (An p t)),(Ms (An p t) s).1,())=some (Rq (An p t) (Ms (An p t) s).1,()):=if_pos ⟨Fu (An p t),rfl,⟨z0,rfl⟩,i1,i2⟩
 have Zq:=NM z0 i1 i2
 have Hm:=u9 z0 i1 i2
 have Aj8:=(Wu hm).cn
 have Aj9:=(Wu hm).g8
 refine ⟨Dn p t,rfl,_,lz,?_⟩
 generalize hO:Rq (An p t) (Ms (An p t) s).1=O at*
 obtain ⟨w,ok,⟨⟩⟩:=O
 dsimp only at Zq Hm⊢
 cases ok with
 |false=>
  refine ⟨λ_=>?_,λhb=>by simp at hb⟩
  have:w= []:=by
   unfold Rq Hv at hO
   split at hO
   ·simp only [Prod.mk.injEq] at hO;exact hO.1.symm
   ·simp only [Prod.mk.injEq] at hO;exact absurd hO.2.1 (by simp)
  subst this
  rfl
 |true=>
  refine ⟨λhb=>by simp at hb,λ_=>⟨rfl,rfl,rfl,rfl,?_⟩⟩
  refine Ap w.length (λv=>v.1) (λj v=>v.2.1.length=w.length/\v.2.1.take j=(w.take j).map (Ua t)/\v.2.1.drop j=w.drop j) rfl ⟨rfl,rfl,rfl⟩ ?_
  rintro j ⟨jj,ys,⟨⟩⟩ K hj ig ⟨g1,g2,g3⟩ hK
  dsimp only at ig g1 g2 g3⊢
  subst ig
  refine Br.dec (λhl=>?_) λhl=>?_
  ·have hl:j<w.length:=by omega
   obtain ⟨e1,e2,e3⟩:=jB (f:=Ua t) hl g1 g2 g3
   obtain ⟨b1,b2⟩:=FG hm (Hm _ (List.getElem_mem hl))
   refine ⟨⟨by omega,by omega⟩,w[j],by rw [GF (by omega),e3],Br.dec (λhp=>?_) λhp=>?_⟩
   ·obtain ⟨c1,c2,c3,c4⟩:=b1 hp
    have QR:Ua t w[j]=Bj t (w[j]-1)+1:=if_pos hp
    refine ⟨Dn p t,rfl,Bj t (w[j]-1),by rw [Bd (n:=w[j]-1) (by omega) (by omega)];exact Jc c1 c2,⟨by omega,by omega⟩,by rw [Int.toNat_natCast];omega,rfl,by rw [List.length_set],rfl,by rw [List.length_set],?_⟩
    rw [Ak (by omega),Int.toNat_natCast,Nat.zero_add,Bd (n:=Bj t (w[j]-1)+1) (by omega) (by omega),<-QR]
    exact hK hl _ rfl ⟨by rw [List.length_set];exact g1,e1,e2⟩
   ·obtain ⟨c1,c2,c3,c4⟩:=b2 hp
    have QR:Ua t w[j]= -(Bj t (-w[j]-1)+1):=if_neg hp
    have e5:IntKind.i64.wrap (IntKind.i64.wrap (0-w[j])-1)= -w[j]-1:=by rw [Bd (n:=0-w[j]) (by omega) (by omega),Bd (by omega) (by omega)];omega
    have e6:IntKind.i64.wrap (0-IntKind.i64.wrap (Bj t (-w[j]-1)+1))=Ua t w[j]:=by rw [Bd (n:=Bj t (-w[j]-1)+1) (by omega) (by omega),Bd (by omega) (by omega),QR];omega
    refine ⟨Dn p t,rfl,Bj t (-w[j]-1),by rw [e5];exact Jc c1 c2,⟨by omega,by omega⟩,by rw [Int.toNat_natCast];omega,rfl,by rw [List.length_set],rfl,by rw [List.length_set],?_⟩
    rw [Ak (by omega),Int.toNat_natCast,Nat.zero_add,e6]
    exact hK hl _ rfl ⟨by rw [List.length_set];exact g1,e1,e2⟩
  ·have:j=w.length:=by omega
   subst this
   rw [Ax]
   rw [<-g1,List.take_length,g1,List.take_length] at g2
   rw [g2]
theorem yl:Bq Try.prog 61 Xv:=
 Bq.Yp Mk (Ah gW (Ev CD As)) mixed Try.func61 (by kernel_rfl) (by kernel_rfl) λx h=>TE x.1 x.2.1 h
theorem xS (n:Int) (str:ByteArray) (g:List (List Int)) (t:List Int) (h:Cn (n,str,g,())/\Bk (n,str,g,()) t=true):
  fnMW Nq (look [(123,Ga)]) Jh Try.f102 (n,str,g,t,()) (λ(z:(Int×ByteArray×List (List Int)×Unit)×Unit)=>z=(((An (n,str,g,()) t).1,(An (n,str,g,()) t).2.1,(An (n,str,g,()) t).2.2.1,()),())):=by
 obtain ⟨hp,Lu⟩:=h
 have hs:=Wu Lu
 have Ado:=hs.size
 dsimp only at Ado
 refine Eq.mp (yM n str g t _) ⟨rfl,rfl,rfl,rfl,?_⟩
 refine Ap t.length (λv=>v.1) (λj v=>v=((j:Int),n,str,g,0,ByteArray.empty,n,On str (t.take j),[],(t.take j).map λk=>g.getD k.toNat [],())) rfl rfl ?_
 rintro j v K hj hi hR hK
 subst hR
 dsimp only
 have hlen:=hs.cn
 have hg8:=hs.g8
 dsimp only at hlen hg8
 refine Br.dec (λhl=>?_) λhl=>?_
 ·have hl:j<t.length:=by omega
  obtain ⟨kn,hk,jH⟩:=hs.Nv hl
  dsimp only at jH
  have hkb:kn<str.size:=by omega
  have hw:IntKind.i64.wrap ((kn:Int)+1)=(kn:Int)+1:=Bd (by omega) (by omega)
  have Pr:=aj (b:=str) (t.take j) λk fw=>hs.ZA k (List.mem_of_mem_take fw)
  have hex:(str.extract kn (kn+1)).size=1:=by rw [ByteArray.size_extract];omega
  have EM:short g[kn]:=hp.2.2 _ (List.getElem_mem jH)
  have Acs:idx g (kn:Int)=some g[kn]:=Au jH
  have Ob:Ga.fn (g[kn],())=some ((g[kn],()),()):=if_pos EM
  have Acz:((t.take j).map λk=>g.getD k.toNat []).length+(List.take 1 (List.drop 0 [List.take (g[kn]).length (List.drop 0 g[kn])])).length<=4294967296:=by
   show ((t.take j).map _).length+1<=4294967296
   rw [List.length_map];have:=List.length_take_le j t;omega
  refine ⟨_,Au hl,?_⟩
  rw [hk,hw]
  refine ⟨⟨by omega,by omega,by omega⟩,by rw [show ((kn:Int)+1).toNat=kn+1 by omega,Int.toNat_natCast,hex,Pr];have:=List.length_take_le j t;omega,_,Acs,_,Ob,rfl,rfl,Acz,⟨rfl,rfl,rfl,rfl,?_⟩,?_⟩
  ·rw [Ak (by omega),show ((kn:Int)+1).toNat=kn+1 by omega,Int.toNat_natCast]
   refine hK hl _ rfl ?_
   rw [kY _ hl,map_take _ hl,hk,Int.toNat_natCast,show ((kn:Int)+1).toNat=kn+1 by omega,Bu jH,Ax]
   rfl
  ·repeat' (first|exact ⟨rfl,rfl⟩|exact rfl|exact Acz|refine ⟨_,Acs,?_⟩|refine ⟨_,Ob,?_⟩|refine ⟨?_,?_⟩)
 ·have:j=t.length:=by omega
  subst this
  rw [List.take_length,Ax]
  rfl
theorem mC:Bq Try.prog 102 Jh:=
 Bq.Yp Mk (Ev mr As) mixed Try.func102 (by kernel_rfl) (by kernel_rfl) λx h=>xS x.1 x.2.1 x.2.2.1 x.2.2.2.1 h
theorem jR {p:PP} (hw:Bz p=true) {x:List Int} (hx:x∈Aa p):0<=Gy (Aa p) (Aj p) x/\Gy (Aa p) (Aj p) x<=3000:=by
 have bL:=Yu (Bt hw).1
 have tq:=bL.ok.cn
 refine ⟨(nC hw).nn x hx,?_⟩
 obtain ⟨i,hi,rfl⟩:=List.mem_iff_getElem.1 hx
 have hiD:i<(Aj p).length:=by rw [bL.len];exact hi
 have h1:=bL.dep i hiD
 have h2:Gy (Aa p) (Aj p) ((Aa p)[i])=(Aj p).getD i 0:=by
  rw [<-Bu (d:= []) hi];exact gr bL.ok.nodup hi
 rw [h2,Bu hiD]
 omega
theorem ZL (n0:Int) (str:ByteArray) (g L:List (List Int)) (D Hg:List Int) (b:Bool) (s:List Int) (h:Bz (n0,str,g,())=true/\(L,D,Hg,b,())=Ai g (upto n0.toNat)/\s∈Aa (n0,str,g,())):
  fnMW Nq (look [(96,Eh),(114,Ph),(115,Rw)]) bn Try.f108 (n0,str,g,L,D,Hg,b,s,()) (λ(z:(List Int×Unit)×Unit)=>z=((Wi (n0,str,g,()) s,()),())):=by
 obtain ⟨hw,hse,hs⟩:=h
 obtain ⟨p,VQ⟩: ∃p:PP,(n0,str,g,())=p:=⟨_,rfl⟩
 have e1:n0=p.1:=by rw [<-VQ]
 have e2:str=p.2.1:=by rw [<-VQ]
 have e3:g=p.2.2.1:=by rw [<-VQ]
 rw [VQ] at hw hs
 have hL:L=(Ai p.2.2.1 (upto p.1.toNat)).1:=by rw [<-e3,<-e1,<-hse]
 have hD:D=(Ai p.2.2.1 (upto p.1.toNat)).2.1:=by rw [<-e3,<-e1,<-hse]
 have hS:Hg=(Ai p.2.2.1 (upto p.1.toNat)).2.2.1:=by rw [<-e3,<-e1,<-hse]
 have hB:b=(Ai p.2.2.1 (upto p.1.toNat)).2.2.2.1:=by rw [<-e3,<-e1,<-hse]
 refine Eq.mp (Aag n0 str g L D Hg b s _) ?_
 rw [VQ,e1,e2,e3,hL,hD,hS,hB]
 clear hse hL hD hS hB VQ e1 e2 e3
 have hv:=(Bt hw).1
 have hV:=valid hv
 have hn:=hV.n
 have bL:=Yu hv
 have tq:=bL.ok.cn
 have hc:=Lj hw
 have hd:=nC hw
 obtain ⟨ls,Yj⟩: ∃ls,Ae p.2.2.1.length=ls:=⟨_,rfl⟩
 have cY: ∀l∈ls,Dh (List.length p.2.2.1) l:= λl hl=>Fo (Yj▸hl)
 have wU: ∀x,Gy (Aa p) (Aj p) x=Gy (Aa p) (Aj p) x:= λx=>rfl
 rw [Yj] at hc hd
 have hdo: ∀x:List Int,x.length=p.1.toNat->Ph.fn (((Ai p.2.2.1 (upto p.1.toNat)).1,(Ai p.2.2.1 (upto p.1.toNat)).2.1,(Ai p.2.2.1 (upto p.1.toNat)).2.2.1,(Ai p.2.2.1 (upto p.1.toNat)).2.2.2.1,()),x,())=some (Gy (Aa p) (Aj p) x):= λx hx=>
  if_pos ⟨by show Cx x.length (Aa p) (Ts (Aa p));rw [hx];exact bL.ok,bL.len⟩
 have SB:=Pd hV
 rw [Yj] at SB
 have QR:=(dV hv hs).1
 have RU:0<=Gy (Aa p) (Aj p) s/\Gy (Aa p) (Aj p) s<=3000:=jR hw hs
 unfold Wi
 rw [Yj]
 refine ⟨ls,(if_pos hV.cn.2).trans (congrArg some Yj),_,hdo _ QR,rfl,rfl,?_⟩
 obtain ⟨R,hR⟩: ∃R,Xb p.2.2.1 (Gy (Aa p) (Aj p)) ls (Gy (Aa p) (Aj p) s).toNat s []=R:=⟨_,rfl⟩
 rw [hR]
 obtain ⟨n0,SD⟩:=Int.eq_ofNat_of_zero_le RU.1
 rw [SD] at hR RU⊢
 rw [Int.toNat_natCast] at hR
 refine Bo.mk (λv=> ∃(x:List Int) (n:Nat) (w:List Int),v=(x,(n:Int),p.1,p.2.1,p.2.2.1,(Ai p.2.2.1 (upto p.1.toNat)).1,(Ai p.2.2.1 (upto p.1.toNat)).2.1,(Ai p.2.2.1 (upto p.1.toNat)).2.2.1,(Ai p.2.2.1 (upto p.1.toNat)).2.2.2.1,w,())/\x∈Aa p/\Gy (Aa p) (Aj p) x=n/\w.length+n<=3000/\Xb p.2.2.1 (Gy (Aa p) (Aj p)) ls n x w=R) (λv=>v.2.1.toNat)
  ⟨s,n0,[],rfl,hs,SD,by simp only [List.length_nil];omega,hR⟩ ?_
 rintro v ⟨x,n,w,rfl,g1,g2,g3,g4⟩
 dsimp only
 refine Br.dec (λhl=>⟨rfl,rfl,?_⟩) λhl=>?_
 ·obtain ⟨n,rfl⟩: ∃n',n=n'+1:=⟨n-1,by omega⟩
  simp only [Xb] at g4
  have QT:x.length=p.1.toNat:=(dV hv g1).1
  have GP: ∀y∈x,0<=y/\y<p.1:=bL.row x g1
  have hwr:IntKind.i64.wrap (((n+1:Nat):Int)-1)=(n:Int):=by rw [Bd (by omega) (by omega)];omega
  rw [hwr]
  refine Ap ls.length (λv=>v.2.1) (λi v=>v=(x,(i:Int),p.1,p.2.1,p.2.2.1,(Ai p.2.2.1 (upto p.1.toNat)).1,(Ai p.2.2.1 (upto p.1.toNat)).2.1,(Ai p.2.2.1 (upto p.1.toNat)).2.2.1,(Ai p.2.2.1 (upto p.1.toNat)).2.2.2.1,w,())/\
   (ls.drop i).find? (λl=>decide (Gy (Aa p) (Aj p) (Ab x (Af p.2.2.1 l))=n))=ls.find? (λl=>decide (Gy (Aa p) (Aj p) (Ab x (Af p.2.2.1 l))=n))) rfl ⟨rfl,by rw [List.drop_zero]⟩ ?_
  rintro i v K hi hii ⟨rfl,hf⟩ hK
  dsimp only
  refine Br.dec (λvL=>?_) λvL=>?_
  ·have vL:i<ls.length:=by omega
   have nZ:=List.getElem_mem vL
   have iU:=cY _ nZ
   obtain ⟨nl,nr⟩:=jf hV GP iU
   have hnx:=hc.next x g1 _ nZ
   rw [List.drop_eq_getElem_cons vL] at hf
   refine ⟨_,Au vL,_,if_pos ⟨hv,by show x.length<=20;omega,GP,iU⟩,_,hdo _ (by rw [<-QT];exact nl),Br.of (λhb=>?_) λhb=>?_⟩
   ·have hb:Gy (Aa p) (Aj p) (Ab x (Af p.2.2.1 ls[i]))=n:=by simpa using hb
    rw [List.find?_cons_of_pos (by simpa using hb)] at hf
    rw [<-hf] at g4
    refine ⟨_,Au vL,rfl,rfl,?_,rfl,rfl,⟨_,n,w++ [ls[i]],rfl,hnx,hb,by rw [List.length_append,List.length_singleton];omega,g4⟩,?_⟩
    ·show w.length+1<=4294967296;omega
    ·show ((n:Int)).toNat<(((n+1:Nat):Int)).toNat
     omega
   ·have hb: ¬Gy (Aa p) (Aj p) (Ab x (Af p.2.2.1 ls[i]))=n:=by simpa using hb
    rw [List.find?_cons_of_neg (by simpa using hb)] at hf
    refine ⟨rfl,rfl,?_⟩
    rw [Ak (by omega)]
    exact hK vL _ rfl ⟨rfl,hf⟩
  ·have:i=ls.length:=by omega
   subst this
   rw [List.drop_length,List.find?_nil] at hf
   obtain ⟨l,nZ,hle⟩:=hd.down x g1 (by rw [wU,g2];omega)
   have:=List.find?_eq_none.1 hf.symm l nZ
   rw [wU,wU,g2] at hle
   exact absurd (decide_eq_true (by rw [hle];omega)) this
 ·rw [Ax]
  have:n=0:=by omega
  subst this
  rw [<-g4]
  rfl
theorem BW:Bq Try.prog 108 bn:=
 Bq.Yp Mk (Ah Oh (Ah qF (Ah fK As))) mixed Try.func108 (by kernel_rfl) (by kernel_rfl) λx h=>ZL x.1 x.2.1 x.2.2.1 x.2.2.2.1 x.2.2.2.2.1 x.2.2.2.2.2.1 x.2.2.2.2.2.2.1 x.2.2.2.2.2.2.2.1 h
theorem br {g:List (List Int)} {dep:List Int->Int} {ls:List Int} : ∀(n:Nat) (x w:List Int),(∀l∈w,l∈ls)-> ∀l∈(Xb g dep ls n x w).1,l∈ls
 |0,x,w,h=>h
 |n+1,x,w,h=>by
  simp only [Xb]
  split
  ·rename_i l hf
   refine br n _ _ λl' hl=>?_
   rcases List.mem_append.1 hl with h2|h2
   ·exact h l' h2
   ·rw [List.mem_singleton.1 h2];exact List.mem_of_find?_eq_some hf
  ·exact br n x w h
theorem uT {g:List (List Int)} {dep:List Int->Int} {ls:List Int} : ∀(n:Nat) (x w:List Int),(Xb g dep ls n x w).1.length<=w.length+n
 |0,x,w=>Nat.le_refl _
 |n+1,x,w=>by
  simp only [Xb]
  split
  ·rename_i l hf
   have:=uT (g:=g) (dep:=dep) (ls:=ls) n (Ab x (Af g l)) (w++ [l])
   rw [List.length_append,List.length_singleton] at this
   omega
  ·have:=uT (g:=g) (dep:=dep) (ls:=ls) n x w
   omega
theorem wA {p:PP} (hw:Bz p=true) {s:List Int} (hs:s∈Aa p):(Wi p s).length<=3000:=by
 have h1:=uT (g:=p.2.2.1) (dep:=Gy (Aa p) (Aj p)) (ls:=Ae p.2.2.1.length) (Gy (Aa p) (Aj p) s).toNat s []
 have h2:=jR hw hs
 unfold Wi
 simp only [List.length_nil] at h1
 omega
theorem dup3 {A:Prop} (h:A):(A/\A)/\A:=⟨⟨h,h⟩,h⟩
theorem NV (p:PP) (t:List Int) (f:SS) (s:List Int) (h:Cn p/\Ho p t=true/\f=Ai (An p t).2.2.1 (upto p.1.toNat)/\s∈Aa (An p t)):fnW Da (look [(102,Jh),(108,bn)]) Wq Try.f60 (p,t,f,s,()) (λ(z:List Int)=>z=Kx p t s):=by
 obtain ⟨hp,hw,rfl,hs⟩:=h
 obtain ⟨gF,hm⟩:=Ig.1 hw
 have z0:=Sl gF hm
 have Aj8:=(Wu hm).cn
 have Aj9:=(Wu hm).g8
 refine Eq.mp (PW p t _ s _) (dup3 ?_)
 have Zq:=wA z0 hs
 have Hm: ∀l∈Wi (An p t) s,Dh (List.length (An p t).2.2.1) l:= λl hl=>Fo (br _ _ _ (λl hl=>by cases hl) l hl)
 have hds:bn.fn ((An p t).1,(An p t).2.1,(An p t).2.2.1,(Ai (An p t).2.2.1 (upto p.1.toNat)).1,(Ai (An p t).2.2.1 (upto p.1.toNat)).2.1,(Ai (An p t).2.2.1 (upto p.1.toNat)).2.2.1,(Ai (An p t).2.2.1 (upto p.1.toNat)).2.2.2.1,s,())=some ((Wi (An p t) s,()),()):=if_pos ⟨z0,rfl,hs⟩
 refine ⟨(((An p t).1,(An p t).2.1,(An p t).2.2.1,()),()),if_pos ⟨hp,hm⟩,((Wi (An p t) s,()),()),?_,rfl,rfl,?_⟩
 ·dsimp only
  rw [Ax]
  exact hds
 unfold Kx
 generalize Wi (An p t) s=w at*
 dsimp only
 refine Ap w.length (λv=>v.1) (λj v=>v.2.1.length=w.length/\v.2.1.take j=(w.take j).map (Ua t)/\v.2.1.drop j=w.drop j) rfl ⟨rfl,rfl,rfl⟩ ?_
 rintro j ⟨jj,ys,⟨⟩⟩ K hj ig ⟨g1,g2,g3⟩ hK
 dsimp only at ig g1 g2 g3⊢
 subst ig
 refine Br.dec (λhl=>?_) λhl=>?_
 ·have hl:j<w.length:=by omega
  obtain ⟨e1,e2,e3⟩:=jB (f:=Ua t) hl g1 g2 g3
  obtain ⟨b1,b2⟩:=FG hm (Hm _ (List.getElem_mem hl))
  have Ag:ys[0+((j:Nat):Int).toNat]?=some w[j]:=by rw [GF (by omega),e3]
  refine ⟨⟨by omega,by omega⟩,w[j],Ag,Br.dec (λhp=>?_) λhp=>?_⟩
  ·obtain ⟨c1,c2,c3,c4⟩:=b1 hp
   have QR:Ua t w[j]=Bj t (w[j]-1)+1:=if_pos hp
   refine ⟨⟨by omega,by omega⟩,w[j],Ag,Bj t (w[j]-1),by rw [Bd (n:=w[j]-1) (by omega) (by omega)];exact Jc c1 c2,⟨by omega,by omega⟩,by rw [Int.toNat_natCast];omega,rfl,by rw [List.length_set],?_⟩
   rw [Ak (by omega),Int.toNat_natCast,Nat.zero_add,Bd (n:=Bj t (w[j]-1)+1) (by omega) (by omega),<-QR]
   exact hK hl _ rfl ⟨by rw [List.length_set];exact g1,e1,e2⟩
  ·obtain ⟨c1,c2,c3,c4⟩:=b2 hp
   have QR:Ua t w[j]= -(Bj t (-w[j]-1)+1):=if_neg hp
   have e5:IntKind.i64.wrap (IntKind.i64.wrap (0-w[j])-1)= -w[j]-1:=by rw [Bd (n:=0-w[j]) (by omega) (by omega),Bd (by omega) (by omega)];omega
   have e6:IntKind.i64.wrap (IntKind.i64.wrap (0-Bj t (-w[j]-1))-1)=Ua t w[j]:=by rw [Bd (n:=0-Bj t (-w[j]-1)) (by omega) (by omega),Bd (by omega) (by omega),QR];omega
   refine ⟨⟨by omega,by omega⟩,w[j],Ag,Bj t (-w[j]-1),by rw [e5];exact Jc c1 c2,⟨by omega,by omega⟩,by rw [Int.toNat_natCast];omega,rfl,by rw [List.length_set],?_⟩
   rw [Ak (by omega),Int.toNat_natCast,Nat.zero_add,e6]
   exact hK hl _ rfl ⟨by rw [List.length_set];exact g1,e1,e2⟩
 ·have:j=w.length:=by omega
  subst this
  rw [Ax]
  rw [<-g1,List.take_length,g1,List.take_length] at g2
  rw [g2]
theorem uP:Sound Try.prog 60 Wq:=
 Sound.Dg Cg (Ev mC (Ev BW As)) mixed Try.func60 (by kernel_rfl) (by kernel_rfl) λx h=>NV x.1 x.2.1 x.2.2.1 x.2.2.2.1 h
theorem Aae {p:PP} {t s:List Int} (gF:Bz p=true) (hm:Bk p t=true) (Iv:s∈Aa (An p t)):eI p t s=EW (Kx p t s):=by
 have z0:=Sl gF hm
 have hi:=List.idxOf_lt_length_of_mem Iv
 have hb:=jR z0 Iv
 have VF:(Ms (An p t) s).1=(((Aa (An p t)).idxOf s:Nat):Int):=by unfold Ms;rw [if_pos Iv]
 have hg:Bj (Aj (An p t)) (Ms (An p t) s).1=Gy (Aa (An p t)) (Aj (An p t)) s:=by
  rw [VF];unfold Bj;rw [Int.toNat_natCast];exact Yg Iv
 have hsi:(Aa (An p t)).getD ((Aa (An p t)).idxOf s) []=s:=by rw [Bu hi];exact List.getElem_idxOf hi
 obtain ⟨r1,r2,_⟩:=sW z0 (sT z0) (gu z0) (see:= λx=>x) (dep:=Gy (Aa (An p t)) (Aj (An p t))) (λ_ _ _ _=>rfl) (λx hx=>Yg hx)
  (Gy (Aa (An p t)) (Aj (An p t)) s).toNat ((Aa (An p t)).idxOf s) [] hi (by rw [Yg Iv];omega)
 rw [hsi] at r1
 have r1:_=Wi (An p t) s:=r1
 rw [r1] at r2
 simp only [List.length_nil,Nat.zero_add] at r2
 unfold eI Rq Hv EW Kx
 rw [if_pos Iv,hg,List.length_map]
 by_cases h:Gy (Aa (An p t)) (Aj (An p t)) s>200
 ·rw [if_pos h,if_pos (by omega)];rfl
 ·rw [if_neg h,if_neg (by omega)]
  dsimp only
  rw [VF,r1]
end Go.Proofs.Ytjbdmibbbpdnnaa

namespace Go.Proofs.Ytjbdmibbbpdnnaa
open Go.RowKit
noncomputable def Kw (p:PP) (t:List Int):List Int:=cj (Dc p) (λi=>decide ((Aa p).getD i []∈Aa (An p t))) (Aa p).length
noncomputable abbrev lQ:Spec:=Dg (.pair Co (.pair Lt (.pair Lt .unit))) tL false true (λx=> ∃t,Ho x.1 t=true/\x.2.1=Ai x.1.2.2.1 (upto x.1.1.toNat)/\x.2.2.1=Ai (An x.1 t).2.2.1 (upto x.1.1.toNat))
 (λx=>cj (Dc x.1) (λi=>decide ((Aa x.1).getD i []∈x.2.2.1.1)) (Aa x.1).length)
noncomputable def Is (p:PP) (d:List Int) (x:List Int):Int:=d.getD ((Aa p).idxOf x) 0
noncomputable def It (p:PP) (d s:List Int):List Int:=(Xb p.2.2.1 (Is p d) (Ae p.2.2.1.length) (Is p d s).toNat s []).1
def vV (p:PP) (d:List Int):Prop:=d.length=(Aa p).length/\(∀i,i<d.length->d.getD i 0<=3000)/\ ∃S,Ip p.2.2.1 (Ae p.2.2.1.length) (Aa p) S (λx=>d.getD ((Aa p).idxOf x) 0)
noncomputable abbrev gU:Spec:=Dg (.pair Co (.pair Lt (.pair tL (.pair tL .unit)))) tL false true (λx=>Bz x.1=true/\x.2.1=Ai x.1.2.2.1 (upto x.1.1.toNat)/\vV x.1 x.2.2.1/\x.2.2.2.1∈Aa x.1) (λx=>It x.1 x.2.2.1 x.2.2.2.1)
abbrev ve:Type:=Int×Int×ByteArray×List (List Int)×List (List Int)×List Int×List Int×Bool×List Int×List Int×PUnit
abbrev OX:Type:=Int×Int×ByteArray×List (List Int)×List (List Int)×List Int×List Int×Bool×List (List Int)×List Int×List Int×Bool×List Int×List Int×PUnit
theorem Af0 (p:Int×ByteArray×List (List Int)×Unit) (f g:List (List Int)×List Int×List Int×Bool×Unit) (P:List Int->Prop):(((0:Int)<=(↑f.1.length:Int)/\(↑f.1.length:Int)<(↑Bm:Int)+(1:Int))/\(↑f.1.length:Int)=(↑f.1.length:Int)/\0=0/\(List.replicate (↑f.1.length:Int).toNat (Int.ofNat (nat_lit 0))).length=(List.replicate (↑f.1.length:Int).toNat (Int.ofNat (nat_lit 0))).length/\0=0/\0=([]:List Int).length/\Bo (λ(v4:OX) (k5:OX->Prop)=>Br (decide (v4.1<(↑v4.2.2.2.2.2.2.2.2.2.2.2.2.1.length:Int))) (((0:Int)<=v4.1/\v4.1<(↑v4.2.2.2.2.2.2.2.2.2.2.2.2.1.length:Int))/\0+v4.1.toNat<v4.2.2.2.2.2.2.2.2.2.2.2.2.1.length/\ ∃(y6:List Int),idx v4.2.2.2.2.1 v4.1=some y6/\ ∃(y7:Int),Em.fn ((v4.2.2.2.2.2.2.2.2.1,v4.2.2.2.2.2.2.2.2.2.1,v4.2.2.2.2.2.2.2.2.2.2.1,v4.2.2.2.2.2.2.2.2.2.2.2.1,()),y6,())=some y7/\Br (decide (y7>=(0:Int))) (((0:Int)<=v4.1/\v4.1<(↑v4.2.2.2.2.2.2.2.2.2.2.2.2.1.length:Int))/\0+v4.1.toNat<(v4.2.2.2.2.2.2.2.2.2.2.2.2.1.set (0+v4.1.toNat) (-1:Int)).length/\0=0/\v4.2.2.2.2.2.2.2.2.2.2.2.2.2.1.length=v4.2.2.2.2.2.2.2.2.2.2.2.2.2.1.length/\v4.2.2.2.2.2.2.2.2.2.2.2.2.2.1.length+(List.take 1 (List.drop 0 [v4.1])).length<=Bm/\0=0/\v4.2.2.2.2.2.2.2.2.2.2.2.2.1.length=((v4.2.2.2.2.2.2.2.2.2.2.2.2.1.set (0+v4.1.toNat) (-1:Int)).set (0+v4.1.toNat) (0:Int)).length/\0=0/\(v4.2.2.2.2.2.2.2.2.2.2.2.2.2.1++List.take 1 (List.drop 0 [v4.1])).length=(v4.2.2.2.2.2.2.2.2.2.2.2.2.2.1++List.take 1 (List.drop 0 [v4.1])).length/\k5 (IntKind.i64.wrap (v4.1+(1:Int)),v4.2.1,v4.2.2.1,v4.2.2.2.1,v4.2.2.2.2.1,v4.2.2.2.2.2.1,v4.2.2.2.2.2.2.1,v4.2.2.2.2.2.2.2.1,v4.2.2.2.2.2.2.2.2.1,v4.2.2.2.2.2.2.2.2.2.1,v4.2.2.2.2.2.2.2.2.2.2.1,v4.2.2.2.2.2.2.2.2.2.2.2.1,(v4.2.2.2.2.2.2.2.2.2.2.2.2.1.set (0+v4.1.toNat) (-1:Int)).set (0+v4.1.toNat) (0:Int),v4.2.2.2.2.2.2.2.2.2.2.2.2.2.1++List.take 1 (List.drop 0 [v4.1]),())) (0=0/\v4.2.2.2.2.2.2.2.2.2.2.2.2.1.length=(v4.2.2.2.2.2.2.2.2.2.2.2.2.1.set (0+v4.1.toNat) (-1:Int)).length/\0=0/\v4.2.2.2.2.2.2.2.2.2.2.2.2.2.1.length=v4.2.2.2.2.2.2.2.2.2.2.2.2.2.1.length/\k5 (IntKind.i64.wrap (v4.1+(1:Int)),v4.2.1,v4.2.2.1,v4.2.2.2.1,v4.2.2.2.2.1,v4.2.2.2.2.2.1,v4.2.2.2.2.2.2.1,v4.2.2.2.2.2.2.2.1,v4.2.2.2.2.2.2.2.2.1,v4.2.2.2.2.2.2.2.2.2.1,v4.2.2.2.2.2.2.2.2.2.2.1,v4.2.2.2.2.2.2.2.2.2.2.2.1,v4.2.2.2.2.2.2.2.2.2.2.2.2.1.set (0+v4.1.toNat) (-1:Int),v4.2.2.2.2.2.2.2.2.2.2.2.2.2.1,()))) (∃(y6:List Int),Eh.fn ((v4.2.1,v4.2.2.1,v4.2.2.2.1,()),())=some y6/\0=0/\v4.2.2.2.2.2.2.2.2.2.2.2.2.1.length=v4.2.2.2.2.2.2.2.2.2.2.2.2.1.length/\0=0/\v4.2.2.2.2.2.2.2.2.2.2.2.2.2.1.length=v4.2.2.2.2.2.2.2.2.2.2.2.2.2.1.length/\Bo (λ(v7:ve) (k8:ve->Prop)=>Br (decide (v7.1<(↑v7.2.2.2.2.2.2.2.2.2.1.length:Int))) (0=0/\v7.2.2.2.2.2.2.2.2.1.length=v7.2.2.2.2.2.2.2.2.1.length/\0=0/\v7.2.2.2.2.2.2.2.2.2.1.length=v7.2.2.2.2.2.2.2.2.2.1.length/\Bo (λ(v9:ve) (k10:ve->Prop)=>Br (decide (v9.1<(↑y6.length:Int))) (((0:Int)<=v7.1/\v7.1<(↑v9.2.2.2.2.2.2.2.2.2.1.length:Int))/\ ∃(Im:Int),v9.2.2.2.2.2.2.2.2.2.1[0+v7.1.toNat]?=some Im/\ ∃(Tv:List Int),idx v9.2.2.2.2.1 Im=some Tv/\ ∃(an:Int),idx y6 v9.1=some an/\ ∃(Pu:List Int),Ky.fn ((v9.2.1,v9.2.2.1,v9.2.2.2.1,()),Tv,an,())=some Pu/\ ∃(Vd:Int),Em.fn ((v9.2.2.2.2.1,v9.2.2.2.2.2.1,v9.2.2.2.2.2.2.1,v9.2.2.2.2.2.2.2.1,()),Pu,())=some Vd/\((0:Int)<=Vd/\Vd<(↑v9.2.2.2.2.2.2.2.2.1.length:Int))/\ ∃(Xd:Int),v9.2.2.2.2.2.2.2.2.1[0+Vd.toNat]?=some Xd/\Br (decide (Xd<(0:Int))) (((0:Int)<=v7.1/\v7.1<(↑v9.2.2.2.2.2.2.2.2.2.1.length:Int))/\ ∃(pK:Int),v9.2.2.2.2.2.2.2.2.2.1[0+v7.1.toNat]?=some pK/\((0:Int)<=pK/\pK<(↑v9.2.2.2.2.2.2.2.2.1.length:Int))/\ ∃(pP:Int),v9.2.2.2.2.2.2.2.2.1[0+pK.toNat]?=some pP/\((0:Int)<=Vd/\Vd<(↑v9.2.2.2.2.2.2.2.2.1.length:Int))/\0+Vd.toNat<v9.2.2.2.2.2.2.2.2.1.length/\0=0/\v9.2.2.2.2.2.2.2.2.2.1.length=v9.2.2.2.2.2.2.2.2.2.1.length/\v9.2.2.2.2.2.2.2.2.2.1.length+(List.take 1 (List.drop 0 [Vd])).length<=Bm/\0=0/\v9.2.2.2.2.2.2.2.2.1.length=(v9.2.2.2.2.2.2.2.2.1.set (0+Vd.toNat) (IntKind.i64.wrap (pP+(1:Int)))).length/\0=0/\(v9.2.2.2.2.2.2.2.2.2.1++List.take 1 (List.drop 0 [Vd])).length=(v9.2.2.2.2.2.2.2.2.2.1++List.take 1 (List.drop 0 [Vd])).length/\k10 (IntKind.i64.wrap (v9.1+(1:Int)),v9.2.1,v9.2.2.1,v9.2.2.2.1,v9.2.2.2.2.1,v9.2.2.2.2.2.1,v9.2.2.2.2.2.2.1,v9.2.2.2.2.2.2.2.1,v9.2.2.2.2.2.2.2.2.1.set (0+Vd.toNat) (IntKind.i64.wrap (pP+(1:Int))),v9.2.2.2.2.2.2.2.2.2.1++List.take 1 (List.drop 0 [Vd]),())) (0=0/\v9.2.2.2.2.2.2.2.2.1.length=v9.2.2.2.2.2.2.2.2.1.length/\0=0/\v9.2.2.2.2.2.2.2.2.2.1.length=v9.2.2.2.2.2.2.2.2.2.1.length/\k10 (IntKind.i64.wrap (v9.1+(1:Int)),v9.2.1,v9.2.2.1,v9.2.2.2.1,v9.2.2.2.2.1,v9.2.2.2.2.2.1,v9.2.2.2.2.2.2.1,v9.2.2.2.2.2.2.2.1,v9.2.2.2.2.2.2.2.2.1,v9.2.2.2.2.2.2.2.2.2.1,()))) (0=0/\v9.2.2.2.2.2.2.2.2.1.length=v9.2.2.2.2.2.2.2.2.1.length/\0=0/\v9.2.2.2.2.2.2.2.2.2.1.length=v9.2.2.2.2.2.2.2.2.2.1.length/\k8 (IntKind.i64.wrap (v7.1+(1:Int)),v9.2.1,v9.2.2.1,v9.2.2.2.1,v9.2.2.2.2.1,v9.2.2.2.2.2.1,v9.2.2.2.2.2.2.1,v9.2.2.2.2.2.2.2.1,v9.2.2.2.2.2.2.2.2.1,v9.2.2.2.2.2.2.2.2.2.1,()))) ((0:Int),v7.2.1,v7.2.2.1,v7.2.2.2.1,v7.2.2.2.2.1,v7.2.2.2.2.2.1,v7.2.2.2.2.2.2.1,v7.2.2.2.2.2.2.2.1,v7.2.2.2.2.2.2.2.2.1,v7.2.2.2.2.2.2.2.2.2.1,PUnit.unit)) (P (List.take v7.2.2.2.2.2.2.2.2.1.length (List.drop 0 v7.2.2.2.2.2.2.2.2.1)))) ((0:Int),v4.2.1,v4.2.2.1,v4.2.2.2.1,v4.2.2.2.2.1,v4.2.2.2.2.2.1,v4.2.2.2.2.2.2.1,v4.2.2.2.2.2.2.2.1,v4.2.2.2.2.2.2.2.2.2.2.2.2.1,v4.2.2.2.2.2.2.2.2.2.2.2.2.2.1,PUnit.unit))) ((0:Int),p.1,p.2.1,p.2.2.1,f.1,f.2.1,f.2.2.1,f.2.2.2.1,g.1,g.2.1,g.2.2.1,g.2.2.2.1,List.replicate (↑f.1.length:Int).toNat (Int.ofNat (nat_lit 0)),[],PUnit.unit))=fnW Da (look [(54,Em),(96,Eh),(115,Ky)]) lQ Try.f70 (p,f,g,()) P:=by kernel_rfl
abbrev mU:Type:=List Int×Int×Int×ByteArray×List (List Int)×List (List Int)×List Int×List Int×Bool×List Int×PUnit
theorem Aao (p:Int×ByteArray×List (List Int)×Unit) (f:List (List Int)×List Int×List Int×Bool×Unit) (d s:List Int) (P:List Int->Prop):(∃(y5:List Int),Eh.fn ((p.1,p.2.1,p.2.2.1,()),())=some y5/\ ∃(y6:Int),Em.fn ((f.1,f.2.1,f.2.2.1,f.2.2.2.1,()),s,())=some y6/\ ∃(y7:Int),idx d y6=some y7/\0=0/\0=([]:List Int).length/\Bo (λ(v8:mU) (k9:mU->Prop)=>Br (decide (v8.2.1>(0:Int))) (0=0/\v8.2.2.2.2.2.2.2.2.2.1.length=v8.2.2.2.2.2.2.2.2.2.1.length/\Bo (λ(v10:mU) (k11:mU->Prop)=>Br (decide (v10.2.1<(↑y5.length:Int))) (∃(Tv:Int),idx y5 v10.2.1=some Tv/\ ∃(an:List Int),Rw.fn ((v10.2.2.1,v10.2.2.2.1,v10.2.2.2.2.1,()),v10.1,Tv,())=some an/\ ∃(Pu:Int),Em.fn ((v10.2.2.2.2.2.1,v10.2.2.2.2.2.2.1,v10.2.2.2.2.2.2.2.1,v10.2.2.2.2.2.2.2.2.1,()),an,())=some Pu/\ ∃(Vd:Int),idx d Pu=some Vd/\Br (Vd==IntKind.i64.wrap (v8.2.1-(1:Int))) (∃(Xd:Int),idx y5 v10.2.1=some Xd/\0=0/\v10.2.2.2.2.2.2.2.2.2.1.length=v10.2.2.2.2.2.2.2.2.2.1.length/\v10.2.2.2.2.2.2.2.2.2.1.length+(List.take 1 (List.drop 0 [Xd])).length<=Bm/\0=0/\(v10.2.2.2.2.2.2.2.2.2.1++List.take 1 (List.drop 0 [Xd])).length=(v10.2.2.2.2.2.2.2.2.2.1++List.take 1 (List.drop 0 [Xd])).length/\k9 (an,IntKind.i64.wrap (v8.2.1-(1:Int)),v10.2.2.1,v10.2.2.2.1,v10.2.2.2.2.1,v10.2.2.2.2.2.1,v10.2.2.2.2.2.2.1,v10.2.2.2.2.2.2.2.1,v10.2.2.2.2.2.2.2.2.1,v10.2.2.2.2.2.2.2.2.2.1++List.take 1 (List.drop 0 [Xd]),())) (0=0/\v10.2.2.2.2.2.2.2.2.2.1.length=v10.2.2.2.2.2.2.2.2.2.1.length/\k11 (v10.1,IntKind.i64.wrap (v10.2.1+(1:Int)),v10.2.2.1,v10.2.2.2.1,v10.2.2.2.2.1,v10.2.2.2.2.2.1,v10.2.2.2.2.2.2.1,v10.2.2.2.2.2.2.2.1,v10.2.2.2.2.2.2.2.2.1,v10.2.2.2.2.2.2.2.2.2.1,()))) (0=0/\v10.2.2.2.2.2.2.2.2.2.1.length=v10.2.2.2.2.2.2.2.2.2.1.length/\k9 (v10.1,IntKind.i64.wrap (v8.2.1-(1:Int)),v10.2.2.1,v10.2.2.2.1,v10.2.2.2.2.1,v10.2.2.2.2.2.1,v10.2.2.2.2.2.2.1,v10.2.2.2.2.2.2.2.1,v10.2.2.2.2.2.2.2.2.1,v10.2.2.2.2.2.2.2.2.2.1,()))) (v8.1,(0:Int),v8.2.2.1,v8.2.2.2.1,v8.2.2.2.2.1,v8.2.2.2.2.2.1,v8.2.2.2.2.2.2.1,v8.2.2.2.2.2.2.2.1,v8.2.2.2.2.2.2.2.2.1,v8.2.2.2.2.2.2.2.2.2.1,PUnit.unit)) (P (List.take v8.2.2.2.2.2.2.2.2.2.1.length (List.drop 0 v8.2.2.2.2.2.2.2.2.2.1)))) (s,y7,p.1,p.2.1,p.2.2.1,f.1,f.2.1,f.2.2.1,f.2.2.2.1,[],PUnit.unit))=fnW Da (look [(54,Em),(96,Eh),(115,Rw)]) gU Try.f69 (p,f,d,s,()) P:=by kernel_rfl
theorem sIx {p:PP} (hv:Ba p=true) {x:List Int} (hx:x.length=p.1.toNat):Em.fn (((Ai p.2.2.1 (upto p.1.toNat)).1,(Ai p.2.2.1 (upto p.1.toNat)).2.1,(Ai p.2.2.1 (upto p.1.toNat)).2.2.1,(Ai p.2.2.1 (upto p.1.toNat)).2.2.2.1,()),x,())=some (Qf (Aa p) x):=
 if_pos (by show Cx x.length (Aa p) (Ts (Aa p));rw [hx];exact (Yu hv).ok)
theorem OD {p:PP} {x:List Int} (hx:x∈Aa p):Qf (Aa p) x=(((Aa p).idxOf x:Nat):Int):=if_pos hx
theorem Aeg (p:PP) (f g:SS) (h: ∃t,Ho p t=true/\f=Ai p.2.2.1 (upto p.1.toNat)/\g=Ai (An p t).2.2.1 (upto p.1.toNat)):
  fnW Da (look [(54,Em),(96,Eh),(115,Ky)]) lQ Try.f70 (p,f,g,()) (λ(z:List Int)=>z=cj (Dc p) (λi=>decide ((Aa p).getD i []∈g.1)) (Aa p).length):=by
 obtain ⟨t,hw,rfl,rfl⟩:=h
 obtain ⟨gF,YE⟩:=Ig.1 hw
 have hv:=(Bt gF).1
 have hV:=valid hv
 have hn:=hV.n
 have hvs:=gZ YE
 have YC:=dW hv
 have hR:=Xs gF
 have hc:=Lj gF
 obtain ⟨m,hm⟩: ∃m,(Aa p).length=m:=⟨_,rfl⟩
 obtain ⟨S,hS⟩: ∃S:Nat->Bool,(λ(i:Nat)=>decide ((Aa p).getD i []∈Aa (An p t)))=S:=⟨_,rfl⟩
 have hSi: ∀i:Nat,decide ((Aa p).getD i []∈Aa (An p t))=S i:= λi=>congrFun hS i
 show fnW _ _ lQ _ _ (λz=>z=cj (Dc p) (λi=>decide ((Aa p).getD i []∈Aa (An p t))) (Aa p).length)
 rw [hS]
 obtain ⟨ls,Yj⟩: ∃ls,Ae p.2.2.1.length=ls:=⟨_,rfl⟩
 have SB:=Pd hV
 rw [Yj] at SB hc
 have cY: ∀l∈ls,Dh (List.length p.2.2.1) l:= λl hl=>Fo (Yj▸hl)
 rw [hm] at YC hR⊢
 have hL:(Ai p.2.2.1 (upto p.1.toNat)).1.length=m:=hm
 refine Eq.mp (Af0 p _ _ _) ?_
 rw [hL,Int.toNat_natCast]
 refine ⟨⟨by omega,by show (m:Int)<(4294967296:Int)+1;omega⟩,rfl,rfl,rfl,rfl,rfl,?_⟩
 refine Ap m (λv=>v.1) (λj v=> ∃out q:List Int,v=((j:Int),p.1,p.2.1,p.2.2.1,(Ai p.2.2.1 (upto p.1.toNat)).1,(Ai p.2.2.1 (upto p.1.toNat)).2.1,(Ai p.2.2.1 (upto p.1.toNat)).2.2.1,(Ai p.2.2.1 (upto p.1.toNat)).2.2.2.1,
   (Ai (An p t).2.2.1 (upto p.1.toNat)).1,(Ai (An p t).2.2.1 (upto p.1.toNat)).2.1,(Ai (An p t).2.2.1 (upto p.1.toNat)).2.2.1,(Ai (An p t).2.2.1 (upto p.1.toNat)).2.2.2.1,out,q,())/\
   q=JX S j/\out.length=m/\ ∀k,k<m->out.getD k 0=if k<j then (if S k=true then 0 else-1) else 0) rfl ⟨_,_,rfl,rfl,by simp,λk hk=>?_⟩ ?_
 ·rw [if_neg (by omega),Bu (by simpa using hk),List.getElem_replicate];rfl
 rintro j v K hj hi ⟨out,q,rfl,rfl,h2,h3⟩ hK
 dsimp only
 have hql:=DM S j
 rw [h2]
 refine Br.dec (λhl=>?_) λhl=>?_
 ·have hl:j<m:=by omega
  have hjm:j<(Aa p).length:=by omega
  have hx:=Ib (L:=Aa p) hjm
  refine ⟨⟨by omega,by omega⟩,by rw [Int.toNat_natCast];omega,(Aa p).getD j [],by rw [Bu hjm];exact Au hjm,Qf (Aa (An p t)) ((Aa p).getD j []),sIx (p:=An p t) hvs (dV hv hx).1,?_⟩
  have hS1: ∀k,k<m->((out.set j (-1)).getD k 0=if k<j+1 then (if k<j/\S k=true then 0 else-1) else 0):=uE h2 hl h3 (by rw [if_pos (by omega),if_neg (by omega)]) λk hk=>by
   by_cases nX:k<j
   ·rw [if_pos (by omega),if_pos nX]
    by_cases hs:S k=true
    ·rw [if_pos hs,if_pos ⟨nX,hs⟩]
    ·rw [if_neg hs,if_neg λh=>hs h.2]
   ·rw [if_neg (by omega),if_neg nX]
  have kh:(Qf (Aa (An p t)) ((Aa p).getD j [])>=0)↔S j=true:=by
   rw [<-hSi j,decide_eq_true_iff]
   unfold Qf
   split
   ·rename_i Iv;exact ⟨λ_=>Iv,λ_=>by omega⟩
   ·rename_i Iv;exact ⟨λh=>absurd h (by omega),λh=>absurd h Iv⟩
  refine Br.dec (λhb=>?_) λhb=>?_
  ·have hs:=kh.1 hb
   refine ⟨⟨by omega,by omega⟩,by rw [Int.toNat_natCast,List.length_set];omega,rfl,rfl,by show (JX S j).length+1<=4294967296;omega,rfl,by rw [List.length_set,List.length_set,h2],rfl,rfl,?_⟩
   rw [Ak (by omega),Int.toNat_natCast,Nat.zero_add]
   refine hK hl _ rfl ⟨_,_,rfl,?_,by rw [List.length_set,List.length_set];exact h2,?_⟩
   ·rw [iB,if_pos hs];rfl
   ·refine uE (by rw [List.length_set];exact h2) hl hS1 (by rw [if_pos (by omega),if_pos hs]) λk hk=>?_
    by_cases nX:k<j
    ·rw [if_pos (show k<j+1 by omega),if_pos (show k<j+1 by omega)]
     by_cases hs:S k=true
     ·rw [if_pos hs,if_pos ⟨nX,hs⟩]
     ·rw [if_neg hs,if_neg λh=>hs h.2]
    ·rw [if_neg (show ¬k<j+1 by omega),if_neg (show ¬k<j+1 by omega)]
  ·have hs: ¬S j=true:= λh=>hb (kh.2 h)
   refine ⟨rfl,by rw [List.length_set,h2],rfl,rfl,?_⟩
   rw [Ak (by omega),Int.toNat_natCast,Nat.zero_add]
   refine hK hl _ rfl ⟨_,_,rfl,?_,by rw [List.length_set];exact h2,λk hk=>?_⟩
   ·rw [iB,if_neg hs]
   ·rw [hS1 k hk]
    by_cases nX:k<j+1
    ·rw [if_pos nX,if_pos nX]
     by_cases QK:k<j/\S k=true
     ·rw [if_pos QK,if_pos QK.2]
     ·rw [if_neg QK,if_neg λh=>QK ⟨by
       by_cases e:k=j
       ·subst e;exact absurd h hs
       ·omega,h⟩]
    ·rw [if_neg nX,if_neg nX]
 ·have:j=m:=by omega
  subst this
  have o3:out=zz S j:=rP (by rw [h2];simp [zz]) λk hk=>by
   rw [h3 k (by omega),Pw (by omega),if_pos (by omega)]
  subst o3
  refine ⟨ls,(if_pos hV.cn.2).trans (congrArg some Yj),rfl,rfl,rfl,rfl,?_⟩
  refine Bo.mk (λv=> ∃(pre q out:List Int) (f:Nat),v=((pre.length:Int),p.1,p.2.1,p.2.2.1,(Ai p.2.2.1 (upto p.1.toNat)).1,(Ai p.2.2.1 (upto p.1.toNat)).2.1,(Ai p.2.2.1 (upto p.1.toNat)).2.2.1,(Ai p.2.2.1 (upto p.1.toNat)).2.2.2.1,out,pre++q,())/\
    DQ (Dc p) S j out q/\q.length+Uv out<f/\mc (Dc p) f out q=cj (Dc p) S j/\pre.length+(q.length+Uv out)<=j/\ ∀i,i<j->out.getD i 0<=pre.length) (λv=>j-v.1.toNat)
   ⟨[],QF S j,zz S j,j+1,rfl,iA _ _ _,by rw [rT];omega,rfl,by rw [rT];simp,λi hi=>by rw [Pw hi];simp only [List.length_nil];split<;>omega⟩ ?_
  rintro v ⟨pre,q,out,f,rfl,g1,g2,g3,g4,g5⟩
  dsimp only
  have hol:=g1.base.len
  refine Br.dec (λhl=>?_) λhl=>?_
  ·obtain ⟨x,q',rfl⟩: ∃x q',q=x::q':=by
    cases q with
    |nil=>simp at hl
    |cons x q'=>exact ⟨x,q',rfl⟩
   obtain ⟨x1,x2,x3⟩:=g1.base.WC x (by simp)
   obtain ⟨xn,rfl⟩:=Int.eq_ofNat_of_zero_le x1
   have vP:xn<j:=by omega
   have hxm:xn<(Aa p).length:=by omega
   rw [Int.toNat_natCast] at x3
   obtain ⟨f,rfl⟩: ∃f',f=f'+1:=⟨f-1,by omega⟩
   simp only [mc,Int.toNat_natCast] at g3
   simp only [List.length_cons] at g2 g4
   refine ⟨rfl,rfl,rfl,rfl,?_⟩
   obtain ⟨o1,o2⟩:=List.pairwise_cons.1 g1.base.ord
   simp only [Int.toNat_natCast] at o1
   have hX0:DX (Dc p) S j xn (out.getD xn 0) out q':=by
    refine ⟨⟨g1.base.len,g1.base.ge,λy hy=>g1.base.WC y (List.mem_cons_of_mem _ hy),g1.base.src,g1.base.OP,g1.base.par,λi hi h0 hn hw=>g1.base.done i hi h0 (λhm=>?_) (λh=>h),o2⟩,vP,rfl,x3,o1,?_⟩
    ·rcases List.mem_cons.1 hm with e|hm
     ·exact hw (by omega)
     ·exact hn hm
    ·have:=g1.hi (xn:Int) q' rfl
     rwa [Int.toNat_natCast] at this
   have hnl:(Dc p xn).length=ls.length:=by rw [dt,Yj]
   obtain ⟨d,hd⟩: ∃d,out.getD xn 0=d:=⟨_,rfl⟩
   rw [hd] at hX0
   have hdT:d<=pre.length:=by rw [<-hd];exact g5 xn vP
   have hxs:=Ib (L:=Aa p) hxm
   have Adu:=dV hv hxs
   refine Ap ls.length (λv=>v.1) (λk v=> ∃(qq o:List Int),v=((k:Int),p.1,p.2.1,p.2.2.1,(Ai p.2.2.1 (upto p.1.toNat)).1,(Ai p.2.2.1 (upto p.1.toNat)).2.1,(Ai p.2.2.1 (upto p.1.toNat)).2.2.1,(Ai p.2.2.1 (upto p.1.toNat)).2.2.2.1,o,pre++(xn:Int)::qq,())/\
     DX (Dc p) S j xn d o qq/\qq.length+Uv o=q'.length+Uv out/\Qu (xn:Int) ((Dc p xn).drop k) (o,qq)=Qu (xn:Int) (Dc p xn) (out,q')) rfl ⟨q',out,rfl,hX0,rfl,by rw [List.drop_zero]⟩ ?_
   rintro k v K2 hk hki ⟨qq,o,rfl,hX,hcn,Iv⟩ hK2
   dsimp only
   have hXb:=hX.base.len
   have hgx:(pre++(xn:Int)::qq)[0+((pre.length:Nat):Int).toNat]?=some (xn:Int):=by
    rw [Int.toNat_natCast,Nat.zero_add,List.getElem?_append_right (Nat.le_refl _),Nat.sub_self];rfl
   have cZ:((pre.length:Nat):Int)<((pre++(xn:Int)::qq).length:Int):=by rw [List.length_append,List.length_cons];omega
   refine Br.dec (λHx=>?_) λHx=>?_
   ·have Hx:k<ls.length:=by omega
    have hkN:k<(Dc p xn).length:=by omega
    have nZ:=List.getElem_mem Hx
    have iU:=cY _ nZ
    have hy:=hc.next _ hxs _ nZ
    have htv:(Dc p xn)[k]=Qf (Aa p) (Ab ((Aa p).getD xn []) (Af p.2.2.1 ls[k])):=by
     rw [OD hy];simp only [Dc,og,List.getElem_map,Yj]
    have QS:=hR xn vP _ (List.getElem_mem hkN)
    have VX:=List.getElem_mem hkN
    rw [List.drop_eq_getElem_cons hkN] at Iv
    rw [htv] at QS Iv VX
    generalize Qw:Qf (Aa p) (Ab ((Aa p).getD xn []) (Af p.2.2.1 ls[k]))=ty at*
    obtain ⟨tn,rfl⟩:=Int.eq_ofNat_of_zero_le QS.1
    have htj:tn<j:=by omega
    simp only [Qu] at Iv
    rw [Int.toNat_natCast] at Iv
    have VP:o.getD ((xn:Nat):Int).toNat 0=d:=by rw [Int.toNat_natCast];exact hX.Nv
    refine ⟨⟨by omega,cZ⟩,(xn:Int),hgx,(Aa p).getD xn [],by rw [Bu hxm];exact Au hxm,_,Au Hx,_,if_pos ⟨hv,OC Adu,xW hV Adu,iU⟩,(tn:Int),(sIx hv (dV hv hy).1).trans (congrArg some Qw),⟨by omega,by omega⟩,o.getD tn 0,GF (by omega),Br.dec (λcd=>?_) λcd=>?_⟩
    ·rw [if_pos cd,VP] at Iv
     have o4:=sX hR hX VX QS (by rw [Int.toNat_natCast];exact cd)
     rw [Int.toNat_natCast] at o4
     have YG:=ov (xs:=o) (i:=tn) (v:=d+1) (by omega) cd (by have:=hX.d0;omega)
     have RU:=hX.d0
     refine ⟨⟨by omega,cZ⟩,(xn:Int),hgx,⟨by omega,by omega⟩,d,by rw [GF (by omega),<-hX.Nv],⟨by omega,by omega⟩,by rw [Int.toNat_natCast];omega,rfl,rfl,?_,rfl,by rw [List.length_set],rfl,rfl,?_⟩
     ·show (pre++(xn:Int)::qq).length+1<=4294967296
      rw [List.length_append,List.length_cons];omega
     ·rw [Ak (by omega),Int.toNat_natCast,Nat.zero_add,Bd (n:=d+1) (by omega) (by omega)]
      refine hK2 Hx _ rfl ⟨qq++ [(tn:Int)],o.set tn (d+1),?_,o4,?_,Iv⟩
      ·rw [List.append_assoc];rfl
      ·rw [List.length_append,List.length_singleton]
       omega
    ·rw [if_neg cd] at Iv
     refine ⟨rfl,rfl,rfl,rfl,?_⟩
     rw [Ak (by omega)]
     exact hK2 Hx _ rfl ⟨qq,o,rfl,hX,hcn,Iv⟩
   ·have Hx:k=ls.length:=by omega
    subst Hx
    rw [List.drop_of_length_le (by omega),Qu] at Iv
    rw [<-Iv] at g3
    have MB:=(zy hR g1).1
    rw [Int.toNat_natCast,<-Iv] at MB
    rw [Ak (by omega)]
    refine ⟨rfl,rfl,rfl,rfl,⟨pre++ [(xn:Int)],qq,o,f,?_,MB,by omega,g3,by rw [List.length_append,List.length_singleton];omega,λi hi=>?_⟩,?_⟩
    ·rw [List.length_append,List.append_assoc];rfl
    ·have:=hX.hi i hi
     rw [List.length_append,List.length_singleton]
     push_cast
     omega
    ·show j-(((pre.length+1:Nat):Int)).toNat<j-((pre.length:Nat):Int).toNat
     omega
  ·have:q= []:=by
    cases q with
    |nil=>rfl
    |cons x q'=>exact absurd (show ((pre.length:Nat):Int)<((pre++x::q').length:Int) by rw [List.length_append,List.length_cons];omega) hl
   subst this
   rw [Ax]
   cases f with
   |zero=>exact g3
   |succ f=>exact g3
theorem IT:Sound Try.prog 70 lQ:=
 Sound.Dg Cg (Ah Qp (Ah Oh (Ah Uy As))) mixed Try.func70 (by kernel_rfl) (by kernel_rfl) λx h=>Aeg x.1 x.2.1 x.2.2.1 h
theorem ZT (p:PP) (f:SS) (d s:List Int) (h:Bz p=true/\f=Ai p.2.2.1 (upto p.1.toNat)/\vV p d/\s∈Aa p):fnW Da (look [(54,Em),(96,Eh),(115,Rw)]) gU Try.f69 (p,f,d,s,()) (λ(z:List Int)=>z=It p d s):=by
 obtain ⟨hw,rfl,⟨hdl,hdb,Sd,hd⟩,hs⟩:=h
 have hv:=(Bt hw).1
 have hV:=valid hv
 have hn:=hV.n
 have bL:=Yu hv
 have tq:=bL.ok.cn
 have hc:=Lj hw
 obtain ⟨ls,Yj⟩: ∃ls,Ae p.2.2.1.length=ls:=⟨_,rfl⟩
 have cY: ∀l∈ls,Dh (List.length p.2.2.1) l:= λl hl=>Fo (Yj▸hl)
 have wU: ∀x,d.getD ((Aa p).idxOf x) 0=Is p d x:= λx=>rfl
 rw [Yj] at hc hd
 have hdo: ∀x,x∈Aa p->Em.fn (((Ai p.2.2.1 (upto p.1.toNat)).1,(Ai p.2.2.1 (upto p.1.toNat)).2.1,(Ai p.2.2.1 (upto p.1.toNat)).2.2.1,(Ai p.2.2.1 (upto p.1.toNat)).2.2.2.1,()),x,())=some (((Aa p).idxOf x:Nat):Int)/\idx d (((Aa p).idxOf x:Nat):Int)=some (Is p d x):= λx hx=>by
  have hi:=List.idxOf_lt_length_of_mem hx
  refine ⟨(sIx hv (dV hv hx).1).trans (congrArg some (OD hx)),?_⟩
  rw [Au (by omega),<-wU,Bu]
 have SB:=Pd hV
 rw [Yj] at SB
 have RU:0<=Is p d s/\Is p d s<=3000:=⟨hd.nn s hs,hdb _ (by have:=List.idxOf_lt_length_of_mem hs;omega)⟩
 unfold It
 rw [Yj]
 obtain ⟨q1,q2⟩:=hdo s hs
 refine Eq.mp (Aao p _ d s _) ⟨ls,(if_pos hV.cn.2).trans (congrArg some Yj),_,q1,_,q2,rfl,rfl,?_⟩
 obtain ⟨R,hR⟩: ∃R,Xb p.2.2.1 (Is p d) ls (Is p d s).toNat s []=R:=⟨_,rfl⟩
 rw [hR]
 obtain ⟨n0,SD⟩:=Int.eq_ofNat_of_zero_le RU.1
 rw [SD] at hR RU⊢
 rw [Int.toNat_natCast] at hR
 refine Bo.mk (λv=> ∃(x:List Int) (n:Nat) (w:List Int),v=(x,(n:Int),p.1,p.2.1,p.2.2.1,(Ai p.2.2.1 (upto p.1.toNat)).1,(Ai p.2.2.1 (upto p.1.toNat)).2.1,(Ai p.2.2.1 (upto p.1.toNat)).2.2.1,(Ai p.2.2.1 (upto p.1.toNat)).2.2.2.1,w,())/\x∈Aa p/\Is p d x=n/\w.length+n<=3000/\Xb p.2.2.1 (Is p d) ls n x w=R) (λv=>v.2.1.toNat)
  ⟨s,n0,[],rfl,hs,SD,by simp only [List.length_nil];omega,hR⟩ ?_
 rintro v ⟨x,n,w,rfl,g1,g2,g3,g4⟩
 dsimp only
 refine Br.dec (λhl=>⟨rfl,rfl,?_⟩) λhl=>?_
 ·obtain ⟨n,rfl⟩: ∃n',n=n'+1:=⟨n-1,by omega⟩
  simp only [Xb] at g4
  have QT:x.length=p.1.toNat:=(dV hv g1).1
  have GP: ∀y∈x,0<=y/\y<p.1:=bL.row x g1
  have hwr:IntKind.i64.wrap (((n+1:Nat):Int)-1)=(n:Int):=by rw [Bd (by omega) (by omega)];omega
  rw [hwr]
  refine Ap ls.length (λv=>v.2.1) (λi v=>v=(x,(i:Int),p.1,p.2.1,p.2.2.1,(Ai p.2.2.1 (upto p.1.toNat)).1,(Ai p.2.2.1 (upto p.1.toNat)).2.1,(Ai p.2.2.1 (upto p.1.toNat)).2.2.1,(Ai p.2.2.1 (upto p.1.toNat)).2.2.2.1,w,())/\
   (ls.drop i).find? (λl=>decide (Is p d (Ab x (Af p.2.2.1 l))=n))=ls.find? (λl=>decide (Is p d (Ab x (Af p.2.2.1 l))=n))) rfl ⟨rfl,by rw [List.drop_zero]⟩ ?_
  rintro i v K hi hii ⟨rfl,hf⟩ hK
  dsimp only
  refine Br.dec (λvL=>?_) λvL=>?_
  ·have vL:i<ls.length:=by omega
   have nZ:=List.getElem_mem vL
   have iU:=cY _ nZ
   obtain ⟨nl,nr⟩:=jf hV GP iU
   have hnx:=hc.next x g1 _ nZ
   rw [List.drop_eq_getElem_cons vL] at hf
   obtain ⟨q1,q2⟩:=hdo _ hnx
   refine ⟨_,Au vL,_,if_pos ⟨hv,by show x.length<=20;omega,GP,iU⟩,_,q1,_,q2,Br.of (λhb=>?_) λhb=>?_⟩
   ·have hb:Is p d (Ab x (Af p.2.2.1 ls[i]))=n:=by simpa using hb
    rw [List.find?_cons_of_pos (by simpa using hb)] at hf
    rw [<-hf] at g4
    refine ⟨_,Au vL,rfl,rfl,?_,rfl,rfl,⟨_,n,w++ [ls[i]],rfl,hnx,hb,by rw [List.length_append,List.length_singleton];omega,g4⟩,?_⟩
    ·show w.length+1<=4294967296;omega
    ·show ((n:Int)).toNat<(((n+1:Nat):Int)).toNat
     omega
   ·have hb: ¬Is p d (Ab x (Af p.2.2.1 ls[i]))=n:=by simpa using hb
    rw [List.find?_cons_of_neg (by simpa using hb)] at hf
    refine ⟨rfl,rfl,?_⟩
    rw [Ak (by omega)]
    exact hK vL _ rfl ⟨rfl,hf⟩
  ·have:i=ls.length:=by omega
   subst this
   rw [List.drop_length,List.find?_nil] at hf
   obtain ⟨l,nZ,hle⟩:=hd.down x g1 (by rw [wU,g2];omega)
   have:=List.find?_eq_none.1 hf.symm l nZ
   rw [wU,wU,g2] at hle
   exact absurd (decide_eq_true (by rw [hle];omega)) this
 ·rw [Ax]
  have:n=0:=by omega
  subst this
  rw [<-g4]
  rfl
theorem CC:Sound Try.prog 69 gU:=
 Sound.Dg Cg (Ah Qp (Ah Oh (Ah fK As))) mixed Try.func69 (by kernel_rfl) (by kernel_rfl) λx h=>ZT x.1 x.2.1 x.2.2.1 x.2.2.2.1 h
theorem IZ {p:PP} {t:List Int} (hw:Bz p=true) (hm:Bk p t=true):(Aa p).getD 0 []∈Aa (An p t):=by
 rw [(ll (Bt hw).1).1]
 exact (ll (gZ hm)).2
theorem uk {p:PP} {t:List Int} (hw:Bz p=true) (hm:Bk p t=true):
  vV p (Kw p t)/\Ip p.2.2.1 (Ae p.2.2.1.length) (Aa p) (λx=>x∈Aa (An p t)) (λx=>(Kw p t).getD ((Aa p).idxOf x) 0):=by
 have hv:=(Bt hw).1
 have hR:=Xs hw
 have YC:=dW hv
 have hlen:(Kw p t).length=(Aa p).length:=(UL hR).len
 have hd:=RH hw (λi=>decide ((Aa p).getD i []∈Aa (An p t))) (i0:=0) (by have:=OR hv;omega) (decide_eq_true (IZ hw hm))
 refine ⟨⟨hlen,λi hi=>?_,_,hd⟩,hd.congr λx hx=>?_⟩
 ·have:=Abu (S:= λi=>decide ((Aa p).getD i []∈Aa (An p t))) hR (i:=i) (by omega)
  show (cj (Dc p) (λi=>decide ((Aa p).getD i []∈Aa (An p t))) (Aa p).length).getD i 0<=3000
  omega
 ·have h1:=List.idxOf_lt_length_of_mem hx
  rw [Bu h1,List.getElem_idxOf h1,decide_eq_true_iff]
theorem NK {p:PP} {d s:List Int} (hd:vV p d) (hs:s∈Aa p):(It p d s).length<=3000:=by
 have h1:=uT (g:=p.2.2.1) (dep:=Is p d) (ls:=Ae p.2.2.1.length) (Is p d s).toNat s []
 have h2:=hd.2.1 _ (by rw [hd.1];exact List.idxOf_lt_length_of_mem hs)
 unfold It
 simp only [List.length_nil] at h1
 unfold Is at*
 omega
end Go.Proofs.Ytjbdmibbbpdnnaa

namespace Go.Proofs.Ytjbdmibbbpdnnaa
open Go.RowKit
abbrev Ak1:Ty:= .clo (56+1000000000) (.pair (.optr bx) .unit)
def Abr (e:Option XP) (h:Option HP):Prop:= ∃p t,Ho p t=true/\h=some (Dn p t)/\e=some (Fu p)
noncomputable abbrev Tr:Spec:=Dg (.pair (.optr c6) (.pair Ak1 .unit)) tL false true (λx=>Abr x.1 x.2.1.1) (λx=>xo x.1 λi=>gL x.2.1.1 (i:Int))
abbrev kZ:Type:=(Int×ByteArray×List (List Int)×PUnit)×List (List Int)×List Int×(ByteArray->Option Int)×List Int×List Int×List (List Int)×PUnit
theorem PS (e:Option XP) (c:Option (Option XP×List Int×Option XP×Unit)×Unit) (P:List Int->Prop):(∃(y3:kZ),e=some y3/\ ∃(y4:(List Int×PUnit)×PUnit),aa.fn (List.take 1 (List.drop 0 [(-1:Int)]),(↑y3.2.1.length:Int),())=some y4/\ ∃(y5:kZ),e=some y5/\ ∃(y6:Int),Oe.fn (y5.2.1,())=some y6/\0=0/\y4.1.1.length=y4.1.1.length/\0=0/\(List.take 0 (List.drop 0 ([]:List Int))).length=(List.take 0 (List.drop 0 ([]:List Int))).length/\Bo (λ(v7:Int×List Int×List Int×PUnit) (k8:Int×List Int×List Int×PUnit->Prop)=>Br (decide (v7.1<y6)) (∃(y9:Bool),gT.fn (c.1,v7.1,())=some y9/\Br y9 (((0:Int)<=v7.1/\v7.1<(↑v7.2.2.1.length:Int))/\0+v7.1.toNat<v7.2.2.1.length/\0=0/\v7.2.1.length=v7.2.1.length/\v7.2.1.length+(List.take 1 (List.drop 0 [v7.1])).length<=Bm/\0=0/\v7.2.2.1.length=(v7.2.2.1.set (0+v7.1.toNat) (0:Int)).length/\0=0/\(List.take (v7.2.1++List.take 1 (List.drop 0 [v7.1])).length (List.drop 0 (v7.2.1++List.take 1 (List.drop 0 [v7.1])))).length=(List.take (v7.2.1++List.take 1 (List.drop 0 [v7.1])).length (List.drop 0 (v7.2.1++List.take 1 (List.drop 0 [v7.1])))).length/\k8 (IntKind.i64.wrap (v7.1+(1:Int)),List.take (v7.2.1++List.take 1 (List.drop 0 [v7.1])).length (List.drop 0 (v7.2.1++List.take 1 (List.drop 0 [v7.1]))),v7.2.2.1.set (0+v7.1.toNat) (0:Int),())) (0=0/\v7.2.2.1.length=v7.2.2.1.length/\0=0/\(List.take v7.2.1.length (List.drop 0 v7.2.1)).length=(List.take v7.2.1.length (List.drop 0 v7.2.1)).length/\k8 (IntKind.i64.wrap (v7.1+(1:Int)),List.take v7.2.1.length (List.drop 0 v7.2.1),v7.2.2.1,()))) (0=0/\v7.2.2.1.length=v7.2.2.1.length/\0=0/\(List.take v7.2.1.length (List.drop 0 v7.2.1)).length=(List.take v7.2.1.length (List.drop 0 v7.2.1)).length/\Bo (λ(v9:List Int×List Int×PUnit) (k10:List Int×List Int×PUnit->Prop)=>Br (decide ((↑v9.1.length:Int)>(0:Int))) (∃(Im:kZ),e=some Im/\((0:Int)<=(0:Int)/\(0:Int)<(↑v9.1.length:Int))/\ ∃(Tv:Int),v9.1[0+Int.toNat (0:Int)]?=some Tv/\ ∃(an:List Int),idx Im.2.2.2.2.2.2.1 Tv=some an/\0=0/\v9.2.1.length=v9.2.1.length/\0=0/\(List.take v9.1.length (List.drop 0 v9.1)).length=(List.take v9.1.length (List.drop 0 v9.1)).length/\Bo (λ(Xc:Int×List Int×List Int×PUnit) (k15:Int×List Int×List Int×PUnit->Prop)=>Br (decide (Xc.1<(↑an.length:Int))) (∃(Xd:Int),idx an Xc.1=some Xd/\((0:Int)<=Xd/\Xd<(↑Xc.2.2.1.length:Int))/\ ∃(pK:Int),Xc.2.2.1[0+Xd.toNat]?=some pK/\Br (decide (pK<(0:Int))) (((0:Int)<=(0:Int)/\(0:Int)<(↑Xc.2.1.length:Int))/\ ∃(pP:Int),Xc.2.1[0+Int.toNat (0:Int)]?=some pP/\((0:Int)<=pP/\pP<(↑Xc.2.2.1.length:Int))/\ ∃(QV:Int),Xc.2.2.1[0+pP.toNat]?=some QV/\((0:Int)<=Xd/\Xd<(↑Xc.2.2.1.length:Int))/\0+Xd.toNat<Xc.2.2.1.length/\0=0/\Xc.2.1.length=Xc.2.1.length/\Xc.2.1.length+(List.take 1 (List.drop 0 [Xd])).length<=Bm/\0=0/\Xc.2.2.1.length=(Xc.2.2.1.set (0+Xd.toNat) (IntKind.i64.wrap (QV+(1:Int)))).length/\0=0/\(List.take (Xc.2.1++List.take 1 (List.drop 0 [Xd])).length (List.drop 0 (Xc.2.1++List.take 1 (List.drop 0 [Xd])))).length=(List.take (Xc.2.1++List.take 1 (List.drop 0 [Xd])).length (List.drop 0 (Xc.2.1++List.take 1 (List.drop 0 [Xd])))).length/\k15 (IntKind.i64.wrap (Xc.1+(1:Int)),List.take (Xc.2.1++List.take 1 (List.drop 0 [Xd])).length (List.drop 0 (Xc.2.1++List.take 1 (List.drop 0 [Xd]))),Xc.2.2.1.set (0+Xd.toNat) (IntKind.i64.wrap (QV+(1:Int))),())) (0=0/\Xc.2.2.1.length=Xc.2.2.1.length/\0=0/\(List.take Xc.2.1.length (List.drop 0 Xc.2.1)).length=(List.take Xc.2.1.length (List.drop 0 Xc.2.1)).length/\k15 (IntKind.i64.wrap (Xc.1+(1:Int)),List.take Xc.2.1.length (List.drop 0 Xc.2.1),Xc.2.2.1,()))) (((0:Int)<=(1:Int)/\(1:Int)<=(↑Xc.2.1.length:Int)/\(↑Xc.2.1.length:Int)<=(↑Xc.2.1.length:Int))/\0=0/\Xc.2.2.1.length=Xc.2.2.1.length/\0=0/\(List.take ((↑Xc.2.1.length:Int).toNat-Int.toNat (1:Int)) (List.drop (0+Int.toNat (1:Int)) Xc.2.1)).length=(List.take ((↑Xc.2.1.length:Int).toNat-Int.toNat (1:Int)) (List.drop (0+Int.toNat (1:Int)) Xc.2.1)).length/\k10 (List.take ((↑Xc.2.1.length:Int).toNat-Int.toNat (1:Int)) (List.drop (0+Int.toNat (1:Int)) Xc.2.1),Xc.2.2.1,()))) ((0:Int),List.take v9.1.length (List.drop 0 v9.1),v9.2.1,PUnit.unit)) (P (List.take v9.2.1.length (List.drop 0 v9.2.1)))) (List.take v7.2.1.length (List.drop 0 v7.2.1),v7.2.2.1,PUnit.unit))) ((0:Int),List.take 0 (List.drop 0 []),y4.1.1,PUnit.unit))=fnW (Aa6 [Ih+6]) (look [(122,aa),(58,Oe),(56,gT)]) Tr Try.f71 (e,c,()) P:=by kernel_rfl
theorem NR (e:Option XP) (c:Option HP×Unit) (h:Abr e c.1):fnW (Aa6 [Ih+6]) (look [(122,aa),(58,Oe),(56,gT)]) Tr Try.f71 (e,c,()) (λ(z:List Int)=>z=xo e λi=>gL c.1 (i:Int)):=by
 obtain ⟨p,t,hw,JZ,rfl⟩:=h
 obtain ⟨ch,⟨⟩⟩:=c
 dsimp only at JZ
 subst JZ
 have hx:jK (Fu p):=⟨(Ig.1 hw).1,rfl⟩
 obtain ⟨e',GH⟩: ∃e':XP,Fu p=e':=⟨_,rfl⟩
 have hep:e'.1=p:=by rw [<-GH];rfl
 rw [GH] at hx⊢
 have Qv:=Abx hx
 have SN:=Bt hx.1
 have YC:=dW SN.1
 have LY:=OR SN.1
 have hR:=Xs hx.1
 have hV:=valid SN.1
 have SB:=Pd hV
 obtain ⟨m,hm⟩: ∃m,(Aa e'.1).length=m:=⟨_,rfl⟩
 obtain ⟨S,hS⟩: ∃S:Nat->Bool,(λ(i:Nat)=>gL (some (Dn p t)) (i:Int))=S:=⟨_,rfl⟩
 have hSi: ∀i:Nat,gL (some (Dn p t)) (i:Int)=S i:= λi=>congrFun hS i
 show fnW _ _ Tr _ _ (λz=>z=cj (Dc e'.1) (λi=>gL (some (Dn p t)) (i:Int)) (Aa e'.1).length)
 rw [hS]
 have Ob: ∀i:Nat,i<m->gT.fn (some (Dn p t),(i:Int),())=some (S i):= λi hi=>by
  refine (if_pos ⟨p,t,hw,rfl,by show (0:Int)<=i;omega,?_⟩).trans (congrArg some (hSi i))
  show (i:Int)<(((Aa p).length:Nat):Int)
  rw [<-hep];omega
 rw [hm] at YC LY hR⊢
 refine Eq.mp (PS _ _ _) ⟨e',rfl,((List.replicate m (-1),()),()),?_,e',rfl,(m:Int),?_,rfl,rfl,rfl,rfl,?_⟩
 ·rw [Qv,hm]
  refine (if_pos ⟨⟨-1,rfl⟩,by show (1:Int)<=m;omega,by show (m:Int)<=100000;omega⟩).trans ?_
  show some ((List.replicate ((m:Int)).toNat (-1),()),())=_
  rw [Int.toNat_natCast]
 ·exact (if_pos trivial).trans (congrArg some (by show ((e'.2.1.length:Nat):Int)=m;rw [Qv,hm]))
 refine Ap m (λv=>v.1) (λj v=>v.2.1=JX S j/\v.2.2.1.length=m/\ ∀k,k<m->v.2.2.1.getD k 0=if k<j/\S k=true then 0 else-1) rfl ⟨rfl,by simp,λk hk=>?_⟩ ?_
 ·rw [if_neg (by omega),Bu (by simpa using hk),List.getElem_replicate]
 rintro j ⟨i,q,out,⟨⟩⟩ K hj hi ⟨h1,h2,h3⟩ hK
 dsimp only at hi h1 h2 h3⊢
 subst hi h1
 have hql:=DM S j
 refine Br.dec (λhl=>?_) λhl=>⟨rfl,rfl,rfl,rfl,?_⟩
 ·have hl:j<m:=by omega
  refine ⟨S j,Ob j hl,Br.of (λhs=>?_) λhs=>?_⟩
  ·refine ⟨⟨by omega,by omega⟩,by rw [Int.toNat_natCast];omega,rfl,rfl,by show (JX S j).length+1<=4294967296;omega,rfl,by rw [List.length_set],rfl,rfl,?_⟩
   rw [Ax,Ak (by omega),Int.toNat_natCast,Nat.zero_add]
   refine hK hl _ rfl ⟨?_,by rw [List.length_set];exact h2,?_⟩
   ·show JX S j++ [(j:Int)]=_
    rw [iB,if_pos hs]
   ·refine uE h2 hl h3 (by rw [if_pos ⟨by omega,hs⟩]) λk hk=>?_
    by_cases hc:k<j/\S k=true
    ·rw [if_pos hc,if_pos ⟨by omega,hc.2⟩]
    ·rw [if_neg hc,if_neg λh=>hc ⟨by omega,h.2⟩]
  ·refine ⟨rfl,rfl,rfl,rfl,?_⟩
   rw [Ax,Ak (by omega)]
   refine hK hl _ rfl ⟨?_,h2,λk hk=>?_⟩
   ·show JX S j=_
    rw [iB,if_neg (by rw [hs];decide)]
   ·rw [h3 k hk]
    by_cases hc:k<j/\S k=true
    ·rw [if_pos hc,if_pos ⟨by omega,hc.2⟩]
    ·rw [if_neg hc,if_neg λh=>hc ⟨by
      by_cases e:k=j
      ·subst e;rw [hs] at h;exact absurd h.2 (by decide)
      ·omega,h.2⟩]
 ·have:j=m:=by omega
  subst this
  have o3:out=zz S j:=rP (by rw [h2];simp [zz]) λk hk=>by
   rw [h3 k (by omega),Pw (by omega)]
   by_cases hs:S k=true
   ·rw [if_pos ⟨by omega,hs⟩,if_pos hs]
   ·rw [if_neg λh=>hs h.2,if_neg hs]
  subst o3
  rw [Ax]
  show Bo _ (QF S j,zz S j,PUnit.unit)
  refine Bo.mk (λv=> ∃(q out:List Int) (f T:Nat),v=(q,out,())/\DQ (Dc e'.1) S j out q/\q.length+Uv out<f/\mc (Dc e'.1) f out q=cj (Dc e'.1) S j/\T+(q.length+Uv out)<=j/\ ∀i,i<j->out.getD i 0<=T) (λv=>v.1.length+Uv v.2.1)
   ⟨QF S j,zz S j,j+1,0,rfl,iA _ _ _,by rw [rT];omega,rfl,by rw [rT];omega,λi hi=>by rw [Pw hi];split<;>omega⟩ ?_
  rintro v ⟨q,out,f,T,rfl,g1,g2,g3,g4,g5⟩
  dsimp only
  have hol:=g1.base.len
  refine Br.dec (λhl=>?_) λhl=>?_
  ·obtain ⟨x,q',rfl⟩: ∃x q',q=x::q':=by
    cases q with
    |nil=>simp at hl
    |cons x q'=>exact ⟨x,q',rfl⟩
   obtain ⟨x1,x2,x3⟩:=g1.base.WC x (by simp)
   obtain ⟨xn,rfl⟩:=Int.eq_ofNat_of_zero_le x1
   have vP:xn<j:=by omega
   rw [Int.toNat_natCast] at x3
   obtain ⟨f,rfl⟩: ∃f',f=f'+1:=⟨f-1,by omega⟩
   simp only [mc,Int.toNat_natCast] at g3
   simp only [List.length_cons] at g2 g4
   refine ⟨e',rfl,⟨by omega,by omega⟩,(xn:Int),by simp,Dc e'.1 xn,DP hx (by omega),rfl,rfl,rfl,rfl,?_⟩
   rw [Ax]
   obtain ⟨o1,o2⟩:=List.pairwise_cons.1 g1.base.ord
   simp only [Int.toNat_natCast] at o1
   have hX0:DX (Dc e'.1) S j xn (out.getD xn 0) out q':=by
    refine ⟨⟨g1.base.len,g1.base.ge,λy hy=>g1.base.WC y (List.mem_cons_of_mem _ hy),g1.base.src,g1.base.OP,g1.base.par,λi hi h0 hn hw=>g1.base.done i hi h0 (λhm=>?_) (λh=>h),o2⟩,vP,rfl,x3,o1,?_⟩
    ·rcases List.mem_cons.1 hm with e|hm
     ·exact hw (by omega)
     ·exact hn hm
    ·have:=g1.hi (xn:Int) q' rfl
     rwa [Int.toNat_natCast] at this
   have hnl:(Dc e'.1 xn).length<=16:=by rw [dt];exact SB
   obtain ⟨d,hd⟩: ∃d,out.getD xn 0=d:=⟨_,rfl⟩
   rw [hd] at hX0
   have hdT:d<=T:=by rw [<-hd];exact g5 xn vP
   refine Ap (Dc e'.1 xn).length (λv=>v.1) (λk v=> ∃(qq o:List Int),v=((k:Int),(xn:Int)::qq,o,())/\DX (Dc e'.1) S j xn d o qq/\qq.length+Uv o=q'.length+Uv out/\
     Qu (xn:Int) ((Dc e'.1 xn).drop k) (o,qq)=Qu (xn:Int) (Dc e'.1 xn) (out,q')) rfl ⟨q',out,rfl,hX0,rfl,by rw [List.drop_zero]⟩ ?_
   rintro k v K2 hk hki ⟨qq,o,rfl,hX,hc,Iv⟩ hK2
   dsimp only
   have hXb:=hX.base.len
   refine Br.dec (λHx=>?_) λHx=>?_
   ·have Hx:k<(Dc e'.1 xn).length:=by omega
    have QS:=hR xn vP _ (List.getElem_mem Hx)
    obtain ⟨tn,YT⟩:=Int.eq_ofNat_of_zero_le QS.1
    have htj:tn<j:=by omega
    rw [List.drop_eq_getElem_cons Hx] at Iv
    simp only [Qu] at Iv
    have VP:o.getD ((xn:Nat):Int).toNat 0=d:=by rw [Int.toNat_natCast];exact hX.Nv
    refine ⟨_,Au Hx,?_⟩
    rw [YT] at Iv⊢
    rw [Int.toNat_natCast] at Iv
    refine ⟨⟨by omega,by omega⟩,o.getD tn 0,GF (by omega),Br.dec (λcd=>?_) λcd=>?_⟩
    ·rw [if_pos cd,VP] at Iv
     have o4:=sX hR hX (List.getElem_mem Hx) QS (by rw [YT,Int.toNat_natCast];exact cd)
     rw [YT,Int.toNat_natCast] at o4
     have YG:=ov (xs:=o) (i:=tn) (v:=d+1) (by omega) cd (by have:=hX.d0;omega)
     have RU:=hX.d0
     refine ⟨⟨by omega,by simp only [List.length_cons];omega⟩,(xn:Int),by simp,⟨by omega,by omega⟩,d,by rw [GF (by omega),<-hX.Nv],⟨by omega,by omega⟩,by rw [Int.toNat_natCast];omega,rfl,rfl,?_,rfl,by rw [List.length_set],rfl,rfl,?_⟩
     ·show qq.length+1+1<=4294967296
      omega
     ·rw [Ax,Ak (by omega),Int.toNat_natCast,Nat.zero_add,Bd (n:=d+1) (by omega) (by omega)]
      refine hK2 Hx _ rfl ⟨qq++ [(tn:Int)],o.set tn (d+1),rfl,o4,?_,Iv⟩
      rw [List.length_append,List.length_singleton]
      omega
    ·rw [if_neg cd] at Iv
     refine ⟨rfl,rfl,rfl,rfl,?_⟩
     rw [Ax,Ak (by omega)]
     exact hK2 Hx _ rfl ⟨qq,o,rfl,hX,hc,Iv⟩
   ·have Hx:k=(Dc e'.1 xn).length:=by omega
    subst Hx
    rw [List.drop_length,Qu] at Iv
    rw [<-Iv] at g3
    have MB:=(zy hR g1).1
    rw [Int.toNat_natCast,<-Iv] at MB
    have ht:List.take ((((xn:Int)::qq).length:Int).toNat-Int.toNat (1:Int)) (List.drop (0+Int.toNat (1:Int)) ((xn:Int)::qq))=qq:=by
     rw [Int.toNat_natCast,List.length_cons]
     show List.take (qq.length+1-1) qq=qq
     rw [Nat.add_sub_cancel,List.take_length]
    rw [ht]
    refine ⟨⟨by omega,by simp only [List.length_cons];omega,by omega⟩,rfl,rfl,rfl,rfl,⟨qq,o,f,T+1,rfl,MB,by omega,g3,by omega,λi hi=>?_⟩,?_⟩
    ·have:=hX.hi i hi
     push_cast
     omega
    ·show qq.length+Uv o<((xn:Int)::q').length+Uv out
     simp only [List.length_cons]
     omega
  ·have:q= []:=by
    cases q with
    |nil=>rfl
    |cons x q'=>simp at hl
   subst this
   rw [Ax]
   cases f with
   |zero=>exact g3
   |succ f=>exact g3
theorem uL:Sound Try.prog 71 Tr:=
 Sound.Dg (Aa7 [Ih+6]) (Ev uQ (Ah dP (Ah BZ As))) mixed Try.func71 (by kernel_rfl) (by kernel_rfl) λx h=>NR x.1 x.2.1 h
end Go.Proofs.Ytjbdmibbbpdnnaa

namespace Go.Proofs.Ytjbdmibbbpdnnaa
open Go.RowKit
theorem FY {p:PP} {t:List Int} (hw:Ho p t=true):Tr.fn (some (Fu p),(some (Dn p t),()),())=some (Kw p t):=if_pos ⟨p,t,hw,rfl,rfl⟩
end Go.Proofs.Ytjbdmibbbpdnnaa

namespace Go.Proofs.Ytjbdmibbbpdnnaa
open Go.RowKit
noncomputable abbrev Rx:Spec:=Dg (.pair Co (.pair tL (.pair tL .unit))) tL false false (λx=>Ba x.1=true/\Pm x.1.1.toNat x.2.1/\short x.2.2.1/\ ∀l∈x.2.2.1,Dh (List.length x.1.2.2.1) l) (λx=>Fl x.1.2.2.1 x.2.1 x.2.2.1)
def sC (p:PP) (gs:List (List Int)):Prop:=gs.length<=5/\ ∀g∈gs,HF p g=true
abbrev py:Type:=List Int×Int×Int×ByteArray×List (List Int)×PUnit
theorem JH (p:Int×ByteArray×List (List Int)×Unit) (s w:List Int) (P:List Int->Prop):(∃(y4:List Int),Hf.fn (s,())=some y4/\Bo (λ(v5:py) (k6:py->Prop)=>Br (decide (v5.2.1<(↑w.length:Int))) (∃(y7:Int),idx w v5.2.1=some y7/\ ∃(y8:List Int),Ky.fn ((v5.2.2.1,v5.2.2.2.1,v5.2.2.2.2.1,()),v5.1,y7,())=some y8/\k6 (y8,IntKind.i64.wrap (v5.2.1+(1:Int)),v5.2.2.1,v5.2.2.2.1,v5.2.2.2.2.1,())) (P v5.1)) (y4,(0:Int),p.1,p.2.1,p.2.2.1,PUnit.unit))=fnW Da (look [(123,Hf),(115,Ky)]) Rx Try.f73 (p,s,w,()) P:=by kernel_rfl
theorem HO (p:PP) (s w:List Int) (h:Ba p=true/\Pm p.1.toNat s/\short w/\ ∀l∈w,Dh (List.length p.2.2.1) l):fnW Da (look [(123,Hf),(115,Ky)]) Rx Try.f73 (p,s,w,()) (λ(z:List Int)=>z=Fl p.2.2.1 s w):=by
 obtain ⟨hv,hs,w1,w2⟩:=h
 have hV:=valid hv
 have w1:w.length<=4294967296:=w1
 refine Eq.mp (JH p s w _) ⟨_,if_pos (oJ hs),?_⟩
 refine Ap w.length (λv=>v.2.1) (λj v=>v=(Fl p.2.2.1 s (w.take j),(j:Int),p.1,p.2.1,p.2.2.1,())) rfl rfl ?_
 rintro j v K hj hi hR hK
 subst hR
 dsimp only
 have hq:=w7 hV (w.take j) _ (λl hl=>w2 l (List.mem_of_mem_take hl)) hs
 refine Br.dec (λhl=>?_) λhl=>?_
 ·have hl:j<w.length:=by omega
  have iU:=w2 _ (List.getElem_mem hl)
  refine ⟨_,Au hl,_,if_pos ⟨hv,OC hq,xW hV hq,iU⟩,?_⟩
  rw [Ak (by omega)]
  refine hK hl _ rfl ?_
  rw [ze hl]
 ·have:j=w.length:=by omega
  subst this
  rw [List.take_length]
theorem qD:Sound Try.prog 73 Rx:=
 Sound.Dg Cg (Ah Ws (Ah Uy As)) mixed Try.func73 (by kernel_rfl) (by kernel_rfl) λx h=>HO x.1 x.2.1 x.2.2.1 h
theorem po {g:List (List Int)} {dep:List Int->Int} {ls:List Int} : ∀(n:Nat) (x w:List Int),∃u,(Xb g dep ls n x w).1=w++u/\(Xb g dep ls n x w).2=Fl g x u
 |0,x,w=>⟨[],by simp [Xb],rfl⟩
 |n+1,x,w=>by
  simp only [Xb]
  split
  ·rename_i l _
   obtain ⟨u,h1,h2⟩:=po (g:=g) (dep:=dep) (ls:=ls) n (Ab x (Af g l)) (w++ [l])
   exact ⟨l::u,by rw [h1,List.append_assoc];rfl,h2⟩
  ·exact po n x w
theorem sC.take {p:PP} {gs:List (List Int)} (h:sC p gs) (j:Nat):sC p (gs.take j):=⟨by rw [List.length_take];have:=h.1;omega,λg hg=>h.2 g (List.mem_of_mem_take hg)⟩
end Go.Proofs.Ytjbdmibbbpdnnaa

namespace Go.Proofs.Ytjbdmibbbpdnnaa
open Go.RowKit
def di (a b:List Int):List Int×List Int×Bool×Unit:=if a.length>200\/b.length>200 then ([],[],false,()) else (a,b,true,())
noncomputable abbrev gS:Spec:=Dg (.pair tL (.pair tL .unit)) (.pair tL (.pair tL (.pair .bool .unit))) true false (λx=>short x.1/\short x.2.1) (λx=>di x.1 x.2.1)
noncomputable def Ep (p:PP) (t s:List Int):List Int×List Int×Bool×Unit:=if (Ho p t&&decide (s∈Aa p))=true then di (It p (Kw p t) s) (Kx p t (Fl p.2.2.1 s (It p (Kw p t) s))) else ([],[],false,())
noncomputable abbrev Pk:Spec:=Dg (.pair Co (.pair tL (.pair tL .unit))) (.pair tL (.pair tL (.pair .bool .unit))) true false (λx=>Cn x.1/\short x.2.1/\short x.2.2.1) (λx=>Ep x.1 x.2.1 x.2.2.1)
noncomputable abbrev Mi:MSpec:=Yp [some 3,none,none] [(false, .Dy tI),(false, .Dy .str),(false, .Dy hY),(false, .Dy tL),(false, .Dy tL)] true [none,none,none] [rL,rL, .Dy .bool]
 (λx=>Cn (x.1,x.2.1,x.2.2.1,())/\short x.2.2.2.1/\short x.2.2.2.2.1) (λx=>(((Ep (x.1,x.2.1,x.2.2.1,()) x.2.2.2.1 x.2.2.2.2.1).1,(Ep (x.1,x.2.1,x.2.2.1,()) x.2.2.2.1 x.2.2.2.2.1).2.1,(Ep (x.1,x.2.1,x.2.2.1,()) x.2.2.2.1 x.2.2.2.2.1).2.2.1,()),()))
theorem Aaj (a b:List Int) (P:(List Int×List Int×Bool×Unit)->Prop):(Br (decide ((↑a.length:Int)>(200:Int))) (P (List.take 0 (List.drop 0 []),List.take 0 (List.drop 0 []),false,())) (Br (decide ((↑b.length:Int)>(200:Int))) (P (List.take 0 (List.drop 0 []),List.take 0 (List.drop 0 []),false,())) (P (a,b,true,()))))=fnW Da (look []) gS Try.f72 (a,b,()) P:=by kernel_rfl
theorem m8 (p:Int×ByteArray×List (List Int)×Unit) (t s:List Int) (P:(List Int×List Int×Bool×Unit)->Prop):(∃(y4:(List (List Int)×List Int×List Int×Bool×PUnit)×(List (List Int)×List Int×List Int×Bool×PUnit)×Bool×PUnit),dK.fn ((p.1,p.2.1,p.2.2.1,()),t,())=some y4/\Br (!y4.2.2.1) (P (List.take 0 (List.drop 0 []),List.take 0 (List.drop 0 []),false,())) (∃(y5:Bool),Vh.fn ((p.1,p.2.1,p.2.2.1,()),(y4.1.1,y4.1.2.1,y4.1.2.2.1,y4.1.2.2.2.1,()),s,())=some y5/\Br (!y5) (P (List.take 0 (List.drop 0 []),List.take 0 (List.drop 0 []),false,())) (∃(y6:List Int),lQ.fn ((p.1,p.2.1,p.2.2.1,()),(y4.1.1,y4.1.2.1,y4.1.2.2.1,y4.1.2.2.2.1,()),(y4.2.1.1,y4.2.1.2.1,y4.2.1.2.2.1,y4.2.1.2.2.2.1,()),())=some y6/\ ∃(y7:List Int),gU.fn ((p.1,p.2.1,p.2.2.1,()),(y4.1.1,y4.1.2.1,y4.1.2.2.1,y4.1.2.2.2.1,()),y6,s,())=some y7/\ ∃(y8:List Int),Rx.fn ((p.1,p.2.1,p.2.2.1,()),s,y7,())=some y8/\ ∃(y9:List Int),Wq.fn ((p.1,p.2.1,p.2.2.1,()),t,(y4.2.1.1,y4.2.1.2.1,y4.2.1.2.2.1,y4.2.1.2.2.2.1,()),y8,())=some y9/\ ∃(Jv:List Int×List Int×Bool×PUnit),gS.fn (y7,y9,())=some Jv/\P (Jv.1,Jv.2.1,Jv.2.2.1,()))))=fnW Da (look [(52,dK),(53,Vh),(70,lQ),(69,gU),(73,Rx),(60,Wq),(72,gS)]) Pk Try.f32 (p,t,s,()) P:=by kernel_rfl
abbrev jx:Type:=Option ((Int×ByteArray×List (List Int)×PUnit)×List (List Int)×List Int×(ByteArray->Option Int)×List Int×List Int×List (List Int)×PUnit)×List Int×Option ((Int×ByteArray×List (List Int)×PUnit)×List (List Int)×List Int×(ByteArray->Option Int)×List Int×List Int×List (List Int)×PUnit)×PUnit
theorem yI (n:Int) (str:ByteArray) (g:List (List Int)) (t s:List Int) (P:((List Int×List Int×Bool×Unit)×Unit)->Prop):(∃(y6:Option (Option ((Int×ByteArray×List (List Int)×PUnit)×List (List Int)×List Int×(ByteArray->Option Int)×List Int×List Int×List (List Int)×PUnit)×List Int×Option ((Int×ByteArray×List (List Int)×PUnit)×List (List Int)×List Int×(ByteArray->Option Int)×List Int×List Int×List (List Int)×PUnit)×PUnit)×Int×Bool×PUnit),Mj.fn ((n,str,g,()),t,s,())=some y6/\Br (!y6.2.2.1) (P ((List.take 0 (List.drop 0 []),List.take 0 (List.drop 0 []),false,()),())) (∃(y7:jx),y6.1=some y7/\ ∃(y8:jx),y6.1=some y8/\ ∃(y9:List Int),Tr.fn (y8.1,(y6.1,()),())=some y9/\ ∃(Jv:(List Int×Int×Bool×PUnit)×PUnit),Rz.fn (y7.1,y9,y6.2.1,())=some Jv/\Br (!Jv.1.2.2.1) (P ((List.take 0 (List.drop 0 []),List.take 0 (List.drop 0 []),false,()),())) (∃(Im:(List Int×Bool×PUnit)×PUnit),Xv.fn (y6.1,Jv.1.2.1,())=some Im/\Br (!Im.1.2.1) (P ((List.take 0 (List.drop 0 []),List.take 0 (List.drop 0 []),false,()),())) (P ((List.take Jv.1.1.length (List.drop 0 Jv.1.1),List.take Im.1.1.length (List.drop 0 Im.1.1),true,()),())))))=fnMW Nq (look [(55,Mj),(71,Tr),(67,Rz),(61,Xv)]) Mi Try.f33 (n,str,g,t,s,()) P:=by kernel_rfl
abbrev dY:Type:=(Int×ByteArray×List (List Int)×PUnit)×PUnit
abbrev m4:Type:=(List Int×List Int×Bool×PUnit)×PUnit
theorem CS (p:Int×ByteArray×List (List Int)×Unit) (a b:List Int) (P:Bool->Prop):(Br (decide ((↑a.length:Int)>(1048576:Int))) (P true) (Br (decide ((↑b.length:Int)>(1048576:Int))) (P true) (∃(y4:Int),sn.fn ((p.1,p.2.1,p.2.2.1,()),(1048576:Int),())=some y4/\Br (decide (y4<(0:Int))) (P true) (∃(y5:dY),Kl.fn (p.1,p.2.1,p.2.2.1,())=some y5/\ ∃(y6:(List Int×PUnit)×PUnit),Nm.fn (a,())=some y6/\ ∃(y7:(List Int×PUnit)×PUnit),Nm.fn (b,())=some y7/\ ∃(y8:List Int×List Int×Bool×PUnit),Pk.fn ((y5.1.1,y5.1.2.1,List.take y5.1.2.2.1.length (List.drop 0 y5.1.2.2.1),()),List.take y6.1.1.length (List.drop 0 y6.1.1),List.take y7.1.1.length (List.drop 0 y7.1.1),())=some y8/\ ∃(y9:dY),Kl.fn (p.1,p.2.1,p.2.2.1,())=some y9/\ ∃(Jv:(List Int×PUnit)×PUnit),Nm.fn (a,())=some Jv/\ ∃(Im:(List Int×PUnit)×PUnit),Nm.fn (b,())=some Im/\ ∃(Tv:m4),Mi.fn (y9.1.1,y9.1.2.1,List.take y9.1.2.2.1.length (List.drop 0 y9.1.2.2.1),List.take Jv.1.1.length (List.drop 0 Jv.1.1),List.take Im.1.1.length (List.drop 0 Im.1.1),())=some Tv/\ ∃(an:Bool),Ck.fn (List.take Tv.1.1.length (List.drop 0 Tv.1.1),y8.1,())=some an/\Br (!an) (P false) (∃(Pu:Bool),Ck.fn (List.take Tv.1.2.1.length (List.drop 0 Tv.1.2.1),y8.2.1,())=some Pu/\Br (!Pu) (P false) (Br (!Tv.1.2.2.1==y8.2.2.1) (P false) (∃(Vd:Int×ByteArray×List (List Int)×PUnit),so.fn ((p.1,p.2.1,p.2.2.1,()),())=some Vd/\ ∃(Xd:Bool),sj.fn ((y9.1.1,y9.1.2.1,List.take y9.1.2.2.1.length (List.drop 0 y9.1.2.2.1),()),Vd,())=some Xd/\Br (!Xd) (P false) (∃(pK:(List Int×PUnit)×PUnit),Nm.fn (a,())=some pK/\ ∃(pP:Bool),Ck.fn (List.take Jv.1.1.length (List.drop 0 Jv.1.1),List.take pK.1.1.length (List.drop 0 pK.1.1),())=some pP/\Br (!pP) (P false) (∃(QV:(List Int×PUnit)×PUnit),Nm.fn (b,())=some QV/\ ∃(QC:Bool),Ck.fn (List.take Im.1.1.length (List.drop 0 Im.1.1),List.take QV.1.1.length (List.drop 0 QV.1.1),())=some QC/\Br (!QC) (P false) (0=0/\y9.1.2.2.1.length=y9.1.2.2.1.length/\ ∃(z7:(Int×PUnit)×List (List Int)×PUnit),Mv.fn (y9.1.1,y9.1.2.1,y9.1.2.2.1,(1:Int),())=some z7/\(z7.2.1.length=y9.1.2.2.1.length/\y9.1.2.2.1.length=y9.1.2.2.1.length)/\0=0/\Jv.1.1.length=Jv.1.1.length/\ ∃(y22:(Int×PUnit)×List Int×PUnit),Of.fn (Jv.1.1,z7.1.1,())=some y22/\(y22.2.1.length=Jv.1.1.length/\Jv.1.1.length=Jv.1.1.length)/\0=0/\Im.1.1.length=Im.1.1.length/\ ∃(y23:(Int×PUnit)×List Int×PUnit),Of.fn (Im.1.1,y22.1.1,())=some y23/\(y23.2.1.length=Im.1.1.length/\Im.1.1.length=Im.1.1.length)/\Br (decide (y23.1.1<(0:Int))) (P false) (∃(y24:Bool),Ck.fn (List.take Tv.1.1.length (List.drop 0 Tv.1.1),y8.1,())=some y24/\Br (!y24) (P false) (∃(y25:Bool),Ck.fn (List.take Tv.1.2.1.length (List.drop 0 Tv.1.2.1),y8.2.1,())=some y25/\Br (!y25) (P false) (Br (!Tv.1.2.2.1==y8.2.2.1) (P false) (0=0/\Tv.1.1.length=Tv.1.1.length/\ ∃(y26:(Int×PUnit)×List Int×PUnit),Of.fn (Tv.1.1,(1:Int),())=some y26/\(y26.2.1.length=Tv.1.1.length/\Tv.1.1.length=Tv.1.1.length)/\0=0/\Tv.1.2.1.length=Tv.1.2.1.length/\ ∃(y27:(Int×PUnit)×List Int×PUnit),Of.fn (Tv.1.2.1,y26.1.1,())=some y27/\(y27.2.1.length=Tv.1.2.1.length/\Tv.1.2.1.length=Tv.1.2.1.length)/\ ∃(y28:Int),Ux.fn (List.take Tv.1.1.length (List.drop 0 y26.2.1),(1:Int),())=some y28/\Br (decide (y28<(0:Int))) (P false) (∃(y29:Int),Ux.fn (List.take Tv.1.2.1.length (List.drop 0 y27.2.1),y28,())=some y29/\Br (decide (y29<(0:Int))) (P false) (Br (y29 !=y27.1.1) (P false) (∃(y30:dY),Kl.fn (p.1,p.2.1,p.2.2.1,())=some y30/\ ∃(y31:(List Int×PUnit)×PUnit),Nm.fn (a,())=some y31/\ ∃(y32:(List Int×PUnit)×PUnit),Nm.fn (b,())=some y32/\ ∃(y33:m4),Mi.fn (y30.1.1,y30.1.2.1,List.take y30.1.2.2.1.length (List.drop 0 y30.1.2.2.1),List.take y31.1.1.length (List.drop 0 y31.1.1),List.take y32.1.1.length (List.drop 0 y32.1.1),())=some y33/\ ∃(y34:Bool),Ck.fn (List.take y33.1.1.length (List.drop 0 y33.1.1),y8.1,())=some y34/\Br (!y34) (P false) (∃(y35:Bool),Ck.fn (List.take y33.1.2.1.length (List.drop 0 y33.1.2.1),y8.2.1,())=some y35/\Br (!y35) (P false) (Br (!y33.1.2.2.1==y8.2.2.1) (P false) (∃(y36:Int),Ux.fn (List.take Tv.1.1.length (List.drop 0 y26.2.1),(1:Int),())=some y36/\Br (decide (y36<(0:Int))) (P false) (∃(y37:Int),Ux.fn (List.take Tv.1.2.1.length (List.drop 0 y27.2.1),y36,())=some y37/\Br (decide (y37<(0:Int))) (P false) (Br (y37 !=y27.1.1) (P false) (P true)))))))))))))))))))))))=fnW Da (look [(14,sn),(32,Pk),(33,Mi),(16,Xe.b so Kl),(17,Xe.b lR Nm),(19,sj),(20,Ck),(25,Mv),(26,Of),(27,Ux)]) kM Try.f8 (p,a,b,()) P:=by kernel_rfl
theorem ZO (a b:List Int) (h:short a/\short b):fnW Da (look []) gS Try.f72 (a,b,()) (λ(z:List Int×List Int×Bool×Unit)=>z=di a b):=by
 refine Eq.mp (Aaj a b _) ?_
 unfold di
 refine Br.dec (λhl=>?_) λhl=>Br.dec (λyX=>?_) λyX=>?_
 ·rw [if_pos (.inl (by omega))];rfl
 ·rw [if_pos (.inr (by omega))];rfl
 ·rw [if_neg (by omega)]
theorem BY:Sound Try.prog 72 gS:=
 Sound.Dg Cg As mixed Try.func72 (by kernel_rfl) (by kernel_rfl) λx h=>ZO x.1 x.2.1 h
theorem su {p:PP} {t:List Int} {s:List Int} (hw:Ho p t=true) (hs:s∈Aa p):
  ∃j:Nat,Hv p (Kw p t) (Ms p s).1=(if (It p (Kw p t) s).length>200 then ([],0,false,()) else (It p (Kw p t) s,(j:Int),true,()))/\j<(Aa p).length/\
   (Aa p).getD j []=Fl p.2.2.1 s (It p (Kw p t) s)/\Fl p.2.2.1 s (It p (Kw p t) s)∈Aa (An p t)/\ ∀l∈It p (Kw p t) s,Dh (List.length p.2.2.1) l:=by
 obtain ⟨gF,YE⟩:=Ig.1 hw
 obtain ⟨h1,h2⟩:=uk gF YE
 have hl:=h1.1
 have QI:=sU gF hl h2
 have hi:=List.idxOf_lt_length_of_mem hs
 have VF:(Ms p s).1=(((Aa p).idxOf s:Nat):Int):=by unfold Ms;rw [if_pos hs]
 have hn:=QI.nn _ (by rw [hl];exact hi)
 obtain ⟨n,jI⟩:=Int.eq_ofNat_of_zero_le hn
 obtain ⟨e1,e2,j,e3,e4,e5,e6⟩:=sW gF QI h2 (see:= λx=>x) (dep:=Is p (Kw p t)) (λ_ _ _ _=>rfl) (λ_ _=>rfl) n _ [] hi jI
 have hsx:(Aa p).getD ((Aa p).idxOf s) []=s:=by rw [Bu hi,List.getElem_idxOf hi]
 have hg:Bj (Kw p t) (((Aa p).idxOf s:Nat):Int)=(n:Int):=by unfold Bj;rw [Int.toNat_natCast];exact jI
 have hd:Is p (Kw p t) s=(n:Int):=jI
 have hwo:It p (Kw p t) s=(Xb p.2.2.1 (Is p (Kw p t)) (Ae p.2.2.1.length) n s []).1:=by unfold It;rw [hd,Int.toNat_natCast]
 have hw':It p (Kw p t) s=(Ox (Dc p) (Ae p.2.2.1.length) (Kw p t) n (((Aa p).idxOf s:Nat):Int) []).1:=by
  rw [e1,hwo,hsx]
 obtain ⟨u,u1,u2⟩:=po (g:=p.2.2.1) (dep:=Is p (Kw p t)) (ls:=Ae p.2.2.1.length) n s []
 have hu:u=It p (Kw p t) s:=by rw [hwo,u1];rfl
 rw [hsx,u2,hu] at e6
 have e6:(Aa p).getD j []=Fl p.2.2.1 s (It p (Kw p t) s):=e6
 refine ⟨j,?_,e4,e6,?_,λl hl=>?_⟩
 ·unfold Hv
  rw [VF,hg,Int.toNat_natCast,<-hw',e3,hw',e2]
  simp only [List.length_nil,Nat.zero_add]
  by_cases hc:n>200
  ·rw [if_pos (by omega),if_pos hc]
  ·rw [if_neg (by omega),if_neg hc]
 ·rw [<-e6]
  have hx:=Ib (L:=Aa p) e4
  refine (h2.zero _ hx).1 ?_
  show (Kw p t).getD ((Aa p).idxOf ((Aa p).getD j [])) 0=0
  rw [Jn (sy gF).nodup e4]
  exact e5
 ·refine Fo (br (g:=p.2.2.1) (dep:=Is p (Kw p t)) (ls:=Ae p.2.2.1.length) n s [] (by simp) l ?_)
  rw [<-hwo];exact hl
theorem xT (p:PP) (t s:List Int) (h:Cn p/\short t/\short s):fnW Da (look [(52,dK),(53,Vh),(70,lQ),(69,gU),(73,Rx),(60,Wq),(72,gS)]) Pk Try.f32 (p,t,s,()) (λ(z:List Int×List Int×Bool×Unit)=>z=Ep p t s):=by
 obtain ⟨hp,ht,hs⟩:=h
 unfold Ep
 by_cases hw:Ho p t=true
 ·have he:dK.fn ((p.1,p.2.1,p.2.2.1,()),t,())=some (Ai p.2.2.1 (upto p.1.toNat),Ai (An p t).2.2.1 (upto p.1.toNat),true,()):=(if_pos ⟨hp,ht⟩).trans (congrArg some (if_pos hw))
  obtain ⟨gF,hm⟩:=Ig.1 hw
  have hv:=(Bt gF).1
  have z0:=Sl gF hm
  rw [hw,Bool.true_and]
  obtain ⟨F,hF⟩: ∃F:SS,Ai p.2.2.1 (upto p.1.toNat)=F:=⟨_,rfl⟩
  obtain ⟨G,hG⟩: ∃G:SS,Ai (An p t).2.2.1 (upto p.1.toNat)=G:=⟨_,rfl⟩
  rw [hF,hG] at he
  have Ait:cj (Dc p) (λi=>decide ((Aa p).getD i []∈G.1)) (Aa p).length=Kw p t:=by rw [<-hG];rfl
  refine Eq.mp (m8 p t s _) ⟨_,he,λhb=>by simp at hb,λ_=>⟨_,if_pos ⟨hp,hs,hv,hF.symm⟩,Br.of (λIv=>?_) λIv=>?_⟩⟩
  ·rw [if_neg (Cs Iv)];rfl
  have Iv:s∈Aa p:=by simpa using Iv
  rw [if_pos (decide_eq_true Iv)]
  have tA:=(uk gF hm).1
  have hph:lQ.fn (p,F,G,())=some (Kw p t):=(if_pos (show ∃t',Ho p t'=true/\F=Ai p.2.2.1 (upto p.1.toNat)/\G=Ai (An p t').2.2.1 (upto p.1.toNat) from ⟨t,hw,hF.symm,hG.symm⟩)).trans (congrArg some Ait)
  have YH:gU.fn (p,F,Kw p t,s,())=some (It p (Kw p t) s):=if_pos (show Bz p=true/\F=Ai p.2.2.1 (upto p.1.toNat)/\vV p (Kw p t)/\s∈Aa p from ⟨gF,hF.symm,tA,Iv⟩)
  have hwl:=NK tA Iv
  obtain ⟨j,e1,e2,e3,e4,e5⟩:=su hw Iv
  generalize It p (Kw p t) s=w at*
  have hap:Rx.fn (p,s,w,())=some (Fl p.2.2.1 s w):=if_pos ⟨hv,dV hv Iv,by show w.length<=4294967296;omega,e5⟩
  have h2:Wq.fn (p,t,G,Fl p.2.2.1 s w,())=some (Kx p t (Fl p.2.2.1 s w)):=if_pos ⟨hp,hw,hG.symm,e4⟩
  have h2l:(Kx p t (Fl p.2.2.1 s w)).length<=3000:=by
   unfold Kx
   rw [List.length_map]
   exact wA z0 e4
  generalize Kx p t (Fl p.2.2.1 s w)=w2 at*
  generalize Fl p.2.2.1 s w=x at*
  have Qb:gS.fn (w,w2,())=some (di w w2):=if_pos ⟨show w.length<=4294967296 by omega,show w2.length<=4294967296 by omega⟩
  generalize di w w2=r at*
  exact ⟨Kw p t,hph,w,YH,x,hap,w2,h2,r,Qb,rfl⟩
 ·have he:dK.fn ((p.1,p.2.1,p.2.2.1,()),t,())=some ((Gi p).1,(Gi p).1,false,()):=(if_pos ⟨hp,ht⟩).trans (congrArg some (if_neg hw))
  rw [Bool.not_eq_true _|>.mp hw,Bool.false_and,if_neg (by decide)]
  exact Eq.mp (m8 p t s _) ⟨_,he,λ_=>rfl,λhb=>by simp at hb⟩
theorem mD:Sound Try.prog 32 Pk:=
 Sound.Dg Cg (Ah BV (Ah qI (Ah IT (Ah CC (Ah qD (Ah uP (Ah BY As))))))) mixed Try.func32 (by kernel_rfl) (by kernel_rfl) λx h=>xT x.1 x.2.1 x.2.2.1 h
theorem xN (n:Int) (str:ByteArray) (g:List (List Int)) (t s:List Int) (h:Cn (n,str,g,())/\short t/\short s):
  fnMW Nq (look [(55,Mj),(71,Tr),(67,Rz),(61,Xv)]) Mi Try.f33 (n,str,g,t,s,()) (λ(z:(List Int×List Int×Bool×Unit)×Unit)=>z=(((Ep (n,str,g,()) t s).1,(Ep (n,str,g,()) t s).2.1,(Ep (n,str,g,()) t s).2.2.1,()),())):=by
 obtain ⟨p,VQ⟩: ∃p:PP,p=(n,str,g,()):=⟨_,rfl⟩
 refine Eq.mp (yI n str g t s _) ?_
 rw [<-VQ] at h⊢
 unfold Ep
 by_cases hw:Ho p t=true
 ·have he:Mj.fn (p,t,s,())=some (some (Dn p t),(Ms p s).1,(Ms p s).2.1,()):=(if_pos h).trans (congrArg some (if_pos hw))
  rw [hw,Bool.true_and]
  refine ⟨_,he,?_⟩
  dsimp only
  rw [WG]
  refine Br.of (λhb=>?_) λhb=>?_
  ·rw [if_neg (Cs hb)];rfl
  have Iv:s∈Aa p:=by simpa using hb
  obtain ⟨i1,i2,i3⟩:=WE Iv
  rw [if_pos (decide_eq_true Iv)]
  obtain ⟨gF,YE⟩:=Ig.1 hw
  have hdl:=(uk gF YE).1.1
  have hds:Rz.fn (some (Fu p),Kw p t,(Ms p s).1,())=some (Hv p (Kw p t) (Ms p s).1,()):=
   if_pos ⟨Fu p,rfl,⟨gF,rfl⟩,sU gF hdl (uk gF YE).2,i1,by show (Ms p s).1<((Kw p t).length:Int);rw [hdl];exact i2⟩
  have hdi:=FY hw
  obtain ⟨j,e1,e2,e3,e4,e5⟩:=su hw Iv
  have Ajd:Xv.fn (some (Dn p t),(j:Int),())=some (EW (Kx p t (Fl p.2.2.1 s (It p (Kw p t) s))),()):=by
   refine (if_pos ⟨p,t,hw,rfl,by show (0:Int)<=j;omega,by show (j:Int)<_;omega⟩).trans (congrArg some ?_)
   show (eI p t ((Aa p).getD ((j:Int)).toNat []),())=_
   rw [Int.toNat_natCast,e3,Aae gF YE e4]
  generalize Kx p t (Fl p.2.2.1 s (It p (Kw p t) s))=w2 at*
  rw [e1] at hds
  generalize It p (Kw p t) s=w at*
  generalize Kw p t=pd at*
  refine ⟨Dn p t,rfl,Dn p t,rfl,pd,hdi,_,hds,?_⟩
  unfold di
  by_cases hc:w.length>200
  ·rw [if_pos hc,if_pos (.inl hc)]
   exact ⟨λ_=>rfl,λhb=>by simp at hb⟩
  rw [if_neg hc]
  refine ⟨λhb=>by simp at hb,λ_=>⟨_,Ajd,?_⟩⟩
  unfold EW
  by_cases QH:w2.length>200
  ·rw [if_pos QH,if_pos (.inr QH)]
   exact ⟨λ_=>rfl,λhb=>by simp at hb⟩
  rw [if_neg QH,if_neg (by omega)]
  refine ⟨λhb=>by simp at hb,λ_=>?_⟩
  simp only [Ax]
 ·have he:Mj.fn (p,t,s,())=some (none,0,false,()):=(if_pos h).trans (congrArg some (if_neg hw))
  rw [Bool.not_eq_true _|>.mp hw,Bool.false_and,if_neg (by decide)]
  exact ⟨_,he,λ_=>rfl,λhb=>by simp at hb⟩
theorem my:Bq Try.prog 33 Mi:=
 Bq.Yp Mk (Ah pa (Ah uL (Ev qG (Ev yl As)))) mixed Try.func33 (by kernel_rfl) (by kernel_rfl) λx h=>xN x.1 x.2.1 x.2.2.1 x.2.2.2.1 x.2.2.2.2.1 h
theorem kR {p:PP} {t s:List Int} :(Ep p t s).1.length<=200/\(Ep p t s).2.1.length<=200:=by
 unfold Ep di
 split
 ·split
  ·exact ⟨by simp,by simp⟩
  ·rename_i h
   exact ⟨by dsimp only;omega,by dsimp only;omega⟩
 ·exact ⟨by simp,by simp⟩
theorem lT {p:PP} {t s:List Int} :short (Ep p t s).1/\short (Ep p t s).2.1:=by
 obtain ⟨h1,h2⟩:=kR (p:=p) (t:=t) (s:=s)
 exact ⟨by unfold short;omega,by unfold short;omega⟩
theorem BR {p:PP} {t s:List Int} :low (1+((Ep p t s).1.length:Nat)):=by
 obtain ⟨h1,h2⟩:=kR (p:=p) (t:=t) (s:=s)
 exact ⟨by omega,by omega⟩
theorem BS {p:PP} {t s:List Int} :low (1+((Ep p t s).1.length:Nat)+((Ep p t s).2.1.length:Nat)):=by
 obtain ⟨h1,h2⟩:=kR (p:=p) (t:=t) (s:=s)
 exact ⟨by omega,by omega⟩
theorem AS (p:PP) (a:List Int) (b:List Int) (h:Cn p/\short a/\short b):fnW Da (look [(14,sn),(32,Pk),(33,Mi),(16,Xe.b so Kl),(17,Xe.b lR Nm),(19,sj),(20,Ck),(25,Mv),(26,Of),(27,Ux)]) kM Try.f8 (p,a,b,()) (λ(z:Bool)=>z=true):=by
 have h0:Cn (p.1,p.2.1,p.2.2.1,()):=h.1
 have h1:short a:=h.2.1
 have h2:short b:=h.2.2
 refine Eq.mp (CS p a b _) ?_
 refine Br.dec (λ_=>rfl) λAno=>?_
 refine Br.dec (λ_=>rfl) λAnp=>?_
 refine ⟨_,if_pos ⟨h0,y0⟩,Br.dec (λ_=>rfl) λAj1=>?_⟩
 have Adw:(((Ct p.2.2.1:Nat):Nat):Int)<=(1048576)-(dk (p.1,p.2.1,p.2.2.1,()) (1048576))/\roomy (dk (p.1,p.2.1,p.2.2.1,()) (1048576)):=OU y0 Aj1
 have Aos:=Adw.1
 have Ao3:0<=dk (p.1,p.2.1,p.2.2.1,()) (1048576)/\dk (p.1,p.2.1,p.2.2.1,()) (1048576)<=4294967296:=Adw.2
 have l0:low (1+(Ct p.2.2.1:Nat)):=⟨by omega,by omega⟩
 have l1:low (1+(Ct p.2.2.1:Nat)+(a.length:Nat)):=⟨by omega,by omega⟩
 have l2:low (1+(Ct p.2.2.1:Nat)+(a.length:Nat)+(b.length:Nat)):=⟨by omega,by omega⟩
 refine ⟨_,if_pos h0,_,if_pos h1,_,if_pos h2,?_⟩
 try simp only [Ax]
 refine ⟨_,if_pos ⟨h0,h1,h2⟩,_,if_pos h0,_,if_pos h1,_,if_pos h2,?_⟩
 try simp only [Ax]
 have RW:short ((Ep p a b).1):=lT.1
 have hg1:short ((Ep p a b).2.1):=lT.2
 have LW:low (1+(List.length ((Ep p a b).1):Nat)):=BR
 have LX:low (1+(List.length ((Ep p a b).1):Nat)+(List.length ((Ep p a b).2.1):Nat)):=BS
 generalize he0:(Ep p a b).1=g0 at RW LW LX
 generalize he1:(Ep p a b).2.1=g1 at hg1 LW LX
 generalize RV:(Ep p a b).2.2.1=g2
 refine ⟨_,if_pos ⟨h0,h1,h2⟩,?_⟩
 simp only [Ax,he0,he1,RV]
 refine ⟨_,if_pos RW,⟨λhe=>absurd (Fm _) (Cs he),λ_=>?_⟩⟩
 refine ⟨_,if_pos hg1,⟨λhe=>absurd (Fm _) (Cs he),λ_=>?_⟩⟩
 refine ⟨λhe=>jQ he,λ_=>?_⟩
 refine ⟨_,if_pos h0,_,if_pos h0,⟨λhe=>absurd (AE _) (Cs he),λ_=>?_⟩⟩
 refine ⟨_,if_pos h1,?_⟩
 try simp only [Ax]
 refine ⟨_,if_pos h1,⟨λhe=>absurd (Fm _) (Cs he),λ_=>?_⟩⟩
 refine ⟨_,if_pos h2,?_⟩
 try simp only [Ax]
 refine ⟨_,if_pos h2,⟨λhe=>absurd (Fm _) (Cs he),λ_=>?_⟩⟩
 refine ⟨trivial,trivial,_,if_pos ⟨h0.2,mR,l0⟩,⟨Ym _ _,trivial⟩,trivial,trivial,_,if_pos ⟨h1,l0⟩,⟨Je _ _,trivial⟩,trivial,trivial,_,if_pos ⟨h2,l1⟩,⟨Je _ _,trivial⟩,Br.dec (λhn=>absurd l2.1 (Int.not_le.2 hn)) λ_=>?_⟩
 refine ⟨_,if_pos RW,⟨λhe=>absurd (Fm _) (Cs he),λ_=>?_⟩⟩
 refine ⟨_,if_pos hg1,⟨λhe=>absurd (Fm _) (Cs he),λ_=>?_⟩⟩
 refine ⟨λhe=>jQ he,λ_=>?_⟩
 have m0:low (1+(g0.length:Nat)):=LW
 refine ⟨trivial,trivial,_,if_pos ⟨RW,mR⟩,⟨Je _ _,trivial⟩,?_⟩
 have m1:low (1+(g0.length:Nat)+(g1.length:Nat)):=LX
 refine ⟨trivial,trivial,_,if_pos ⟨hg1,m0⟩,⟨Je _ _,trivial⟩,?_⟩
 simp only [yT]
 have YB: ∀k,short (Gz k g0.length):= λk=>by unfold short at*;rw [Je];exact RW
 have LY: ∀k,short (Gz k g1.length):= λk=>by unfold short at*;rw [Je];exact hg1
 refine ⟨_,if_pos ⟨YB _,mR⟩,?_⟩
 simp only [Su]
 refine Br.dec (λhn=>by omega) λ_=>?_
 refine ⟨_,if_pos ⟨LY _,m0⟩,?_⟩
 simp only [Su]
 refine Br.dec (λhn=>by omega) λ_=>⟨λhe=>by simp at he,λ_=>?_⟩
 refine ⟨_,if_pos h0,_,if_pos h1,_,if_pos h2,?_⟩
 try simp only [Ax]
 refine ⟨_,if_pos ⟨h0,h1,h2⟩,?_⟩
 simp only [Ax,he0,he1,RV]
 refine ⟨_,if_pos RW,⟨λhe=>absurd (Fm _) (Cs he),λ_=>?_⟩⟩
 refine ⟨_,if_pos hg1,⟨λhe=>absurd (Fm _) (Cs he),λ_=>?_⟩⟩
 refine ⟨λhe=>jQ he,λ_=>?_⟩
 refine ⟨_,if_pos ⟨YB _,mR⟩,?_⟩
 simp only [Su]
 refine Br.dec (λhn=>by omega) λ_=>?_
 refine ⟨_,if_pos ⟨LY _,m0⟩,?_⟩
 simp only [Su]
 exact Br.dec (λhn=>by omega) λ_=>⟨λhe=>by simp at he,λ_=>trivial⟩
theorem p7:Sound Try.prog 8 kM:=
 Sound.Dg Cg (Ah IV (Ah mD (Ev my (wB IW mE (wB sw ph (Ah IP (Ah sv (Ev kT (Ev lU (Ah yh As)))))))))) mixed Try.func8 (by kernel_rfl) (by kernel_rfl) λx h=>AS x.1 x.2.1 x.2.2.1 h
end Go.Proofs.Ytjbdmibbbpdnnaa
