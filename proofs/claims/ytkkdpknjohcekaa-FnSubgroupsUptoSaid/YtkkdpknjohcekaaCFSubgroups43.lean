/-
  Part 44 of the proof that the statement FnSubgroups holds.
-/
import Derived.Test.YtkkdpknjohcekaaCFSubgroups42
namespace Go.Proofs.Ytkkdpknjohcekaa
open Go.RowKit
noncomputable abbrev Sj:Spec:=Ht (.pair tU (.pair tU .unit)) (.pair tU (.pair tU .unit)) true true (λx=>x.1=1/\0<=x.2.1/\x.2.1<=100000) (λx=>(0,x.2.1,()))
noncomputable abbrev eN:MSpec:=ir [none,none] [(false, .Fe tL),(false, .Fe tI)] false [none] [rL] (λx=>(∃v,x.1= [v])/\1<=x.2.1/\x.2.1<=100000) (λx=>((List.replicate x.2.1.toNat (x.1.getD 0 0),()),()))
theorem Agk (x y:Int) (P:(Int×Int×Unit)->Prop):(¬(32:Int)<(0:Int)/\ ¬(32:Int)<(0:Int)/\ ¬(32:Int)<(0:Int)/\ ¬(32:Int)<(0:Int)/\ ¬(32:Int)<(0:Int)/\P (IntKind.u64.wrap (IntKind.u64.wrap (IntKind.u64.wrap (x.fdiv ((2:Int)^min (Int.toNat (32:Int)) IntKind.u64.bits)*y.fdiv ((2:Int)^min (Int.toNat (32:Int)) IntKind.u64.bits))+(IntKind.u64.wrap (IntKind.u64.wrap (x.fdiv ((2:Int)^min (Int.toNat (32:Int)) IntKind.u64.bits)*IntKind.u64.wrap (↑(BitVec.ofInt IntKind.u64.bits y&&&BitVec.ofInt IntKind.u64.bits (4294967295:Int)).toNat:Int))+(IntKind.u64.wrap (IntKind.u64.wrap (↑(BitVec.ofInt IntKind.u64.bits x&&&BitVec.ofInt IntKind.u64.bits (4294967295:Int)).toNat:Int)*IntKind.u64.wrap (↑(BitVec.ofInt IntKind.u64.bits y&&&BitVec.ofInt IntKind.u64.bits (4294967295:Int)).toNat:Int))).fdiv ((2:Int)^min (Int.toNat (32:Int)) IntKind.u64.bits))).fdiv ((2:Int)^min (Int.toNat (32:Int)) IntKind.u64.bits))+(IntKind.u64.wrap (IntKind.u64.wrap (↑(BitVec.ofInt IntKind.u64.bits (IntKind.u64.wrap (IntKind.u64.wrap (x.fdiv ((2:Int)^min (Int.toNat (32:Int)) IntKind.u64.bits)*IntKind.u64.wrap (↑(BitVec.ofInt IntKind.u64.bits y&&&BitVec.ofInt IntKind.u64.bits (4294967295:Int)).toNat:Int))+(IntKind.u64.wrap (IntKind.u64.wrap (↑(BitVec.ofInt IntKind.u64.bits x&&&BitVec.ofInt IntKind.u64.bits (4294967295:Int)).toNat:Int)*IntKind.u64.wrap (↑(BitVec.ofInt IntKind.u64.bits y&&&BitVec.ofInt IntKind.u64.bits (4294967295:Int)).toNat:Int))).fdiv ((2:Int)^min (Int.toNat (32:Int)) IntKind.u64.bits)))&&&BitVec.ofInt IntKind.u64.bits (4294967295:Int)).toNat:Int)+IntKind.u64.wrap (IntKind.u64.wrap (↑(BitVec.ofInt IntKind.u64.bits x&&&BitVec.ofInt IntKind.u64.bits (4294967295:Int)).toNat:Int)*y.fdiv ((2:Int)^min (Int.toNat (32:Int)) IntKind.u64.bits)))).fdiv ((2:Int)^min (Int.toNat (32:Int)) IntKind.u64.bits)),IntKind.u64.wrap (x*y),()))=fnW kX (look []) Sj Try.f215 (x,y,()) P:=by kernel_rfl
theorem Alj (x y:Int) (P:(Int×Int×Unit)->Prop):(∃(y3:Int×Int×PUnit),Sj.fn (x,y,())=some y3/\P (y3.1,y3.2.1,()))=fnW kX (look [(215,Sj)]) Sj Try.f199 (x,y,()) P:=by kernel_rfl
theorem Ad8 (xs:List Int) (n:Int) (P:((List Int×Unit)×Unit)->Prop):(Br (decide (n<(0:Int))) False (∃(y3:Int×Int×PUnit),Sj.fn (IntKind.u64.wrap (↑xs.length:Int),IntKind.u64.wrap n,())=some y3/\Br (decide (y3.1>(0:Int))) False (Br (decide (y3.2.1>(9223372036854775807:Int))) False (((0:Int)<=IntKind.i64.wrap y3.2.1/\IntKind.i64.wrap y3.2.1<(↑Dn:Int)+(1:Int))/\IntKind.i64.wrap y3.2.1=IntKind.i64.wrap y3.2.1/\0=0/\(List.replicate (IntKind.i64.wrap y3.2.1).toNat (Int.ofNat (nat_lit 0))).length=(Dw (List.replicate (IntKind.i64.wrap y3.2.1).toNat (Int.ofNat (nat_lit 0))) 0 (List.take (List.replicate (IntKind.i64.wrap y3.2.1).toNat (Int.ofNat (nat_lit 0))).length xs)).length/\Ev (λ(v4:Int×List Int×PUnit) (k5:Int×List Int×PUnit->Prop)=>Br (decide (v4.1<(↑v4.2.1.length:Int))) (((0:Int)<=v4.1/\v4.1<=(↑v4.2.1.length:Int)/\(↑v4.2.1.length:Int)<=(↑v4.2.1.length:Int))/\((0:Int)<=(0:Int)/\(0:Int)<=v4.1/\v4.1<=(↑v4.2.1.length:Int))/\0=0/\v4.2.1.length=(Dw v4.2.1 (0+v4.1.toNat) (List.take ((↑v4.2.1.length:Int).toNat-v4.1.toNat) (List.take (v4.1.toNat-Int.toNat (0:Int)) (List.drop (0+Int.toNat (0:Int)) v4.2.1)))).length/\k5 (IntKind.i64.wrap (v4.1+(↑(min ((↑v4.2.1.length:Int).toNat-v4.1.toNat) (List.take (v4.1.toNat-Int.toNat (0:Int)) (List.drop (0+Int.toNat (0:Int)) v4.2.1)).length):Int)),Dw v4.2.1 (0+v4.1.toNat) (List.take ((↑v4.2.1.length:Int).toNat-v4.1.toNat) (List.take (v4.1.toNat-Int.toNat (0:Int)) (List.drop (0+Int.toNat (0:Int)) v4.2.1))),())) (P ((List.take v4.2.1.length (List.drop 0 v4.2.1),()),()))) ((↑(min (List.replicate (IntKind.i64.wrap y3.2.1).toNat (Int.ofNat (nat_lit 0))).length xs.length):Int),Dw (List.replicate (IntKind.i64.wrap y3.2.1).toNat (Int.ofNat (nat_lit 0))) 0 (List.take (List.replicate (IntKind.i64.wrap y3.2.1).toNat (Int.ofNat (nat_lit 0))).length xs),PUnit.unit)))))=fnMW kX (look [(199,Sj)]) eN Try.f167 (xs,n,()) P:=by kernel_rfl
theorem YJ {y:Int} (h0:0<=y) (h:y<4294967296):(((BitVec.ofInt IntKind.u64.bits y)&&&(BitVec.ofInt IntKind.u64.bits 4294967295)).toNat:Int)=y:=by
 obtain ⟨n,rfl⟩:=Bt h0
 show ((((BitVec.ofInt 64 (n:Int))&&&(BitVec.ofInt 64 4294967295)).toNat:Nat):Int)=(n:Int)
 have e1:(BitVec.ofInt 64 (n:Int)).toNat=n:=by rw [BitVec.toNat_ofInt];omega
 have e2:(BitVec.ofInt 64 4294967295).toNat=2^32-1:=by decide
 rw [BitVec.toNat_and,e1,e2,Nat.and_two_pow_sub_one_eq_mod]
 omega
theorem JS {n:Int} (h1:0<=n) (h2:n<18446744073709551616):IntKind.u64.wrap n=n:=by rw [IntKind.wrap_u64];omega
theorem Afq (x y:Int) (h:x=1/\0<=y/\y<=100000):fnW kX (look []) Sj Try.f215 (x,y,()) (λ(z:Int×Int×Unit)=>z=(0,y,())):=by
 obtain ⟨rfl,h1,h2⟩:=h
 have e32:(2:Int)^min (Int.toNat (32:Int)) IntKind.u64.bits=4294967296:=by decide
 have e1:(1:Int).fdiv 4294967296=0:=by decide
 have e0:(0:Int).fdiv 4294967296=0:=by decide
 have ey:y.fdiv 4294967296=0:=by rw [Int.fdiv_eq_ediv_of_nonneg _ (by omega)];omega
 refine Eq.mp (Agk 1 y _) ⟨by omega,by omega,by omega,by omega,by omega,?_⟩
 rw [e32]
 simp only [e1,ey,e0,YJ h1 (show y<4294967296 by omega),YJ (show (0:Int)<=1 by omega) (show (1:Int)<4294967296 by omega),YJ (show (0:Int)<=0 by omega) (show (0:Int)<4294967296 by omega),Int.zero_mul,Int.mul_zero,Int.one_mul,Int.zero_add,Int.add_zero,
  JS h1 (show y<18446744073709551616 by omega),JS (show (0:Int)<=0 by omega) (show (0:Int)<18446744073709551616 by omega),JS (show (0:Int)<=1 by omega) (show (1:Int)<18446744073709551616 by omega)]
theorem IM:Sound Try.prog 215 Sj:=
 Sound.Ht OZ Cb mixed Try.func215 (by kernel_rfl) (by kernel_rfl) λx h=>Afq x.1 x.2.1 h
theorem Aks (x y:Int) (h:x=1/\0<=y/\y<=100000):fnW kX (look [(215,Sj)]) Sj Try.f199 (x,y,()) (λ(z:Int×Int×Unit)=>z=(0,y,())):=
 Eq.mp (Alj x y _) ⟨_,Ab h,rfl⟩
theorem OM:Sound Try.prog 199 Sj:=
 Sound.Ht OZ (Be IM Cb) mixed Try.func199 (by kernel_rfl) (by kernel_rfl) λx h=>Aks x.1 x.2.1 h
theorem ru {α:Type} (a b:α) {k m j:Nat} (h1:k+j<=m):Dw (List.replicate k a++List.replicate (m-k) b) k (List.replicate j a)=List.replicate (k+j) a++List.replicate (m-(k+j)) b:=by
 unfold Dw
 have e1:(List.replicate k a++List.replicate (m-k) b).take k=List.replicate k a:=List.take_left' (by simp)
 have e2:(List.replicate k a++List.replicate (m-k) b).drop (k+(List.replicate j a).length)=List.replicate (m-(k+j)) b:=by
  rw [Dt,List.drop_append,Dt,List.drop_replicate,List.drop_replicate,show k-(k+j)=0 by omega,show m-k-(k+j-k)=m-(k+j) by omega]
  rfl
 rw [e1,e2,<-List.replicate_append_replicate (n:=k) (m:=j)]
theorem Abd (xs:List Int) (n:Int) (h:(∃v,xs= [v])/\1<=n/\n<=100000):fnMW kX (look [(199,Sj)]) eN Try.f167 (xs,n,()) (λ(z:(List Int×Unit)×Unit)=>z=((List.replicate n.toNat (xs.getD 0 0),()),())):=by
 obtain ⟨⟨v,rfl⟩,h1,h2⟩:=h
 obtain ⟨m,rfl⟩:=Bt (show 0<=n by omega)
 have e1:IntKind.u64.wrap (([v]:List Int).length:Int)=1:=JS (by simp) (by simp)
 have e2:IntKind.u64.wrap (m:Int)=(m:Int):=JS (by omega) (by omega)
 have e3:IntKind.i64.wrap (m:Int)=(m:Int):=Dq (by omega) (by omega)
 have hmul:Sj.fn (IntKind.u64.wrap (([v]:List Int).length:Int),IntKind.u64.wrap (m:Int),())=some (0,(m:Int),()):=by
  rw [e1,e2];exact Ab ⟨rfl,by show (0:Int)<=m;omega,by show (m:Int)<=100000;omega⟩
 refine Eq.mp (Ad8 [v] m _) (Br.dec (λhb=>absurd hb (by omega)) λ_=>⟨_,hmul,Br.dec (λhb=>absurd hb (by show ¬(0:Int)>0;omega)) λ_=>Br.dec (λhb=>absurd hb (by show ¬(m:Int)>9223372036854775807;omega)) λ_=>?_⟩)
 dsimp only
 rw [e3]
 have Aum:Dw (List.replicate (m:Int).toNat (Int.ofNat 0)) 0 (List.take (List.replicate (m:Int).toNat (Int.ofNat 0)).length [v])=List.replicate 1 v++List.replicate (m-1) 0:=by
  rw [Ac,Dt,List.take_of_length_le (by simp;omega)]
  have:=ru v (0:Int) (k:=0) (m:=m) (j:=1) (by omega)
  simpa using this
 rw [Aum]
 refine ⟨⟨by omega,by show (m:Int)<(4294967296:Int)+1;omega⟩,rfl,rfl,by simp;omega,?_⟩
 refine Ev.mk (λw=> ∃k:Nat,1<=k/\k<=m/\w=((k:Int),List.replicate k v++List.replicate (m-k) 0,())) (λw=>m-w.1.toNat) ⟨1,Aq _,by omega,?_⟩ ?_
 ·have:min (List.replicate (m:Int).toNat (Int.ofNat 0)).length ([v]:List Int).length=1:=by simp;omega
  rw [this]
  first|rfl|skip
 rintro w ⟨k,k1,k2,rfl⟩
 dsimp only
 have hlen:(List.replicate k v++List.replicate (m-k) (0:Int)).length=m:=by simp;omega
 rw [hlen]
 refine Br.dec (λhl=>?_) λhl=>?_
 ·have hl:k<m:=by omega
  obtain ⟨j,hj⟩: ∃j,min (m-k) k=j:=⟨_,rfl⟩
  have ht0:List.take (((k:Int)).toNat-Int.toNat (0:Int)) (List.drop (0+Int.toNat (0:Int)) (List.replicate k v++List.replicate (m-k) (0:Int)))=List.replicate k v:=by
   have e0:Int.toNat (0:Int)=0:=rfl
   rw [e0,Ac,Dv,Nat.sub_zero,Dy,List.take_left' (by simp)]
  have ht:List.take ((m:Int).toNat-((k:Int)).toNat) (List.replicate k v)=List.replicate j v:=by
   rw [Ac,Ac,List.take_replicate,hj]
  have Ao3:min ((m:Int).toNat-((k:Int)).toNat) (List.replicate k v).length=j:=by rw [Dt,Ac,Ac];exact hj
  rw [ht0,ht,Ao3,Ac,Bn,ru v (0:Int) (by omega)]
  refine ⟨⟨by omega,by omega,by omega⟩,⟨by omega,by omega,by omega⟩,rfl,by simp;omega,⟨k+j,by omega,by omega,?_⟩,?_⟩
  ·rw [Dq (by omega) (by omega)]
   rfl
  ·rw [Dq (by omega) (by omega)]
   omega
 ·have:k=m:=by omega
  subst this
  rw [eV,List.replicate_zero,List.append_nil,Dy,List.take_of_length_le (by simp),Ac]
  rfl
theorem BN:Ci Try.prog 167 eN:=
 Ci.ir OZ (Be OM Cb) mixed Try.func167 (by kernel_rfl) (by kernel_rfl) λx h=>Abd x.1 x.2.1 h
def xO (g:List (List Int)) (L:List (List Int)) (x:List Int):List Int:=(Au g.length).map λl=>((L.idxOf (Af x (Ax g l)):Nat):Int)
theorem bf {g:List (List Int)} {k:Int} {x:List Int} {d:Int} : ∀(ls:List Int) (s:EX) (row:List Int),∃A,(ct g k x d ls s row).1.1=s.1++A
 | [],s,row=>⟨[],by simp [ct]⟩
 |l::ls,s,row=>by
  simp only [ct]
  split
  ·exact bf ls s _
  ·obtain ⟨A,h⟩:=bf (g:=g) (k:=k) (x:=x) (d:=d) ls (s.1++ [Af x (Ax g l)],s.2.1++ [d+1],s.2.2.1++ [k],s.2.2.2++ [l]) (row++ [(s.1.length:Int)])
   exact ⟨_::A,by rw [h,Ck];rfl⟩
theorem LZ {L A:List (List Int)} {y:List Int} (h:y∈L):(L++A).idxOf y=L.idxOf y:=by rw [List.idxOf_append,Ab h]
theorem UB {L A:List (List Int)} {y:List Int} (h:y∉L):(L++y::A).idxOf y=L.length:=by
 rw [List.idxOf_append,Ak h,List.idxOf_cons_self];simp
theorem pt {g:List (List Int)} {k:Int} {x:List Int} {d:Int} : ∀(ls:List Int) (s:EX) (row:List Int) (A:List (List Int)),
  (ct g k x d ls s row).2=row++ls.map λl=>((((ct g k x d ls s row).1.1++A).idxOf (Af x (Ax g l)):Nat):Int)
 | [],s,row,A=>by simp [ct]
 |l::ls,s,row,A=>by
  simp only [ct]
  split
  ·rename_i hm
   obtain ⟨B,hB⟩:=bf (g:=g) (k:=k) (x:=x) (d:=d) ls s (row++ [(s.1.idxOf (Af x (Ax g l)):Int)])
   rw [pt ls s _ A,Ck,Ca,hB,Ck,LZ hm]
   rfl
  ·rename_i hm
   obtain ⟨B,hB⟩:=bf (g:=g) (k:=k) (x:=x) (d:=d) ls (s.1++ [Af x (Ax g l)],s.2.1++ [d+1],s.2.2.1++ [k],s.2.2.2++ [l]) (row++ [(s.1.length:Int)])
   rw [pt ls _ _ A,Ck,Ca,hB]
   dsimp only
   rw [Ck,Ck,List.singleton_append,Mb,UB hm]
   try rfl
theorem xg {g:List (List Int)} {ls:List Int} : ∀(f k:Nat) (s:EX) (N:List (List Int)),∃A,(dq g ls f k s N).1.1=s.1++A
 |0,k,s,N=>⟨[],by simp [dq]⟩
 |f+1,k,s,N=>by
  simp only [dq]
  split
  ·obtain ⟨A,hA⟩:=bf (g:=g) (k:=(k:Int)) (x:=s.1.getD k []) (d:=s.2.1.getD k 0) ls s []
   obtain ⟨B,hB⟩:=xg (g:=g) (ls:=ls) f (k+1) (ct g (k:Int) (s.1.getD k []) (s.2.1.getD k 0) ls s []).1 (N++ [(ct g (k:Int) (s.1.getD k []) (s.2.1.getD k 0) ls s []).2])
   exact ⟨A++B,by rw [hB,hA,Ck]⟩
  ·exact ⟨[],by simp⟩
theorem xh {g:List (List Int)} : ∀(f k:Nat) (s:EX) (N:List (List Int)),(dq g (Au g.length) f k s N).1.1.length<=f+k->
  (dq g (Au g.length) f k s N).2=N++((dq g (Au g.length) f k s N).1.1.drop k).map (xO g (dq g (Au g.length) f k s N).1.1)
 |0,k,s,N,h=>by
  simp only [dq] at h⊢
  rw [List.drop_of_length_le (by omega)]
  simp
 |f+1,k,s,N,h=>by
  simp only [dq] at h⊢
  split
  ·rename_i hk
   rw [Ab hk] at h
   obtain ⟨A,hA⟩:=bf (g:=g) (k:=(k:Int)) (x:=s.1.getD k []) (d:=s.2.1.getD k 0) (Au g.length) s []
   obtain ⟨B,hB⟩:=xg (g:=g) (ls:=Au g.length) f (k+1) (ct g (k:Int) (s.1.getD k []) (s.2.1.getD k 0) (Au g.length) s []).1 (N++ [(ct g (k:Int) (s.1.getD k []) (s.2.1.getD k 0) (Au g.length) s []).2])
   have Ka:=pt (g:=g) (k:=(k:Int)) (x:=s.1.getD k []) (d:=s.2.1.getD k 0) (Au g.length) s [] B
   rw [<-hB,Nn] at Ka
   rw [xh f (k+1) _ _ (by omega),Ck]
   congr 1
   generalize hR:dq g (Au g.length) f (k+1) _ _=R at*
   have hkR:k<R.1.1.length:=by rw [hB,hA,Ay,Ay];omega
   rw [Nw hkR,Ca,List.singleton_append]
   congr 1
   have e:R.1.1[k]=s.1.getD k []:=by
    rw [<-En (d:= []) hkR,hB,hA,Ck,Iz hk]
   rw [Ka,e]
   rfl
  ·rename_i hk
   rw [List.drop_of_length_le (by show s.1.length<=k;omega)]
   simp
theorem TM {p:PP} (hw:Ds p=true):(Il p).2.2.2.2.2.2.1=(Ag p).map (xO p.2.2.1 (Ag p)):=by
 have h1:=(cF hw).1
 have h2:=jP (Cw hw).1
 have h3:=xh (g:=p.2.2.1) 3001 0 ([upto p.1.toNat],[0],[0],[0]) [] (by
  show (Il p).2.1.length<=3001+0
  rw [h1];omega)
 have h4:(dq p.2.2.1 (Au p.2.2.1.length) 3001 0 ([upto p.1.toNat],[0],[0],[0]) []).1.1=Ag p:=h1
 rw [h4,Nn,Dy] at h3
 exact h3
noncomputable def Hu (p:PP) (i:Nat):List Int:=xO p.2.2.1 (Ag p) ((Ag p).getD i [])
theorem Na {p:PP} (hw:Ds p=true):lX p.2.2.1 (Au p.2.2.1.length) (Ag p):=by
 obtain ⟨hv,hb⟩:=Cw hw
 have hV:=valid hv
 have hn:=hV.n
 exact wg hV (mU hv) (sR hv (by rw [Ou];omega) (λy hy=>by have:=Nk.1 hy;omega) hb)
theorem yw {p:PP} (hw:Ds p=true):sy p.2.2.1 (Au p.2.2.1.length) (Ag p) (Bh p):=by
 obtain ⟨hv,hb⟩:=Cw hw
 have hn:=(valid hv).n
 exact sR hv (by rw [Ou];omega) (λy hy=>by have:=Nk.1 hy;omega) hb
theorem MU {p:PP} (hw:Ds p=true) {i:Nat} (hi:i<(Ag p).length) {l:Int} (hl:l∈Au p.2.2.1.length):
  (Ag p).idxOf (Af ((Ag p).getD i []) (Ax p.2.2.1 l))<(Ag p).length/\
  (Ag p).getD ((Ag p).idxOf (Af ((Ag p).getD i []) (Ax p.2.2.1 l))) []=Af ((Ag p).getD i []) (Ax p.2.2.1 l):=by
 have hm:=(Na hw).next _ (Py hi) l hl
 have h1:=Mc hm
 exact ⟨h1,by rw [En h1];exact List.getElem_idxOf h1⟩
theorem fK {p:PP} (hw:Ds p=true):fa (Hu p) (Ag p).length:= λi hi t ht=>by
 obtain ⟨l,hl,rfl⟩:=Ba.1 ht
 have:=(MU hw hi hl).1
 omega
theorem BQ {p:PP} (hw:Ds p=true) (Q:List Int->Prop) (hQ: ∀x∈Ag p,Q x-> ∀l∈Au p.2.2.1.length,Q (Af x (Ax p.2.2.1 l))) {x:List Int} (hx:x∈Ag p) (hq:Q x):
  ∀y∈Ag p,Q y:=by
 have hc:=Na hw
 have hL:=yw hw
 have up: ∀(j:Nat),j<(Ag p).length->Q ((Ag p).getD j [])->Q ((Ag p).getD 0 []):=by
  intro j
  induction j using Nat.strongRecOn with
  |_ j ih=>
   intro hj hqj
   by_cases e:j=0
   ·subst e;exact hqj
   ·obtain ⟨i,l,h1,h2,h3,_⟩:=hL.par j (by omega) hj
    have hi:i<(Ag p).length:=by omega
    obtain ⟨b1,b2⟩:=hc.back _ (Py hi) l h2
    refine ih i h1 hi ?_
    have:=hQ _ (Py hj) hqj _ b1
    rwa [h3,b2] at this
 have down:Q ((Ag p).getD 0 [])-> ∀(j:Nat),j<(Ag p).length->Q ((Ag p).getD j []):=by
  intro h0 j
  induction j using Nat.strongRecOn with
  |_ j ih=>
   intro hj
   by_cases e:j=0
   ·subst e;exact h0
   ·obtain ⟨i,l,h1,h2,h3,_⟩:=hL.par j (by omega) hj
    have hi:i<(Ag p).length:=by omega
    rw [h3]
    exact hQ _ (Py hi) (ih i h1 hi) l h2
 obtain ⟨j,hj,rfl⟩:=Bj.1 hx
 rw [<-En (d:= []) hj] at hq
 intro y hy
 obtain ⟨k,hk,rfl⟩:=Bj.1 hy
 rw [<-En (d:= []) hk]
 exact down (up j hj hq) k hk
theorem Aec {p:PP} (hw:Ds p=true) (S:Nat->Bool) {i0:Nat} (hi0:i0<(Ag p).length) (hS:S i0=true):
  Ju p.2.2.1 (Au p.2.2.1.length) (Ag p) (λx=>S ((Ag p).idxOf x)=true) (λx=>(pG (Hu p) S (Ag p).length).getD ((Ag p).idxOf x) 0):=by
 have hd:=Agw (S:=S) (fK hw)
 have rS:=(yx hw).nodup
 have hc:=Na hw
 have ix: ∀ {x:List Int},x∈Ag p->(Ag p).idxOf x<(Ag p).length/\(Ag p).getD ((Ag p).idxOf x) []=x:= λ {x} hx=>by
  have h1:=Mc hx
  exact ⟨h1,by rw [En h1];exact List.getElem_idxOf h1⟩
 have st: ∀x∈Ag p,0<=(pG (Hu p) S (Ag p).length).getD ((Ag p).idxOf x) 0-> ∀l∈Au p.2.2.1.length,
   0<=(pG (Hu p) S (Ag p).length).getD ((Ag p).idxOf (Af x (Ax p.2.2.1 l))) 0/\
   (pG (Hu p) S (Ag p).length).getD ((Ag p).idxOf (Af x (Ax p.2.2.1 l))) 0<=(pG (Hu p) S (Ag p).length).getD ((Ag p).idxOf x) 0+1:= λx hx h0 l hl=>by
  obtain ⟨i1,i2⟩:=ix hx
  have:=hd.done _ i1 h0 (by simp) (λh=>h) (((Ag p).idxOf (Af x (Ax p.2.2.1 l)):Nat):Int) (Ba.2 ⟨l,hl,by rw [i2]⟩)
  rwa [Ac] at this
 have nn: ∀x∈Ag p,0<=(pG (Hu p) S (Ag p).length).getD ((Ag p).idxOf x) 0:=by
  refine BQ hw _ (λx hx h0 l hl=>(st x hx h0 l hl).1) (Py hi0) ?_
  rw [Pk rS hi0,hd.src i0 hi0 hS]
  exact Pu _
 refine ⟨nn,λx hx=>⟨λh0=>hd.Ag1 _ (ix hx).1 h0,λhs=>hd.src _ (ix hx).1 hs⟩,λx hx l hl=>(st x hx (nn x hx) l hl).2,λx hx h0=>?_⟩
 obtain ⟨j,j1,j2,j3⟩:=hd.par _ (ix hx).1 h0
 obtain ⟨l,hl,hlj⟩:=Ba.1 j2
 obtain ⟨n1,n2⟩:=MU hw j1 hl
 have e:(Ag p).idxOf (Af ((Ag p).getD j []) (Ax p.2.2.1 l))=(Ag p).idxOf x:=by omega
 obtain ⟨b1,b2⟩:=hc.back _ (Py j1) l hl
 rw [e,(ix hx).2] at n2
 refine ⟨-l,b1,?_⟩
 have e5:Af x (Ax p.2.2.1 (-l))=(Ag p).getD j []:=(Cx (λz=>Af z (Ax p.2.2.1 (-l))) n2).trans b2
 rw [e5,Pk rS j1,j3]
noncomputable def GP (e:Option XP) (S:Nat->Bool):List Int:=match e with|some e=>pG (Hu e.1) S (Ag e.1).length|none=> []
abbrev tDs:Ty:= .clo 166 (.pair (.ptr tL) (.pair (.ptr tI) .unit))
noncomputable abbrev yj:Spec:=Ht (.pair tI (.pair (.ptr tL) (.pair (.ptr tI) .unit))) .bool false true (λx=>(0<=x.1/\x.1<List.length x.2.1)/\0<=x.2.2.1/\x.2.2.1<List.length x.2.1) (λx=>decide (Cr x.2.1 x.1<Cr x.2.1 x.2.2.1))
noncomputable abbrev q9:Spec:=Ht (.pair tL (.pair tDs .unit)) tI false true (λx=>short x.1/\Rk (List.length x.2.1.1) x.1/\0<=x.2.1.2.1/\x.2.1.2.1<List.length x.2.1.1) (λx=>Gk (λy=>decide (Cr x.2.1.1 y<Cr x.2.1.1 x.2.1.2.1)) x.1 0)
def Uz (N:Nat->List Int) (ls d:List Int):Nat->Int->List Int->List Int×Int
 |0,i,w=>(w,i)
 |f+1,i,w=>if 0<Cr d i then Uz N ls d f ((N i.toNat).getD (Gk (λy=>decide (Cr d y<Cr d i)) (N i.toNat) 0).toNat 0) (w++ [ls.getD (Gk (λy=>decide (Cr d y<Cr d i)) (N i.toNat) 0).toNat 0]) else (w,i)
noncomputable def Kg (p:PP) (d:List Int) (i:Int):List Int×Int×Bool×Unit:=
 if Cr d i>200 then ([],0,false,()) else ((Uz (Hu p) (Au p.2.2.1.length) d (Cr d i).toNat i []).1,(Uz (Hu p) (Au p.2.2.1.length) d (Cr d i).toNat i []).2,true,())
noncomputable def zM (e:Option XP) (d:List Int) (i:Int):(List Int×Int×Bool×Unit)×Unit:=match e with|some e=>(Kg e.1 d i,())|none=>(([],0,false,()),())
structure KD (p:PP) (d:List Int):Prop where
 len:d.length=(Ag p).length
 nn: ∀i,i<d.length->0<=d.getD i 0
 dn: ∀i,i<d.length->0<d.getD i 0-> ∃t∈Hu p i,d.getD t.toNat 0<d.getD i 0
noncomputable abbrev Yf:MSpec:=ir [none,none,none] [(false, .Fe (.optr gW)),(false, .Fe tL),(false, .Fe tI)] true [none,none,none] [rL, .Fe tI, .Fe .bool]
 (λx=> ∃e':XP,x.1=some e'/\p8 e'/\KD e'.1 x.2.1/\0<=x.2.2.1/\x.2.2.1<List.length x.2.1) (λx=>zM x.1 x.2.1 x.2.2.1)
theorem Aqf (y:Int) (d:List Int) (i:Int) (P:Bool->Prop):(∃(y4:Int),idx d y=some y4/\ ∃(y5:Int),idx d i=some y5/\P (decide (y4<y5)))=fnW Hz (look []) yj Try.f166 (y,d,i,()) P:=by kernel_rfl
theorem Alh (xs:List Int) (c:List Int×Int×Unit) (P:Int->Prop):(Ev (λ(v3:Int×PUnit) (k4:Int×PUnit->Prop)=>Br (decide (v3.1<(↑xs.length:Int))) (∃(y5:Int),idx xs v3.1=some y5/\ ∃(y6:Bool),yj.fn (y5,c.1,c.2.1,())=some y6/\Br y6 (P v3.1) (k4 (IntKind.i64.wrap (v3.1+(1:Int)),()))) (P (-1:Int))) ((0:Int),PUnit.unit))=fnW Hz (look [(166,yj)]) q9 Try.f165 (xs,c,()) P:=by kernel_rfl
abbrev mW:Type:=(Int×ByteArray×List (List Int)×PUnit)×List (List Int)×List Int×(ByteArray->Option Int)×List Int×List Int×List (List Int)×PUnit
theorem WV (e:Option XP) (d:List Int) (i:Int) (P:((List Int×Int×Bool×Unit)×Unit)->Prop):(∃(y4:Int),idx d i=some y4/\Br (decide (y4>(200:Int))) (P ((List.take 0 (List.drop 0 []),(0:Int),false,()),())) (∃(y5:mW),e=some y5/\ ∃(y6:List Int),Kl.fn ((↑y5.1.2.2.1.length:Int),())=some y6/\0=0/\0=([]:List Int).length/\Ev (λ(v7:List Int×Int×List Int×PUnit) (k8:List Int×Int×List Int×PUnit->Prop)=> ∃(y9:Int),idx v7.1 v7.2.1=some y9/\Br (decide (y9>(0:Int))) (∃(Qp:mW),e=some Qp/\ ∃(Nu:List Int),idx Qp.2.2.2.2.2.2.1 v7.2.1=some Nu/\ ∃(Vm:Int),q9.fn (Nu,(v7.1,v7.2.1,()),())=some Vm/\ ∃(hJ:Int),idx y6 Vm=some hJ/\0=0/\v7.2.2.1.length=v7.2.2.1.length/\v7.2.2.1.length+(List.take 1 (List.drop 0 [hJ])).length<=Dn/\ ∃(Ub:mW),e=some Ub/\ ∃(JT:List Int),idx Ub.2.2.2.2.2.2.1 v7.2.1=some JT/\ ∃(oU:Int),idx JT Vm=some oU/\0=0/\(v7.2.2.1++List.take 1 (List.drop 0 [hJ])).length=(v7.2.2.1++List.take 1 (List.drop 0 [hJ])).length/\k8 (v7.1,oU,v7.2.2.1++List.take 1 (List.drop 0 [hJ]),())) (P ((List.take v7.2.2.1.length (List.drop 0 v7.2.2.1),v7.2.1,true,()),()))) (d,i,[],PUnit.unit)))=fnMW Sp (look [(121,Kl),(165,q9)]) Yf Try.f111 (e,d,i,()) P:=by kernel_rfl
theorem Amt {e:XP} (h:p8 e):e.2.1=Ag e.1:=(Cx (λz:XP=>z.2.1) h.2).trans (cF h.1).1
theorem ZA {e:XP} (h:p8 e):e.2.2.1=Bh e.1:=(Cx (λz:XP=>z.2.2.1) h.2).trans (cF h.1).2
theorem Aed {e:XP} (h:p8 e):e.2.2.2.2.2.2.1=(Ag e.1).map (xO e.1.2.2.1 (Ag e.1)):=(Cx (λz:XP=>z.2.2.2.2.2.2.1) h.2).trans (TM h.1)
theorem QM {e:XP} (h:p8 e) {i:Nat} (hi:i<(Ag e.1).length):idx e.2.2.2.2.2.2.1 (i:Int)=some (Hu e.1 i):=by
 rw [Aed h,Dk (by rw [Bs];exact hi),Za]
 unfold Hu
 rw [En hi]
theorem mL (p:PP) (i:Nat):(Hu p i).length=(Au p.2.2.1.length).length:=by unfold Hu xO;rw [Bs]
theorem jh {p:PP} (hV:Valid p):(Au p.2.2.1.length).length<=16:=by rw [Zh];have:=hV.oW;omega
def dqp (S:Nat->Bool) (i:Nat):List Int:=((List.range i).filter S).map λ(k:Nat)=>(k:Int)
theorem EI (S:Nat->Bool) (i:Nat):dqp S (i+1)=if S i=true then dqp S i++ [(i:Int)] else dqp S i:=by
 unfold dqp
 rw [bb,List.filter_append]
 by_cases h:S i=true
 ·rw [Ab h];simp [h]
 ·rw [Ak h];simp [h]
theorem Aea (S:Nat->Bool) (i:Nat):(dqp S i).length<=i:=by
 unfold dqp
 rw [Bs]
 exact Hq (List.length_filter_le _ _) (by simp)
theorem Afz {xs:List Int} {i:Nat} {v:Int} {m:Nat} (hl:xs.length=m) (hi:i<m) {f g:Nat->Int} (h: ∀k,k<m->xs.getD k 0=f k) (hg:g i=v) (Ig: ∀k,k≠i->g k=f k): ∀k,k<m->(xs.set i v).getD k 0=g k:= λk hk=>by
 rw [ko (by omega)]
 by_cases e:i=k
 ·subst e;rw [Ab rfl,hg]
 ·rw [Ak e,h k hk,Ig k λe'=>e e'.symm]
theorem UK {xs ys:List Int} (h1:xs.length=ys.length) (h: ∀k,k<xs.length->xs.getD k 0=ys.getD k 0):xs=ys:=
 List.ext_getElem h1 λk h2 h3=>by have:=h k h2;rwa [En h2,En h3] at this
theorem Aix {xs:List Int} {k:Nat} (h:k<xs.length):xs[0+((k:Nat):Int).toNat]?=some (xs.getD k 0):=by
 rw [Bn,Ac,Ad h,En h]
theorem Apv (y:Int) (d:List Int) (i:Int) (h:(0<=y/\y<(List.length d:Int))/\0<=i/\i<(List.length d:Int)):fnW Hz (look []) yj Try.f166 (y,d,i,()) (λ(z:Bool)=>z=decide (Cr d y<Cr d i)):=
 Eq.mp (Aqf y d i _) ⟨_,On h.1.1 h.1.2,_,On h.2.1 h.2.2,rfl⟩
theorem WA:Sound Try.prog 166 yj:=
 Sound.Ht Ge Cb mixed Try.func166 (by kernel_rfl) (by kernel_rfl) λx h=>Apv x.1 x.2.1 x.2.2.1 h
theorem Akq (xs:List Int) (c:List Int×Int×Unit) (h:short xs/\Rk (List.length c.1) xs/\0<=c.2.1/\c.2.1<(List.length c.1:Int)):fnW Hz (look [(166,yj)]) q9 Try.f165 (xs,c,()) (λ(z:Int)=>z=Gk (λy=>decide (Cr c.1 y<Cr c.1 c.2.1)) xs 0):=by
 obtain ⟨h,h5,h6⟩:=h
 unfold short at h
 refine Eq.mp (Alh xs c _) ?_
 refine Cj xs.length (λv=>v.1) (λj _=>Gk (λy=>decide (Cr c.1 y<Cr c.1 c.2.1)) (xs.drop j) j=Gk (λy=>decide (Cr c.1 y<Cr c.1 c.2.1)) xs 0) rfl (by simp) ?_
 rintro j ⟨i,⟨⟩⟩ K hj hi hR hK
 dsimp only at hi⊢
 subst hi
 refine Br.dec (λhl=>?_) λhl=>?_
 ·have hl:j<xs.length:=by omega
  rw [Nw hl] at hR
  simp only [Gk] at hR
  refine ⟨_,Dk hl,_,Ab ⟨h5 _ (An hl),h6⟩,⟨λhe=>?_,λhe=>?_⟩⟩
  ·have he:decide (Cr c.1 xs[j]<Cr c.1 c.2.1)=true:=he
   rw [Ab he] at hR
   exact hR
  ·have he:decide (Cr c.1 xs[j]<Cr c.1 c.2.1)=false:=he
   rw [Ak (by rw [he];decide)] at hR
   rw [Cd (by omega)]
   exact hK hl _ rfl (by push_cast;exact hR)
 ·have:j=xs.length:=by omega
  subst this
  rw [List.drop_length] at hR
  exact hR
theorem OL:Sound Try.prog 165 q9:=
 Sound.Ht Ge (Be WA Cb) mixed Try.func165 (by kernel_rfl) (by kernel_rfl) λx h=>Akq x.1 x.2.1 h
theorem kx {α:Type} {P:α->Bool} : ∀(l:List α) (i:Nat),l.any P=true-> ∃k,∃h:k<l.length,Gk P l (i:Int)=((i+k:Nat):Int)/\P l[k]=true/\ ∀j (h:j<k),P (l[j]'(by omega))=false
 | [],i,h=>by simp at h
 |y::r,i,h=>by
  simp only [Gk]
  by_cases hy:P y=true
  ·rw [Ab hy]
   exact ⟨0,by simp,rfl,hy,λj hj=>absurd hj (Dj _)⟩
  ·rw [Ak hy]
   have hr:r.any P=true:=by
    rw [List.any_cons,Jz] at h
    exact h.resolve_left hy
   obtain ⟨k,hk,h1,h2,h3⟩:=kx r (i+1) hr
   refine ⟨k+1,by simpa using hk,?_,h2,λj hj=>?_⟩
   ·rw [show ((i:Int)+1)=((i+1:Nat):Int) by push_cast;rfl,h1]
    congr 1
    omega
   ·cases j with
    |zero=>exact Fa _|>.mp hy
    |succ j=>exact h3 j (by omega)
theorem QJ {p:PP} (hw:Ds p=true) {d:List Int} (h:KD p d) {i:Nat} (hi:i<d.length) (hp:0<d.getD i 0):
  ∃k,∃(h1:k<(Au p.2.2.1.length).length) (h2:k<(Hu p i).length),Gk (λy=>decide (Cr d y<Cr d (i:Int))) (Hu p i) 0=(k:Int)/\
   ∃t:Nat,(Hu p i)[k]=(t:Int)/\t<d.length/\d.getD t 0<d.getD i 0:=by
 obtain ⟨t,ht,htl⟩:=h.dn i hi hp
 have j6:(Hu p i).any (λy=>decide (Cr d y<Cr d (i:Int)))=true:=Ep.2 ⟨t,ht,Cl htl⟩
 obtain ⟨k,hk,h1,h2,_⟩:=kx (Hu p i) 0 j6
 have hl:=h.len
 obtain ⟨r1,r2⟩:=fK hw i (by omega) _ (An hk)
 obtain ⟨tn,htn⟩:=Bt r1
 refine ⟨k,by rw [<-mL];exact hk,hk,by rw [Bn] at h1;exact h1,tn,htn,by omega,?_⟩
 have h2:=Gw h2
 unfold Cr at h2
 rw [htn,Ac,Ac] at h2
 exact h2
theorem UY (e:Option XP) (d:List Int) (i:Int) (h: ∃e':XP,e=some e'/\p8 e'/\KD e'.1 d/\0<=i/\i<(List.length d:Int)):
  fnMW Sp (look [(121,Kl),(165,q9)]) Yf Try.f111 (e,d,i,()) (λ(z:(List Int×Int×Bool×Unit)×Unit)=>z=zM e d i):=by
 obtain ⟨e',rfl,hx,hd,h1,h2⟩:=h
 have hwv:=Cw hx.1
 have hV:=valid hwv.1
 have hf:=hV.oW
 have hdl:=hd.len
 refine Eq.mp (WV _ _ _ _) ⟨_,On h1 h2,?_⟩
 show Br _ (_=(Kg e'.1 d i,())) _
 unfold zM Kg
 dsimp only
 refine Br.dec (λhb=>by rw [Ab hb];rfl) λhb=>?_
 rw [Ak hb]
 refine ⟨e',rfl,Au e'.1.2.2.1.length,(Ab ⟨by show (0:Int)<=((e'.1.2.2.1.length:Nat):Int);omega,by show ((e'.1.2.2.1.length:Nat):Int)<=8;omega⟩).trans (Cx some (by show Au (((e'.1.2.2.1.length:Nat):Int)).toNat=_;rw [Ac])),rfl,rfl,?_⟩
 have hnn: ∀k:Nat,k<d.length->0<=Cr d (k:Int):= λk hk=>by unfold Cr;rw [Ac];exact hd.nn k hk
 obtain ⟨R,hRR⟩: ∃R,Uz (Hu e'.1) (Au e'.1.2.2.1.length) d (Cr d i).toNat i []=R:=⟨_,rfl⟩
 rw [hRR]
 obtain ⟨i0,rfl⟩:=Bt h1
 refine Ev.mk (λv=> ∃(k:Nat) (w:List Int) (f:Nat),v=(d,(k:Int),w,())/\k<d.length/\Cr d (k:Int)<=f/\w.length+f<=200/\Uz (Hu e'.1) (Au e'.1.2.2.1.length) d f (k:Int) w=R) (λv=>(Cr d v.2.1).toNat)
  ⟨i0,[],(Cr d (i0:Int)).toNat,rfl,by omega,by omega,by have:=hnn i0 (by omega);simp only [Di];omega,hRR⟩ ?_
 rintro v ⟨k,w,f,rfl,k1,k2,k3,k4⟩
 dsimp only
 refine ⟨Cr d (k:Int),On (by omega) (by omega),Br.dec (λhl=>?_) λhl=>?_⟩
 ·have Jg:0<d.getD k 0:=by unfold Cr at hl;rwa [Ac] at hl
  obtain ⟨f,rfl⟩: ∃f',f=f'+1:=⟨f-1,by omega⟩
  obtain ⟨n,n1,n2,n3,t,n4,n5,n6⟩:=QJ hx.1 hd k1 Jg
  simp only [Uz] at k4
  rw [Ab hl,Ac,n3,Ac,En n2,n4,En n1] at k4
  have hnl:(Hu e'.1 k).length<=16:=by rw [mL];exact jh hV
  have Ato:Rk d.length (Hu e'.1 k):= λy hy=>by
   have:=fK hx.1 k (by omega) y hy
   omega
  refine ⟨e',rfl,Hu e'.1 k,QM hx (by omega),(n:Int),(Ab ⟨by show (Hu e'.1 k).length<=4294967296;omega,Ato,by show (0:Int)<=(k:Int);omega,by show (k:Int)<(d.length:Int);omega⟩).trans (Cx some n3),_,Dk n1,rfl,rfl,?_,e',rfl,Hu e'.1 k,QM hx (by omega),(t:Int),by rw [Dk n2,n4],rfl,rfl,?_⟩
  ·show w.length+1<=4294967296;omega
  ·have e6:Cr d (t:Int)<Cr d (k:Int):=by unfold Cr;rw [Ac,Ac];exact n6
   have h0:=hnn t n5
   refine ⟨⟨t,w++ [(Au e'.1.2.2.1.length)[n]],f,rfl,n5,by omega,by rw [Ay,Bu];omega,k4⟩,?_⟩
   show (Cr d (t:Int)).toNat<(Cr d (k:Int)).toNat
   omega
 ·rw [Dz]
  have:Uz (Hu e'.1) (Au e'.1.2.2.1.length) d f (k:Int) w=(w,(k:Int)):=by
   cases f with
   |zero=>rfl
   |succ f=>simp only [Uz];rw [Ak (by omega)]
  rw [this] at k4
  subst k4
  rfl
theorem wG:Ci Try.prog 111 Yf:=
 Ci.ir Rt (Be Zm (Be OL Cb)) mixed Try.func111 (by kernel_rfl) (by kernel_rfl) λx h=>UY x.1 x.2.1 x.2.2.1 h
theorem Lt {p:PP} (hv:Cs p=true):(Ag p).getD 0 []=upto p.1.toNat/\upto p.1.toNat∈Ag p:=by
 obtain ⟨A,h⟩:=(Oo hv).first
 have h:Ag p=upto p.1.toNat::A:=h
 rw [h]
 exact ⟨rfl,by simp⟩
theorem Ju.congr {g:List (List Int)} {ls:List Int} {L:List (List Int)} {S S':List Int->Prop} {d:List Int->Int} (h:Ju g ls L S d) (e: ∀x∈L,S x↔S' x):Ju g ls L S' d:=
 ⟨h.nn,λx hx=>(h.zero x hx).trans (e x hx),h.step,h.down⟩
theorem z0 {p:PP} (hw:Ds p=true) {S:List Int->Prop} {d:List Int} (hl:d.length=(Ag p).length) (h:Ju p.2.2.1 (Au p.2.2.1.length) (Ag p) S (λx=>d.getD ((Ag p).idxOf x) 0)):KD p d:=by
 have rS:=(yx hw).nodup
 refine ⟨hl,λi hi=>?_,λi hi h0=>?_⟩
 ·have:=h.nn _ (Py (show i<(Ag p).length by omega))
  rwa [Pk rS (by omega)] at this
 ·have dP:i<(Ag p).length:=by omega
  obtain ⟨l,h1,h2⟩:=h.down _ (Py dP) (by rw [Pk rS dP];exact h0)
  rw [Pk rS dP] at h2
  refine ⟨_,Ba.2 ⟨l,h1,rfl⟩,?_⟩
  rw [Ac,h2]
  omega
def ik (g:List (List Int)) (dep:List Int->Int) (ls:List Int):Nat->List Int->List Int->List Int×List Int
 |0,x,w=>(w,x)
 |n+1,x,w=>match ls.find? (λl=>decide (dep (Af x (Ax g l))=n)) with
  |some l=>ik g dep ls n (Af x (Ax g l)) (w++ [l])
  |none=>ik g dep ls n x w
theorem QO {α:Type} {P:α->Bool} : ∀(l:List α) (k:Nat) (h:k<l.length),P l[k]=true->(∀j (hj:j<k),P (l[j]'(by omega))=false)->l.find? P=some l[k]
 | [],k,h,_,_=>by simp at h
 |y::r,0,_,h1,_=>by rw [List.find?_cons_of_pos (show P y=true from h1)];rfl
 |y::r,k+1,h,h1,h2=>by
  rw [List.find?_cons_of_neg (by have:=h2 0 (by omega);simp at this;simp [this])]
  exact QO r k (by simpa using h) h1 λj hj=>h2 (j+1) (by omega)
theorem z7 {p:PP} (hw:Ds p=true) {S:List Int->Prop} {d:List Int} (hdn:KD p d) (hd:Ju p.2.2.1 (Au p.2.2.1.length) (Ag p) S (λx=>d.getD ((Ag p).idxOf x) 0))
  {see:List Int->List Int} {dep:List Int->Int} (hs: ∀x∈Ag p,∀l∈Au p.2.2.1.length,see (Af x (Ax p.2.2.1 l))=Af (see x) (Ax p.2.2.1 l))
  (he: ∀x∈Ag p,d.getD ((Ag p).idxOf x) 0=dep (see x)):
  ∀(n i:Nat) (w:List Int),i<(Ag p).length->d.getD i 0=n->
   (Uz (Hu p) (Au p.2.2.1.length) d n (i:Int) w).1=(ik p.2.2.1 dep (Au p.2.2.1.length) n (see ((Ag p).getD i [])) w).1/\
   (Uz (Hu p) (Au p.2.2.1.length) d n (i:Int) w).1.length=w.length+n/\
   ∃j:Nat,(Uz (Hu p) (Au p.2.2.1.length) d n (i:Int) w).2=(j:Int)/\j<(Ag p).length/\d.getD j 0=0/\see ((Ag p).getD j [])=(ik p.2.2.1 dep (Au p.2.2.1.length) n (see ((Ag p).getD i [])) w).2
 |0,i,w,hi,e=>⟨rfl,rfl,i,rfl,hi,e,rfl⟩
 |n+1,i,w,hi,e=>by
  have rS:=(yx hw).nodup
  have hl:=hdn.len
  have rV:0<d.getD i 0:=by omega
  have hg:Cr d (i:Int)=d.getD i 0:=by unfold Cr;rw [Ac]
  obtain ⟨t0,ht0,htl⟩:=hdn.dn i (by omega) rV
  have j6:(Hu p i).any (λy=>decide (Cr d y<Cr d (i:Int)))=true:=Ep.2 ⟨t0,ht0,Cl htl⟩
  obtain ⟨k,hk,k1,k2,k3⟩:=kx (Hu p i) 0 j6
  have k1:Gk (λy=>decide (Cr d y<Cr d (i:Int))) (Hu p i) 0=(k:Int):=by rw [Bn] at k1;exact k1
  have My:k<(Au p.2.2.1.length).length:=by rw [<-mL p i];exact hk
  have hx:=Py (L:=Ag p) hi
  have hat: ∀j (hj:j<(Au p.2.2.1.length).length),∃h2:j<(Hu p i).length,(Hu p i)[j]=(((Ag p).idxOf (Af ((Ag p).getD i []) (Ax p.2.2.1 (Au p.2.2.1.length)[j])):Nat):Int):= λj hj=>
   ⟨by rw [mL];exact hj,by simp only [Hu,xO,Za]⟩
  have pB: ∀j (hj:j<(Au p.2.2.1.length).length) (h2:j<(Hu p i).length),decide (Cr d (Hu p i)[j]<Cr d (i:Int))=decide (dep (Af (see ((Ag p).getD i [])) (Ax p.2.2.1 (Au p.2.2.1.length)[j]))=n):= λj hj h2=>by
   obtain ⟨_,h3⟩:=hat j hj
   have hlm:=An hj
   have h4:=hd.UO (Na hw) hx hlm
   rw [Pk rS hi] at h4
   have h5:=he _ ((Na hw).next _ hx _ hlm)
   rw [hs _ hx _ hlm] at h5
   rw [h3,hg,<-h5]
   unfold Cr
   rw [Ac,iv,Gf,Gf]
   omega
  have QZ:(Au p.2.2.1.length).find? (λl=>decide (dep (Af (see ((Ag p).getD i [])) (Ax p.2.2.1 l))=n))=some (Au p.2.2.1.length)[k]:=by
   refine QO _ k My ?_ λj hj=>?_
   ·rw [<-pB k My hk];exact k2
   ·rw [<-pB j (by omega) (by omega)];exact k3 j hj
  obtain ⟨_,j8⟩:=hat k My
  have hlm:=An My
  obtain ⟨n1,n2⟩:=MU hw hi hlm
  have gI:Cr d (i:Int)>0:=by rw [hg];exact rV
  simp only [Uz,ik]
  rw [Ab gI,Ac,k1,Ac,En hk,j8,En My,QZ]
  dsimp only
  have hdk:d.getD ((Ag p).idxOf (Af ((Ag p).getD i []) (Ax p.2.2.1 (Au p.2.2.1.length)[k]))) 0=n:=by
   have h6:=Gw ((pB k My hk).symm.trans k2)
   rw [he _ ((Na hw).next _ hx _ hlm),hs _ hx _ hlm]
   exact h6
  obtain ⟨r1,r2,r3⟩:=z7 hw hdn hd hs he n _ (w++ [(Au p.2.2.1.length)[k]]) n1 hdk
  rw [n2,hs _ hx _ hlm] at r1 r3
  refine ⟨r1,?_,r3⟩
  rw [r2,Ay,Bu]
  omega
def oc (w:List Int):List Int×Bool×Unit:=if w.length>200 then ([],false,()) else (w,true,())
def bT (ls N d:List Int) (i:Int):List Int×List Int:=(((ls.zip N).filter (λq=>decide (Cr d q.2<Cr d i))).map Prod.fst,((ls.zip N).filter (λq=>decide (Cr d q.2<Cr d i))).map Prod.snd)
noncomputable def RW (e:Option XP) (i:Int):(List Int×List Int×Unit)×Unit:=match e with|some e=>(((bT (Au e.1.2.2.1.length) (Hu e.1 i.toNat) (Bh e.1) i).1,(bT (Au e.1.2.2.1.length) (Hu e.1 i.toNat) (Bh e.1) i).2,()),())|none=>(([],[],()),())
noncomputable abbrev aa:MSpec:=ir [none,none] [(false, .Fe (.optr gW)),(false, .Fe tI)] true [none,none] [rL,rL]
 (λx=> ∃e':XP,x.1=some e'/\p8 e'/\0<=x.2.1/\x.2.1<(Ag e'.1).length) (λx=>RW x.1 x.2.1)
noncomputable def Xz (p:PP) (i:Int):List Int×Bool×Unit:=((Kg p (Bh p) i).1,(Kg p (Bh p) i).2.2.1,())
noncomputable def Aap (e:Option XP) (i:Int):(List Int×Bool×Unit)×Unit:=match e with|some e=>(Xz e.1 i,())|none=>(([],false,()),())
noncomputable abbrev jI:MSpec:=ir [none,none] [(false, .Fe (.optr gW)),(false, .Fe tI)] true [none,none] [rL, .Fe .bool]
 (λx=> ∃e':XP,x.1=some e'/\p8 e'/\0<=x.2.1/\x.2.1<(Ag e'.1).length) (λx=>Aap x.1 x.2.1)
def mG (t:List Int) (l:Int):Int:=if l>0 then Cr t (l-1)+1 else-(Cr t (-l-1)+1)
noncomputable def Zj (p:PP) (t s:List Int):List Int×Bool×Unit:=if s∈Ag (Cf p t) then ((Xz (Cf p t) (Ni (Cf p t) s).1).1.map (mG t),(Xz (Cf p t) (Ni (Cf p t) s).1).2.1,()) else ([],false,())
noncomputable def GQ (h:Option HP) (i:Int):(List Int×Bool×Unit)×Unit:=match h with
 |some (some e,t,_)=>(Zj e.1 t ((Ag e.1).getD i.toNat []),())
 |_=>(([],false,()),())
noncomputable abbrev fX:MSpec:=ir [none,none] [(false, .Fe (.optr gj)),(false, .Fe tI)] true [none,none] [rL, .Fe .bool]
 (λx=> ∃p t,Jn p t=true/\x.1=some (Fq p t)/\0<=x.2.1/\x.2.1<(Ag p).length) (λx=>GQ x.1 x.2.1)
noncomputable def Pn (p:PP) (t s:List Int):List Int×Bool×Unit:=if (Jn p t&&decide (s∈Ag p))=true then Zj p t s else ([],false,())
noncomputable abbrev Yk:MSpec:=ir [some 3,none,none] [(false, .Fe tI),(false, .Fe .str),(false, .Fe se),(false, .Fe tL),(false, .Fe tL)] true [none,none] [rL, .Fe .bool]
 (λx=>Gt (x.1,x.2.1,x.2.2.1,())/\short x.2.2.2.1/\short x.2.2.2.2.1) (λx=>(((Pn (x.1,x.2.1,x.2.2.1,()) x.2.2.2.1 x.2.2.2.2.1).1,(Pn (x.1,x.2.1,x.2.2.1,()) x.2.2.2.1 x.2.2.2.2.1).2.1,()),()))
noncomputable def mE (p:PP) (s:List Int):List Int:=(ik p.2.2.1 (Li (Ag p) (Bh p)) (Au p.2.2.1.length) (Li (Ag p) (Bh p) s).toNat s []).1
noncomputable def tZ (p:PP) (t s:List Int):List Int:=(mE (Cf p t) s).map (mG t)
abbrev kM:Type:=(Int×ByteArray×List (List Int)×PUnit)×List (List Int)×List Int×(ByteArray->Option Int)×List Int×List Int×List (List Int)×PUnit
theorem Ad2 (e:Option XP) (i:Int) (P:((List Int×List Int×Unit)×Unit)->Prop):(∃(y3:kM),e=some y3/\ ∃(y4:List Int),Kl.fn ((↑y3.1.2.2.1.length:Int),())=some y4/\ ∃(y5:kM),e=some y5/\ ∃(y6:List Int),idx y5.2.2.2.2.2.2.1 i=some y6/\0=0/\0=([]:List Int).length/\0=0/\0=([]:List Int).length/\Ev (λ(v7:Int×List Int×List Int×PUnit) (k8:Int×List Int×List Int×PUnit->Prop)=>Br (decide (v7.1<(↑y6.length:Int))) (∃(y9:Int),idx y6 v7.1=some y9/\ ∃(Qp:kM),e=some Qp/\ ∃(Nu:Int),idx Qp.2.2.1 y9=some Nu/\ ∃(Vm:kM),e=some Vm/\ ∃(hJ:Int),idx Vm.2.2.1 i=some hJ/\Br (decide (Nu<hJ)) (∃(Ub:Int),idx y4 v7.1=some Ub/\0=0/\v7.2.1.length=v7.2.1.length/\v7.2.1.length+(List.take 1 (List.drop 0 [Ub])).length<=Dn/\0=0/\v7.2.2.1.length=v7.2.2.1.length/\v7.2.2.1.length+(List.take 1 (List.drop 0 [y9])).length<=Dn/\0=0/\(v7.2.1++List.take 1 (List.drop 0 [Ub])).length=(v7.2.1++List.take 1 (List.drop 0 [Ub])).length/\0=0/\(v7.2.2.1++List.take 1 (List.drop 0 [y9])).length=(v7.2.2.1++List.take 1 (List.drop 0 [y9])).length/\k8 (IntKind.i64.wrap (v7.1+(1:Int)),v7.2.1++List.take 1 (List.drop 0 [Ub]),v7.2.2.1++List.take 1 (List.drop 0 [y9]),())) (0=0/\v7.2.1.length=v7.2.1.length/\0=0/\v7.2.2.1.length=v7.2.2.1.length/\k8 (IntKind.i64.wrap (v7.1+(1:Int)),v7.2.1,v7.2.2.1,()))) (P ((List.take v7.2.1.length (List.drop 0 v7.2.1),List.take v7.2.2.1.length (List.drop 0 v7.2.2.1),()),()))) ((0:Int),[],[],PUnit.unit))=fnMW Sp (look [(121,Kl)]) aa Try.f200 (e,i,()) P:=by kernel_rfl
abbrev SP:Type:=(Int×ByteArray×List (List Int)×PUnit)×List (List Int)×List Int×(ByteArray->Option Int)×List Int×List Int×List (List Int)×PUnit
theorem Alk (e:Option XP) (i:Int) (P:((List Int×Bool×Unit)×Unit)->Prop):(∃(y3:SP),e=some y3/\ ∃(y4:Int),idx y3.2.2.1 i=some y4/\Br (decide (y4>(200:Int))) (P ((List.take 0 (List.drop 0 []),false,()),())) (0=0/\0=([]:List Int).length/\Ev (λ(v5:Int×List Int×PUnit) (k6:Int×List Int×PUnit->Prop)=> ∃(y7:SP),e=some y7/\ ∃(y8:Int),idx y7.2.2.1 v5.1=some y8/\Br (decide (y8>(0:Int))) (∃(y9:(List Int×List Int×PUnit)×PUnit),aa.fn (e,v5.1,())=some y9/\((0:Int)<=(0:Int)/\(0:Int)<(↑y9.1.1.length:Int))/\ ∃(Qp:Int),y9.1.1[0+Int.toNat (0:Int)]?=some Qp/\0=0/\v5.2.1.length=v5.2.1.length/\v5.2.1.length+(List.take 1 (List.drop 0 [Qp])).length<=Dn/\((0:Int)<=(0:Int)/\(0:Int)<(↑y9.1.2.1.length:Int))/\ ∃(Nu:Int),y9.1.2.1[0+Int.toNat (0:Int)]?=some Nu/\0=0/\(v5.2.1++List.take 1 (List.drop 0 [Qp])).length=(v5.2.1++List.take 1 (List.drop 0 [Qp])).length/\k6 (Nu,v5.2.1++List.take 1 (List.drop 0 [Qp]),())) (P ((List.take v5.2.1.length (List.drop 0 v5.2.1),true,()),()))) (i,[],PUnit.unit)))=fnMW Sp (look [(200,aa)]) jI Try.f168 (e,i,()) P:=by kernel_rfl
abbrev jT:Type:=Option ((Int×ByteArray×List (List Int)×PUnit)×List (List Int)×List Int×(ByteArray->Option Int)×List Int×List Int×List (List Int)×PUnit)×List Int×Option ((Int×ByteArray×List (List Int)×PUnit)×List (List Int)×List Int×(ByteArray->Option Int)×List Int×List Int×List (List Int)×PUnit)×PUnit
theorem Agn (h:Option HP) (i:Int) (P:((List Int×Bool×Unit)×Unit)->Prop):(∃(y3:jT),h=some y3/\ ∃(y4:jT),h=some y4/\ ∃(y5:(Int×ByteArray×List (List Int)×PUnit)×List (List Int)×List Int×(ByteArray->Option Int)×List Int×List Int×List (List Int)×PUnit),y4.1=some y5/\ ∃(y6:List Int),idx y5.2.1 i=some y6/\ ∃(y7:Int×Bool×PUnit),Yh.fn (y3.2.2.1,y6,())=some y7/\Br (!y7.2.1) (P ((List.take 0 (List.drop 0 []),false,()),())) (∃(y8:jT),h=some y8/\ ∃(y9:(List Int×Bool×PUnit)×PUnit),jI.fn (y8.2.2.1,y7.1,())=some y9/\Br (!y9.1.2.1) (P ((List.take 0 (List.drop 0 []),false,()),())) (0=0/\y9.1.1.length=y9.1.1.length/\0=0/\y9.1.1.length=y9.1.1.length/\Ev (λ(v10:Int×List Int×PUnit) (k11:Int×List Int×PUnit->Prop)=>Br (decide (v10.1<(↑y9.1.1.length:Int))) (((0:Int)<=v10.1/\v10.1<(↑v10.2.1.length:Int))/\ ∃(Vm:Int),v10.2.1[0+v10.1.toNat]?=some Vm/\Br (decide (Vm>(0:Int))) (∃(hJ:jT),h=some hJ/\ ∃(Ub:Int),idx hJ.2.1 (IntKind.i64.wrap (Vm-(1:Int)))=some Ub/\((0:Int)<=v10.1/\v10.1<(↑v10.2.1.length:Int))/\0+v10.1.toNat<v10.2.1.length/\0=0/\v10.2.1.length=(v10.2.1.set (0+v10.1.toNat) (IntKind.i64.wrap (Ub+(1:Int)))).length/\0=0/\v10.2.1.length=(v10.2.1.set (0+v10.1.toNat) (IntKind.i64.wrap (Ub+(1:Int)))).length/\k11 (IntKind.i64.wrap (v10.1+(1:Int)),v10.2.1.set (0+v10.1.toNat) (IntKind.i64.wrap (Ub+(1:Int))),())) (∃(hJ:jT),h=some hJ/\ ∃(Ub:Int),idx hJ.2.1 (IntKind.i64.wrap (IntKind.i64.wrap ((0:Int)-Vm)-(1:Int)))=some Ub/\((0:Int)<=v10.1/\v10.1<(↑v10.2.1.length:Int))/\0+v10.1.toNat<v10.2.1.length/\0=0/\v10.2.1.length=(v10.2.1.set (0+v10.1.toNat) (IntKind.i64.wrap ((0:Int)-IntKind.i64.wrap (Ub+(1:Int))))).length/\0=0/\v10.2.1.length=(v10.2.1.set (0+v10.1.toNat) (IntKind.i64.wrap ((0:Int)-IntKind.i64.wrap (Ub+(1:Int))))).length/\k11 (IntKind.i64.wrap (v10.1+(1:Int)),v10.2.1.set (0+v10.1.toNat) (IntKind.i64.wrap ((0:Int)-IntKind.i64.wrap (Ub+(1:Int)))),()))) (P ((List.take v10.2.1.length (List.drop 0 v10.2.1),true,()),()))) ((0:Int),y9.1.1,PUnit.unit))))=fnMW Sp (look [(135,Yh),(168,jI)]) fX Try.f114 (h,i,()) P:=by kernel_rfl
theorem WY (n:Int) (str:ByteArray) (g:List (List Int)) (t s:List Int) (P:((List Int×Bool×Unit)×Unit)->Prop):(∃(y6:Option (Option ((Int×ByteArray×List (List Int)×PUnit)×List (List Int)×List Int×(ByteArray->Option Int)×List Int×List Int×List (List Int)×PUnit)×List Int×Option ((Int×ByteArray×List (List Int)×PUnit)×List (List Int)×List Int×(ByteArray->Option Int)×List Int×List Int×List (List Int)×PUnit)×PUnit)×Int×Bool×PUnit),Hm.fn ((n,str,g,()),t,s,())=some y6/\Br (!y6.2.2.1) (P ((List.take 0 (List.drop 0 []),false,()),())) (∃(y7:(List Int×Bool×PUnit)×PUnit),fX.fn (y6.1,y6.2.1,())=some y7/\P ((List.take y7.1.1.length (List.drop 0 y7.1.1),y7.1.2.1,()),())))=fnMW Sp (look [(110,Hm),(114,fX)]) Yk Try.f46 (n,str,g,t,s,()) P:=by kernel_rfl
theorem Pv {p:PP} (hw:Ds p=true):Ju p.2.2.1 (Au p.2.2.1.length) (Ag p) (λx=>x=(Ag p).getD 0 []) (Li (Ag p) (Bh p)):=
 GJ (valid (Cw hw).1) (mU (Cw hw).1) (yw hw)
theorem dm {p:PP} {x:List Int} (hx:x∈Ag p):(Bh p).getD ((Ag p).idxOf x) 0=Li (Ag p) (Bh p) x:=by unfold Li;rw [Ab hx]
theorem mi {p:PP} (hw:Ds p=true):Ju p.2.2.1 (Au p.2.2.1.length) (Ag p) (λx=>x=(Ag p).getD 0 []) (λx=>(Bh p).getD ((Ag p).idxOf x) 0):=by
 have h:=Pv hw
 have hc:=Na hw
 exact ⟨λx hx=>by rw [dm hx];exact h.nn x hx,λx hx=>by rw [dm hx];exact h.zero x hx,λx hx l hl=>by rw [dm hx,dm (hc.next x hx l hl)];exact h.step x hx l hl,
  fun x hx h0=>by
   rw [dm hx] at h0⊢
   obtain ⟨l,hl,e⟩:=h.down x hx h0
   exact ⟨l,hl,by rw [dm (hc.next x hx l hl)];exact e⟩⟩
theorem bD {p:PP} (hw:Ds p=true):(Bh p).length=(Ag p).length:=(mU (Cw hw).1).len
theorem yZ {p:PP} (hw:Ds p=true):KD p (Bh p):=z0 hw (bD hw) (mi hw)
theorem Adg {α β:Type} (P:α×β->Bool) (xs:List α) (ys:List β) {j:Nat} (h1:j<xs.length) (h2:j<ys.length):((xs.zip ys).take (j+1)).filter P=if P (xs[j],ys[j])=true then ((xs.zip ys).take j).filter P++ [(xs[j],ys[j])] else ((xs.zip ys).take j).filter P:=by
 have hz:j<(xs.zip ys).length:=by rw [List.length_zip];omega
 rw [Hp,Ad hz,Ls,List.filter_append,List.getElem_zip]
 by_cases h:P (xs[j],ys[j])=true
 ·rw [Ab h,List.filter_cons_of_pos h];rfl
 ·rw [Ak h,List.filter_cons_of_neg h];simp
theorem Ab7 (e:Option XP) (i:Int) (h: ∃e':XP,e=some e'/\p8 e'/\0<=i/\i<(Ag e'.1).length):fnMW Sp (look [(121,Kl)]) aa Try.f200 (e,i,()) (λ(z:(List Int×List Int×Unit)×Unit)=>z=RW e i):=by
 obtain ⟨e',rfl,hx,h1,h2⟩:=h
 obtain ⟨i0,rfl⟩:=Bt h1
 have hi0:i0<(Ag e'.1).length:=by omega
 have hwv:=Cw hx.1
 have hV:=valid hwv.1
 have hf:=hV.oW
 have hdl:=bD hx.1
 have LP:=ZA hx
 obtain ⟨ls,xx⟩: ∃ls,Au e'.1.2.2.1.length=ls:=⟨_,rfl⟩
 have hlf:=jh hV
 obtain ⟨N,hN⟩: ∃N,Hu e'.1 i0=N:=⟨_,rfl⟩
 have hNl:N.length=ls.length:=by rw [<-hN,<-xx,mL]
 have hNr: ∀t∈N,0<=t/\t<(Bh e'.1).length:= λt ht=>by have:=fK hx.1 i0 hi0 t (by rw [hN];exact ht);omega
 show fnMW _ _ aa _ _ (λz=>z=(((bT (Au e'.1.2.2.1.length) (Hu e'.1 ((i0:Nat):Int).toNat) (Bh e'.1) (i0:Int)).1,(bT (Au e'.1.2.2.1.length) (Hu e'.1 ((i0:Nat):Int).toNat) (Bh e'.1) (i0:Int)).2,()),()))
 rw [Ac,xx,hN]
 rw [xx] at hlf
 refine Eq.mp (Ad2 _ _ _) ⟨e',rfl,ls,(Ab ⟨by show (0:Int)<=((e'.1.2.2.1.length:Nat):Int);omega,by show ((e'.1.2.2.1.length:Nat):Int)<=8;omega⟩).trans (Cx some (by show Au (((e'.1.2.2.1.length:Nat):Int)).toNat=_;rw [Ac];exact xx)),e',rfl,N,by rw [<-hN];exact QM hx hi0,rfl,rfl,rfl,rfl,?_⟩
 refine Cj N.length (λv=>v.1) (λj v=>v.2.1=(((ls.zip N).take j).filter (λq=>decide (Cr (Bh e'.1) q.2<Cr (Bh e'.1) (i0:Int)))).map Prod.fst/\v.2.2.1=(((ls.zip N).take j).filter (λq=>decide (Cr (Bh e'.1) q.2<Cr (Bh e'.1) (i0:Int)))).map Prod.snd/\v.2.1.length<=j/\v.2.2.1.length<=j) rfl ⟨rfl,rfl,Aq _,Aq _⟩ ?_
 rintro j ⟨jj,a,b,⟨⟩⟩ K hj nf ⟨r1,r2,r3,r4⟩ hK
 dsimp only at nf r1 r2 r3 r4⊢
 subst nf
 refine Br.dec (λhl=>?_) λhl=>?_
 ·have hl:j<N.length:=by omega
  have hjl:j<ls.length:=by omega
  have ht:=hNr _ (An hl)
  have hzt:=Adg (λq=>decide (Cr (Bh e'.1) q.2<Cr (Bh e'.1) (i0:Int))) ls N hjl hl
  refine ⟨_,Dk hl,e',rfl,_,by rw [LP];exact On ht.1 ht.2,e',rfl,_,by rw [LP];exact On (y:=(i0:Int)) (by omega) (by omega),Br.dec (λhb=>?_) λhb=>?_⟩
  ·rw [Ab (Cl hb)] at hzt
   refine ⟨_,Dk hjl,rfl,rfl,?_,rfl,rfl,?_,rfl,rfl,rfl,rfl,?_⟩
   ·show a.length+1<=4294967296;omega
   ·show b.length+1<=4294967296;omega
   ·rw [Cd (by omega)]
    refine hK hl _ rfl ⟨?_,?_,?_,?_⟩
    ·show a++ [ls[j]]=_
     rw [hzt,It,r1];rfl
    ·show b++ [N[j]]=_
     rw [hzt,It,r2];rfl
    ·show (a++ [ls[j]]).length<=j+1
     rw [Ay,Bu];omega
    ·show (b++ [N[j]]).length<=j+1
     rw [Ay,Bu];omega
  ·rw [Ak (by simpa using hb)] at hzt
   refine ⟨rfl,rfl,rfl,rfl,?_⟩
   rw [Cd (by omega)]
   refine hK hl _ rfl ⟨?_,?_,by show a.length<=j+1;omega,by show b.length<=j+1;omega⟩
   ·rw [hzt];exact r1
   ·rw [hzt];exact r2
 ·have:j=N.length:=by omega
  subst this
  rw [List.take_of_length_le (by rw [List.length_zip];omega)] at r1 r2
  rw [Dz,Dz,r1,r2]
  rfl
theorem BH:Ci Try.prog 200 aa:=
 Ci.ir Rt (Be Zm Cb) mixed Try.func200 (by kernel_rfl) (by kernel_rfl) λx h=>Ab7 x.1 x.2.1 h
theorem nM {α:Type} {P:α->Bool} : ∀(l:List α) (k:Nat) (h:k<l.length),P l[k]=true->(∀j (hj:j<k),P (l[j]'(by omega))=false)-> ∃r,l.filter P=l[k]::r
 | [],k,h,_,_=>by simp at h
 |y::r,0,_,h1,_=>⟨_,List.filter_cons_of_pos (show P y=true from h1)⟩
 |y::r,k+1,h,h1,h2=>by
  rw [List.filter_cons_of_neg (by have:=h2 0 (by omega);simp at this;simp [this])]
  exact nM r k (by simpa using h) h1 λj hj=>h2 (j+1) (by omega)
theorem Akt (e:Option XP) (i:Int) (h: ∃e':XP,e=some e'/\p8 e'/\0<=i/\i<(Ag e'.1).length):fnMW Sp (look [(200,aa)]) jI Try.f168 (e,i,()) (λ(z:(List Int×Bool×Unit)×Unit)=>z=Aap e i):=by
 obtain ⟨e',rfl,hx,h1,h2⟩:=h
 have hwv:=Cw hx.1
 have hV:=valid hwv.1
 have hdl:=bD hx.1
 have LP:=ZA hx
 have hd:=yZ hx.1
 show fnMW _ _ jI _ _ (λz=>z=(Xz e'.1 i,()))
 unfold Xz Kg
 refine Eq.mp (Alk _ _ _) ⟨e',rfl,Cr (Bh e'.1) i,by rw [LP];exact On h1 (by omega),Br.dec (λhb=>by rw [Ab hb];rfl) λhb=>⟨rfl,rfl,?_⟩⟩
 rw [Ak hb]
 have hnn: ∀k:Nat,k<(Bh e'.1).length->0<=Cr (Bh e'.1) (k:Int):= λk hk=>by unfold Cr;rw [Ac];exact hd.nn k hk
 obtain ⟨R,hRR⟩: ∃R,Uz (Hu e'.1) (Au e'.1.2.2.1.length) (Bh e'.1) (Cr (Bh e'.1) i).toNat i []=R:=⟨_,rfl⟩
 rw [hRR]
 obtain ⟨i0,rfl⟩:=Bt h1
 refine Ev.mk (λv=> ∃(k:Nat) (w:List Int) (f:Nat),v=((k:Int),w,())/\k<(Bh e'.1).length/\Cr (Bh e'.1) (k:Int)<=f/\w.length+f<=200/\Uz (Hu e'.1) (Au e'.1.2.2.1.length) (Bh e'.1) f (k:Int) w=R) (λv=>(Cr (Bh e'.1) v.1).toNat)
  ⟨i0,[],(Cr (Bh e'.1) (i0:Int)).toNat,rfl,by omega,by omega,by have:=hnn i0 (by omega);simp only [Di];omega,hRR⟩ ?_
 rintro v ⟨k,w,f,rfl,k1,k2,k3,k4⟩
 dsimp only
 refine ⟨e',rfl,Cr (Bh e'.1) (k:Int),by rw [LP];exact On (by omega) (by omega),Br.dec (λhl=>?_) λhl=>?_⟩
 ·have Jg:0<(Bh e'.1).getD k 0:=by unfold Cr at hl;rwa [Ac] at hl
  obtain ⟨f,rfl⟩: ∃f',f=f'+1:=⟨f-1,by omega⟩
  obtain ⟨t0,ht0,htl⟩:=hd.dn k (by omega) Jg
  have gI:Cr (Bh e'.1) (k:Int)=(Bh e'.1).getD k 0:=by unfold Cr;rw [Ac]
  have j6:(Hu e'.1 k).any (λy=>decide (Cr (Bh e'.1) y<Cr (Bh e'.1) (k:Int)))=true:=Ep.2 ⟨t0,ht0,Cl (by rw [gI];exact htl)⟩
  obtain ⟨n,n2,n3,q1,q2⟩:=kx (Hu e'.1 k) 0 j6
  have n3:Gk (λy=>decide (Cr (Bh e'.1) y<Cr (Bh e'.1) (k:Int))) (Hu e'.1 k) 0=(n:Int):=by rw [Bn] at n3;exact n3
  have n1:n<(Au e'.1.2.2.1.length).length:=by rw [<-mL e'.1 k];exact n2
  obtain ⟨r1,r2⟩:=fK hx.1 k (by omega) _ (An n2)
  obtain ⟨t,n4⟩:=Bt r1
  have n6:Cr (Bh e'.1) (t:Int)<Cr (Bh e'.1) (k:Int):=by have:=Gw q1;rwa [n4] at this
  simp only [Uz] at k4
  rw [Ab hl,Ac,n3,Ac,En n2,n4,En n1] at k4
  have hz:n<((Au e'.1.2.2.1.length).zip (Hu e'.1 k)).length:=by rw [List.length_zip];omega
  obtain ⟨rest,bN⟩:=nM (P:= λq:Int×Int=>decide (Cr (Bh e'.1) q.2<Cr (Bh e'.1) (k:Int))) ((Au e'.1.2.2.1.length).zip (Hu e'.1 k)) n hz (by rw [List.getElem_zip];exact q1) λj hj=>by rw [List.getElem_zip];exact q2 j hj
  rw [List.getElem_zip,n4] at bN
  have Qf:aa.fn (some e',(k:Int),())=some (((Au e'.1.2.2.1.length)[n]::rest.map Prod.fst,(t:Int)::rest.map Prod.snd,()),()):=by
   refine (Ab ⟨e',rfl,hx,by show (0:Int)<=(k:Int);omega,by show (k:Int)<((Ag e'.1).length:Int);omega⟩).trans (Cx some ?_)
   show (((bT (Au e'.1.2.2.1.length) (Hu e'.1 ((k:Nat):Int).toNat) (Bh e'.1) (k:Int)).1,(bT (Au e'.1.2.2.1.length) (Hu e'.1 ((k:Nat):Int).toNat) (Bh e'.1) (k:Int)).2,()),())=_
   rw [Ac]
   unfold bT
   rw [bN]
   rfl
  have h0:=hnn t (by omega)
  refine ⟨_,Qf,⟨by omega,by simp only [Av];omega⟩,(Au e'.1.2.2.1.length)[n],rfl,rfl,rfl,?_,⟨by omega,by simp only [Av];omega⟩,(t:Int),rfl,rfl,rfl,⟨t,w++ [(Au e'.1.2.2.1.length)[n]],f,rfl,by omega,by omega,by rw [Ay,Bu];omega,k4⟩,?_⟩
  ·show w.length+1<=4294967296;omega
  ·show (Cr (Bh e'.1) (t:Int)).toNat<(Cr (Bh e'.1) (k:Int)).toNat
   omega
 ·rw [Dz]
  have:Uz (Hu e'.1) (Au e'.1.2.2.1.length) (Bh e'.1) f (k:Int) w=(w,(k:Int)):=by
   cases f with
   |zero=>rfl
   |succ f=>simp only [Uz];rw [Ak (by omega)]
  rw [this] at k4
  subst k4
  rfl
theorem ON:Ci Try.prog 168 jI:=
 Ci.ir Rt (Ez BH Cb) mixed Try.func168 (by kernel_rfl) (by kernel_rfl) λx h=>Akt x.1 x.2.1 h
theorem Ab1 {p:PP} {i:Int} (hw:Ds p=true) (h1:0<=i) (h2:i<(Ag p).length):(Xz p i).1.length<=200:=by
 unfold Xz Kg
 split
 ·simp
 ·rename_i hb
  obtain ⟨i0,rfl⟩:=Bt h1
  have hd:=yZ hw
  have hg:Cr (Bh p) (i0:Int)=(Bh p).getD i0 0:=by unfold Cr;rw [Ac]
  have hnn:=hd.nn i0 (by rw [bD hw];omega)
  obtain ⟨_,r2,_⟩:=z7 hw hd (mi hw) (see:= λx=>x) (dep:=Li (Ag p) (Bh p)) (λ_ _ _ _=>rfl) (λx hx=>dm hx) (Cr (Bh p) (i0:Int)).toNat i0 [] (by omega) (by rw [<-hg];omega)
  rw [r2]
  simp only [Di]
  omega
theorem l6 {p:PP} (hw:Ds p=true) {d:List Int} (hd:KD p d): ∀(f:Nat) (i:Nat) (w:List Int),i<d.length->(∀l∈w,l∈Au p.2.2.1.length)-> ∀l∈(Uz (Hu p) (Au p.2.2.1.length) d f (i:Int) w).1,l∈Au p.2.2.1.length
 |0,i,w,_,h=>h
 |f+1,i,w,hi,h=>by
  simp only [Uz]
  split
  ·rename_i hl
   have Jg:0<d.getD i 0:=by unfold Cr at hl;rwa [Ac] at hl
   obtain ⟨n,n1,n2,n3,t,n4,n5,n6⟩:=QJ hw hd hi Jg
   rw [Ac,n3,Ac,En n2,n4,En n1]
   refine l6 hw hd f t _ n5 λl hl2=>?_
   rcases Az.1 hl2 with h2|h2
   ·exact h l h2
   ·rw [Ae.1 h2];exact An n1
  ·exact h
theorem zT {p:PP} {i:Int} (hw:Ds p=true) (h1:0<=i) (h2:i<(Ag p).length): ∀l∈(Xz p i).1,Ic (List.length p.2.2.1) l:=by
 unfold Xz Kg
 split
 ·intro l hl;cases hl
 ·obtain ⟨i0,rfl⟩:=Bt h1
  intro l hl
  exact Nj (l6 hw (yZ hw) _ i0 [] (by rw [bD hw];omega) (λl hl=>by cases hl) l hl)
theorem Ag5 {p:PP} {t:List Int} (hs:Dp p t=true) {l:Int} (hl:Ic (List.length (Cf p t).2.2.1) l):
  (l>0->0<=l-1/\l-1<t.length/\0<=Cr t (l-1)/\Cr t (l-1)<8)/\(¬l>0->0<= -l-1/\ -l-1<t.length/\0<=Cr t (-l-1)/\Cr t (-l-1)<8):=by
 have Jl:=jR hs
 have hlen:List.length (Cf p t).2.2.1=t.length:=Bs _
 rw [hlen] at hl
 have h8:=Jl.g8
 have key: ∀k:Int,0<=k->k<t.length->0<=Cr t k/\Cr t k<8:= λk k1 k2=>by
  obtain ⟨kn,rfl⟩:=Bt k1
  have hk:kn<t.length:=by omega
  obtain ⟨j,e,hj⟩:=Jl.Ss hk
  have:Cr t (kn:Int)=(j:Int):=by unfold Cr;rw [Ac,En hk,e]
  rw [this];omega
 obtain ⟨l1,l2,l3⟩:=hl
 exact ⟨λh=>⟨by omega,by omega,key _ (by omega) (by omega)⟩,λh=>⟨by omega,by omega,key _ (by omega) (by omega)⟩⟩
theorem CI {f:Int->Int} {w ys:List Int} {j:Nat} (hj:j<w.length) (hl:ys.length=w.length) (h1:ys.take j=(w.take j).map f) (h2:ys.drop j=w.drop j):
  (ys.set j (f w[j])).take (j+1)=(w.take (j+1)).map f/\(ys.set j (f w[j])).drop (j+1)=w.drop (j+1)/\ys.getD j 0=w[j]:=by
 have hjy:j<ys.length:=by omega
 refine ⟨?_,?_,?_⟩
 ·rw [Hp,List.take_set_of_le (by omega),h1,List.getElem?_set_self hjy,Hp,Ad hj,It]
  rfl
 ·rw [List.drop_set_of_lt (by omega)]
  have:=Cx (List.drop 1) h2
  rwa [List.drop_drop,List.drop_drop] at this
 ·have:=Cx (λz=>z[0]?) h2
  simp only [Db,Dv] at this
  rw [Ad hjy,Ad hj] at this
  rw [En hjy]
  exact Bd this
theorem Aft (h:Option HP) (i:Int) (hh: ∃p t,Jn p t=true/\h=some (Fq p t)/\0<=i/\i<(Ag p).length):fnMW Sp (look [(135,Yh),(168,jI)]) fX Try.f114 (h,i,()) (λ(z:(List Int×Bool×Unit)×Unit)=>z=GQ h i):=by
 obtain ⟨p,t,hw,rfl,h1,h2⟩:=hh
 obtain ⟨k,rfl⟩:=Bt h1
 have hk:k<(Ag p).length:=by omega
 obtain ⟨tK,hm⟩:=Qa.1 hw
 have Rj:=(cF tK).1
 have FT:=Yv tK hm
 obtain ⟨s,hs⟩: ∃s,(Ag p)[k]=s:=⟨_,rfl⟩
 have hfd:Yh.fn (some (Il (Cf p t)),s,())=some (Ni (Cf p t) s):=Ab ⟨⟨Il (Cf p t),rfl,FT,rfl⟩,by rw [<-hs];exact jr (cc (Cw tK).1 (An hk))⟩
 show fnMW _ _ fX _ _ (λz=>z=(Zj p t ((Ag p).getD ((k:Nat):Int).toNat []),()))
 rw [Ac,En hk,hs]
 unfold Zj
 refine Eq.mp (Agn _ _ _) ⟨Fq p t,rfl,Fq p t,rfl,Il p,rfl,s,by rw [Rj,<-hs];exact Dk hk,_,hfd,?_⟩
 rw [RR]
 refine Br.of (λhb=>?_) λhb=>?_
 ·have hn:s∉Ag (Cf p t):=by simpa using hb
  rw [Ak hn];rfl
 have Rw:s∈Ag (Cf p t):=by simpa using hb
 rw [Ab Rw]
 obtain ⟨i1,i2,_⟩:=RQ Rw
 have qO:jI.fn (some (Il (Cf p t)),(Ni (Cf p t) s).1,())=some (Xz (Cf p t) (Ni (Cf p t) s).1,()):=Ab ⟨Il (Cf p t),rfl,⟨FT,rfl⟩,i1,i2⟩
 have eW:=Ab1 FT i1 i2
 have Jc:=zT FT i1 i2
 have Azp:=(jR hm).oW
 have Azq:=(jR hm).g8
 refine ⟨Fq p t,rfl,_,qO,?_⟩
 generalize hO:Xz (Cf p t) (Ni (Cf p t) s).1=O at*
 obtain ⟨w,ok,⟨⟩⟩:=O
 dsimp only at eW Jc⊢
 cases ok with
 |false=>
  refine ⟨λ_=>?_,λhb=>by simp at hb⟩
  have:w= []:=by
   unfold Xz Kg at hO
   split at hO
   ·simp only [Ah] at hO;exact hO.1.symm
   ·simp only [Ah] at hO;exact absurd hO.2.1 (by simp)
  subst this
  rfl
 |true=>
  refine ⟨λhb=>by simp at hb,λ_=>⟨rfl,rfl,rfl,rfl,?_⟩⟩
  refine Cj w.length (λv=>v.1) (λj v=>v.2.1.length=w.length/\v.2.1.take j=(w.take j).map (mG t)/\v.2.1.drop j=w.drop j) rfl ⟨rfl,rfl,rfl⟩ ?_
  rintro j ⟨jj,ys,⟨⟩⟩ K hj nf ⟨g1,g2,g3⟩ hK
  dsimp only at nf g1 g2 g3⊢
  subst nf
  refine Br.dec (λhl=>?_) λhl=>?_
  ·have hl:j<w.length:=by omega
   obtain ⟨e1,e2,e3⟩:=CI (f:=mG t) hl g1 g2 g3
   obtain ⟨b1,b2⟩:=Ag5 hm (Jc _ (An hl))
   refine ⟨⟨by omega,by omega⟩,w[j],by rw [Aix (by omega),e3],Br.dec (λhp=>?_) λhp=>?_⟩
   ·obtain ⟨c1,c2,c3,c4⟩:=b1 hp
    have hsl:mG t w[j]=Cr t (w[j]-1)+1:=Ab hp
    refine ⟨Fq p t,rfl,Cr t (w[j]-1),by rw [Dq (n:=w[j]-1) (by omega) (by omega)];exact On c1 c2,⟨by omega,by omega⟩,by rw [Ac];omega,rfl,by rw [Bv],rfl,by rw [Bv],?_⟩
    rw [Cd (by omega),Ac,Bn,Dq (n:=Cr t (w[j]-1)+1) (by omega) (by omega),<-hsl]
    exact hK hl _ rfl ⟨by rw [Bv];exact g1,e1,e2⟩
   ·obtain ⟨c1,c2,c3,c4⟩:=b2 hp
    have hsl:mG t w[j]= -(Cr t (-w[j]-1)+1):=Ak hp
    have e5:IntKind.i64.wrap (IntKind.i64.wrap (0-w[j])-1)= -w[j]-1:=by rw [Dq (n:=0-w[j]) (by omega) (by omega),Dq (by omega) (by omega)];omega
    have e6:IntKind.i64.wrap (0-IntKind.i64.wrap (Cr t (-w[j]-1)+1))=mG t w[j]:=by rw [Dq (n:=Cr t (-w[j]-1)+1) (by omega) (by omega),Dq (by omega) (by omega),hsl];omega
    refine ⟨Fq p t,rfl,Cr t (-w[j]-1),by rw [e5];exact On c1 c2,⟨by omega,by omega⟩,by rw [Ac];omega,rfl,by rw [Bv],rfl,by rw [Bv],?_⟩
    rw [Cd (by omega),Ac,Bn,e6]
    exact hK hl _ rfl ⟨by rw [Bv];exact g1,e1,e2⟩
  ·have:j=w.length:=by omega
   subst this
   rw [Dz]
   rw [<-g1,Bg,g1,Bg] at g2
   rw [g2]
theorem IQ:Ci Try.prog 114 fX:=
 Ci.ir Rt (Be mS (Ez ON Cb)) mixed Try.func114 (by kernel_rfl) (by kernel_rfl) λx h=>Aft x.1 x.2.1 h
theorem VC (n:Int) (str:ByteArray) (g:List (List Int)) (t s:List Int) (h:Gt (n,str,g,())/\short t/\short s):
  fnMW Sp (look [(110,Hm),(114,fX)]) Yk Try.f46 (n,str,g,t,s,()) (λ(z:(List Int×Bool×Unit)×Unit)=>z=(((Pn (n,str,g,()) t s).1,(Pn (n,str,g,()) t s).2.1,()),())):=by
 obtain ⟨p,XS⟩: ∃p:PP,p=(n,str,g,()):=⟨_,rfl⟩
 refine Eq.mp (WY n str g t s _) ?_
 rw [<-XS] at h⊢
 unfold Pn
 by_cases hw:Jn p t=true
 ·have he:Hm.fn (p,t,s,())=some (some (Fq p t),(Ni p s).1,(Ni p s).2.1,()):=(Ab h).trans (Cx some (Ab hw))
  rw [hw,bt]
  refine ⟨_,he,?_⟩
  dsimp only
  rw [RR]
  refine Br.of (λhb=>?_) λhb=>?_
  ·rw [Ak (Iy hb)];rfl
  have Rw:s∈Ag p:=by simpa using hb
  obtain ⟨i1,i2,i3⟩:=RQ Rw
  rw [Ab (Cl Rw)]
  refine ⟨_,Ab ⟨p,t,hw,rfl,i1,i2⟩,?_⟩
  show ((List.take (Zj p t ((Ag p).getD (Ni p s).1.toNat [])).1.length (List.drop 0 (Zj p t ((Ag p).getD (Ni p s).1.toNat [])).1),(Zj p t ((Ag p).getD (Ni p s).1.toNat [])).2.1,()),())=_
  rw [i3,Dz]
 ·have he:Hm.fn (p,t,s,())=some (none,0,false,()):=(Ab h).trans (Cx some (Ak hw))
  rw [Fa _|>.mp hw,Tk,Ak (by decide)]
  exact ⟨_,he,λ_=>rfl,λhb=>by simp at hb⟩
theorem wK:Ci Try.prog 46 Yk:=
 Ci.ir Rt (Be c9 (Ez IQ Cb)) mixed Try.func46 (by kernel_rfl) (by kernel_rfl) λx h=>VC x.1 x.2.1 x.2.2.1 x.2.2.2.1 x.2.2.2.2.1 h
theorem TJ {p:PP} (hw:Ds p=true) {x:List Int} (hx:x∈Ag p):0<=Li (Ag p) (Bh p) x/\Li (Ag p) (Bh p) x<=3000:=by
 have nh:=mU (Cw hw).1
 have Aep:=nh.ok.oW
 refine ⟨(Pv hw).nn x hx,?_⟩
 obtain ⟨i,hi,rfl⟩:=Bj.1 hx
 have hiD:i<(Bh p).length:=by rw [nh.len];exact hi
 have h1:=nh.dep i hiD
 have h2:Li (Ag p) (Bh p) ((Ag p)[i])=(Bh p).getD i 0:=by
  rw [<-En (d:= []) hi];exact mh nh.ok.nodup hi
 rw [h2,En hiD]
 omega
theorem ga {g:List (List Int)} {dep:List Int->Int} {ls:List Int} : ∀(n:Nat) (x w:List Int),(∀l∈w,l∈ls)-> ∀l∈(ik g dep ls n x w).1,l∈ls
 |0,x,w,h=>h
 |n+1,x,w,h=>by
  simp only [ik]
  split
  ·rename_i l hf
   refine ga n _ _ λl' hl=>?_
   rcases Az.1 hl with h2|h2
   ·exact h l' h2
   ·rw [Ae.1 h2];exact List.mem_of_find?_eq_some hf
  ·exact ga n x w h
theorem Alb {p:PP} {t s:List Int} (tK:Ds p=true) (hm:Dp p t=true) (Rw:s∈Ag (Cf p t)):Zj p t s=oc (tZ p t s):=by
 have FT:=Yv tK hm
 have hi:=Mc Rw
 have hb:=TJ FT Rw
 have hix:(Ni (Cf p t) s).1=(((Ag (Cf p t)).idxOf s:Nat):Int):=by unfold Ni;rw [Ab Rw]
 have hg:Cr (Bh (Cf p t)) (Ni (Cf p t) s).1=Li (Ag (Cf p t)) (Bh (Cf p t)) s:=by
  rw [hix];unfold Cr;rw [Ac];exact dm Rw
 have hsi:(Ag (Cf p t)).getD ((Ag (Cf p t)).idxOf s) []=s:=by rw [En hi];exact List.getElem_idxOf hi
 obtain ⟨r1,r2,_⟩:=z7 FT (yZ FT) (mi FT) (see:= λx=>x) (dep:=Li (Ag (Cf p t)) (Bh (Cf p t))) (λ_ _ _ _=>rfl) (λx hx=>dm hx)
  (Li (Ag (Cf p t)) (Bh (Cf p t)) s).toNat ((Ag (Cf p t)).idxOf s) [] hi (by rw [dm Rw];omega)
 rw [hsi] at r1
 have r1:_=mE (Cf p t) s:=r1
 rw [r1] at r2
 simp only [Di,Bn] at r2
 unfold Zj Xz Kg oc tZ
 rw [Ab Rw,hg,Bs]
 by_cases h:Li (Ag (Cf p t)) (Bh (Cf p t)) s>200
 ·rw [Ab h,Ab (by omega)];rfl
 ·rw [Ak h,Ak (by omega)]
  dsimp only
  rw [hix,r1]
def known (row:Row):List (List Int):=row.filterMap id
mutual
def kP (n:Nat):Nat->Nat->List Int->Ch×Ch->Ch×Ch
 |0,_,_,s=>s
 |f+1,k,p,s=>if Hc s.2 (n-k) k p=true then s else
   ((known (s.2.getD k [])).map λu=>Af u p).foldl (λs q=>gB n f k q s) (s.1.set k (s.1.getD k []++ [some p]),s.2)
def gB (n:Nat):Nat->Nat->List Int->Ch×Ch->Ch×Ch
 |0,_,_,s=>s
 |f+1,k,p,s=>match (s.2.getD k []).getD (ap p k) none with
  |some t=>kP n f (k+1) (Af p (Bb t)) s
  |none=>((s.1.getD k []).map λo=>Af p (o.getD [])).foldl (λs q=>gB n f k q s) (s.1,s.2.set k ((s.2.getD k []).set (ap p k) (some p)))
end
structure Part (n k:Nat) (s:Ch×Ch):Prop where
 l1:s.1.length=n
 l2:s.2.length=n
 pg:PG n k (s.1.getD k [])
 row:Uy n k (s.1.getD k []) (s.2.getD k [])
 comp:dT n (n-(k+1)) (k+1) s
 gb:GBf (n-(k+1)) (k+1) s
 sub: ∀g,some g∈s.1.getD (k+1) []->Gn n (s.1.getD k []) g
def Hd (n k:Nat) (s:Ch×Ch) (q:List Int):Prop:= ∃t,(s.2.getD k []).getD (ap q k) none=some t/\Hc s.2 (n-(k+1)) (k+1) (Af q (Bb t))=true
structure cz (n k:Nat) (s s':Ch×Ch):Prop where
 grow:Vx k s s'
 same:s'.1.getD k []=s.1.getD k []
 part:Part n k s'
 Fm: ∀q,Pm n q->Fx k q->Hd n k s q->Hd n k s' q
 new: ∀y t,(s'.2.getD k []).getD y none=some t->(s.2.getD k []).getD y none=some t\/ ∀g,some g∈s.1.getD k []->Hd n k s' (Af t g)
theorem cz.refl {n k:Nat} {s:Ch×Ch} (h:Part n k s):cz n k s s:=⟨Vx.refl _ _,rfl,h,λ_ _ _ h=>h,λ_ _ h=> .inl h⟩
theorem Part.tg {n k:Nat} {s:Ch×Ch} (h:Part n k s) (hk:k<n) {y:Nat} {t g:List Int} (ht:(s.2.getD k []).getD y none=some t) (hg:some g∈s.1.getD k []):Pm n (Af t g)/\Fx k (Af t g)/\ap (Af t g) k=ap g y:=by
 obtain ⟨t1,t2,t3,t4⟩:=h.row.rt _ _ ht
 obtain ⟨g',e,g1,g2⟩:=h.pg _ hg
 cases e
 exact ⟨t1.comp g1,Fx.comp t1 g1 t2 g2 (by omega),by rw [Jh t1 g1 hk,t3]⟩
theorem cz.trans {n k:Nat} {a b c:Ch×Ch} (hk:k<n) (h:cz n k a b) (h':cz n k b c):cz n k a c:=by
 refine ⟨h.grow.trans h'.grow (Aq _),h'.same.trans h.same,h'.part,λq h1 h2 h3=>h'.Fm q h1 h2 (h.Fm q h1 h2 h3),λy t e=>?_⟩
 rcases h'.new y t e with e1|e1
 ·rcases h.new y t e1 with e2|e2
  ·exact .inl e2
  ·refine .inr λg hg=>?_
   obtain ⟨p1,p2,_⟩:=h.part.tg hk e1 (by rw [h.same];exact hg)
   exact h'.Fm _ p1 p2 (e2 g hg)
 ·exact .inr λg hg=>e1 g (by rw [h.same];exact hg)
theorem Part.pms {n k:Nat} {s:Ch×Ch} (h1:1<=n) (h2:n<=20) (h:Part n k s):DA n λg=>some g∈s.1.getD k []:=⟨⟨h1,h2⟩,λg hg=>by obtain ⟨g',e,h,_⟩:=h.pg _ hg;cases e;exact h⟩
theorem Part.v {n k:Nat} {s:Ch×Ch} (h:Part n k s):V n (n-(k+1)) (k+1) s:=⟨h.l1,h.l2,h.comp,h.gb⟩
theorem xe (row:Row):vT row+Lu row=row.length:=by
 induction row with
 |nil=>rfl
 |cons o r ih=>
  unfold vT Lu at*
  cases o<;>simp [List.countP_cons]<;>omega
theorem MS {a b:Row} (hl:b.length=a.length) (h: ∀y t,a.getD y none=some t->b.getD y none=some t):Lu b<=Lu a:=by
 have h1:=(pf a b hl.symm h).1
 have h2:=xe a
 have h3:=xe b
 omega
def SA (n k:Nat):Nat:=(n-k)*(n+2)+(n+1)
def ni (n k:Nat) (s:Ch×Ch):Nat:=(n-k)*(n+2)+Lu (s.2.getD k [])
theorem cz.mu {n k:Nat} {s s':Ch×Ch} (h:cz n k s s'):ni n k s'<=ni n k s:=by
 have:=MS (h.grow.Abu k) (h.grow.vC k)
 unfold ni;omega
theorem kl {n k f:Nat} (hk:k<n) {gs:List PO}
  (IH: ∀q s,Part n k s->s.1.getD k []=gs->Pm n q->Fx k q->Gn n gs q->ni n k s<=f->(cz n k s (gB n f k q s)/\Hd n k (gB n f k q s) q)/\ ∀f',f<=f'->gB n f' k q s=gB n f k q s):
  ∀(qs:List (List Int)) (s:Ch×Ch),Part n k s->s.1.getD k []=gs->(∀q∈qs,Pm n q/\Fx k q/\Gn n gs q)->ni n k s<=f->
   cz n k s (qs.foldl (λs q=>gB n f k q s) s)/\(∀q∈qs,Hd n k (qs.foldl (λs q=>gB n f k q s) s) q)/\ ∀f',f<=f'->qs.foldl (λs q=>gB n f' k q s) s=qs.foldl (λs q=>gB n f k q s) s
 | [],s,hp,_,_,_=>⟨cz.refl hp,λq hq=>(by cases hq),λ_ _=>rfl⟩
 |q::qs,s,hp,hg,hq,hm=>by
  obtain ⟨q1,q2,q3⟩:=hq q (by simp)
  obtain ⟨⟨a1,a2⟩,a3⟩:=IH q s hp hg q1 q2 q3 hm
  obtain ⟨b1,b2,b3⟩:=kl hk IH qs (gB n f k q s) a1.part (a1.same.trans hg) (λq' h=>hq q' (Ar _ h)) (Hq a1.mu hm)
  simp only [Nm]
  refine ⟨a1.trans hk b1,λq' gJ=>?_,λf' hf=>?_⟩
  ·rcases Bc.1 gJ with rfl|gJ
   ·exact b1.Fm _ q1 q2 a2
   ·exact b2 q' gJ
  ·rw [a3 f' hf];exact b3 f' hf
theorem FG {n k:Nat} (h1:1<=n) (h2:n<=20) (hk:k<n) {s s':Ch×Ch} (hs:dT n (n-(k+1)) (k+1) s) (xy:dT n (n-(k+1)) (k+1) s') (hg:Vx k s s') {x:List Int} (hx:Pm n x) (hf:Fx (k+1) x)
  (h:Hc s.2 (n-(k+1)) (k+1) x=true):Hc s'.2 (n-(k+1)) (k+1) x=true:=
 (Ue h1 h2 _ (k+1) s' (by omega) xy x hx hf).2 (((Ue h1 h2 _ (k+1) s (by omega) hs x hx hf).1 h).mono λg DB=>hg.xm _ _ DB)
theorem kB {row:Row} {u:List Int} :u∈known row↔ ∃y,row.getD y none=some u:=by
 unfold known
 rw [List.mem_filterMap]
 constructor
 ·rintro ⟨o,ho,e⟩
  obtain ⟨y,hy,rfl⟩:=Bj.1 ho
  exact ⟨y,by rw [Al,Ad hy];exact e⟩
 ·rintro ⟨y,hy⟩
  have hl:=nS hy
  rw [Al,Ad hl] at hy
  exact ⟨row[y],An hl,hy⟩
theorem QB {n:Nat} (h1:1<=n) (h2:n<=20): ∀f:Nat,
  (∀k p s,k<=n->V n (n-k) k s->Pm n p->Fx k p->SA n k<=f->XV n (n-k) k s p (kP n f k p s)/\ ∀f',f<=f'->kP n f' k p s=kP n f k p s)/\
  (∀k q s,k<n->Part n k s->Pm n q->Fx k q->Gn n (s.1.getD k []) q->ni n k s<=f->(cz n k s (gB n f k q s)/\Hd n k (gB n f k q s) q)/\ ∀f',f<=f'->gB n f' k q s=gB n f k q s)
 |0=>⟨λk p s _ _ _ _ h=>by unfold SA at h;omega,λk q s hk _ _ _ _ h=>by
   unfold ni at h
   have:1*(n+2)<=(n-k)*(n+2):=Et _ (by omega)
   omega⟩
 |f+1=>by
  obtain ⟨ihG,ihP⟩:=QB h1 h2 f
  refine ⟨λk p s hk hv hp hf hmu=>?_,λk q s hk cv hq hf JZ hmu=>?_⟩
  ·
   have FR: ∀f',f+1<=f'-> ∃JV,f'=JV+1/\f<=JV:= λf' h=>⟨f'-1,by omega,by omega⟩
   by_cases hh:Hc s.2 (n-k) k p=true
   ·have e: ∀f',kP n (f'+1) k p s=s:= λf'=>by simp only [kP];rw [Ab hh]
    rw [e f]
    refine ⟨⟨hv,Vx.refl _ _,(Ue h1 h2 _ k s (by omega) hv.2.2.1 p hp hf).1 hh,λo ho=> .inl ho⟩,λf' JY=>?_⟩
    obtain ⟨JV,rfl,_⟩:=FR f' JY
    exact e JV
   have j8:k<n:=by
    refine Nat.lt_of_le_of_ne hk λe=>hh ?_
    subst e
    rw [eV];rfl
   obtain ⟨v1,v2,hc,xt⟩:=hv
   have kq:=hc
   have Ayq:=xt
   obtain ⟨m,hm⟩: ∃m,n-k=m+1:=⟨n-k-1,by omega⟩
   have FL:n-(k+1)=m:=by omega
   rw [hm] at hc xt
   obtain ⟨c1,c2,c3⟩:=hc
   generalize lp:s.1.getD k []++ [some p]=gs
   have Zu:some p∈gs:=by rw [<-lp];simp
   have Jl: ∀o∈s.1.getD k [],o∈gs:= λo ho=>by rw [<-lp];exact Bi _ ho
   have hg:PG n k gs:= λo ho=>by
    rw [<-lp] at ho
    rcases Az.1 ho with ho|ho
    ·exact c2.pg o ho
    ·rw [Ae] at ho;exact ⟨p,ho,hp,hf⟩
   have hS:DA n λg=>some g∈gs:=⟨⟨h1,h2⟩,λg Rv=>by obtain ⟨g',e,h,_⟩:=hg _ Rv;cases e;exact h⟩
   have uH: ∀i,(s.1.set k gs).getD i []=if i=k then gs else s.1.getD i []:= λi=>by
    rw [Ke]
    by_cases e:k=i
    ·subst e;rw [Ab ⟨rfl,by omega⟩,Ab rfl]
    ·rw [Ak (λhh=>e hh.1),Ak (Gb e)]
   have xz: ∀i,k+1<=i->(s.1.set k gs).getD i []=s.1.getD i []/\s.2.getD i []=s.2.getD i []:= λi hi=>⟨by rw [uH i,Ak (by omega)],rfl⟩
   have FN:Part n k (s.1.set k gs,s.2):=by
    refine ⟨by simpa using v1,v2,?_,?_,?_,?_,λg Rv=>?_⟩
    ·show PG n k ((s.1.set k gs).getD k []);rw [uH k,Ab rfl];exact hg
    ·show Uy n k ((s.1.set k gs).getD k []) _
     rw [uH k,Ab rfl]
     exact ⟨c2.rl,c2.r0,λy t e=>⟨(c2.rt y t e).1,(c2.rt y t e).2.1,(c2.rt y t e).2.2.1,(c2.rt y t e).2.2.2.mono λg hg=>Jl _ hg⟩⟩
    ·rw [FL];exact Uq m (k+1) xz c1
    ·rw [FL];exact bJ m (k+1) xz xt.1
    ·have Rv:some g∈(s.1.set k gs).getD (k+1) []:=Rv
     rw [(xz (k+1) (Aq _)).1] at Rv
     show Gn n ((s.1.set k gs).getD k []) g
     rw [uH k,Ab rfl]
     exact (c3 g Rv).mono λg hg=>Jl _ hg
   have gI:((s.1.set k gs,s.2):Ch×Ch).1.getD k []=gs:=by show (s.1.set k gs).getD k []=gs;rw [uH k,Ab rfl]
   have mw:Vx k s (s.1.set k gs,s.2):=by
    refine ⟨by simp,rfl,λi hi=>⟨?_,rfl⟩,λi o ho=>?_,λi y t e=>e,λi=>rfl⟩
    ·show (s.1.set k gs).getD i []=_;rw [uH i,Ak (by omega)]
    ·show o∈(s.1.set k gs).getD i []
     rw [uH i]
     split
     ·rename_i hi;subst hi;exact Jl o ho
     ·exact ho
   have hmP:ni n k (s.1.set k gs,s.2)<=f:=by
    have hn:=jn (s.2.getD k [])
    have hr:=c2.rl
    unfold ni
    unfold SA at hmu
    show (n-k)*(n+2)+Lu (s.2.getD k [])<=f
    omega
   have TZ: ∀q∈(known (s.2.getD k [])).map (λu=>Af u p),Pm n q/\Fx k q/\Gn n gs q:= λq hq=>by
    obtain ⟨u,hu,rfl⟩:=Ba.1 hq
    obtain ⟨y,hy⟩:=kB.1 hu
    obtain ⟨t1,t2,t3,t4⟩:=c2.rt _ _ hy
    exact ⟨t1.comp hp,Fx.comp t1 hp t2 hf hk, .mul (t4.mono λg hg=>Jl _ hg) Zu⟩
   obtain ⟨r1,r2,r3⟩:=kl j8 (gs:=gs) (λq s nW Rv a b c d=>ihP k q s j8 nW a b (by rw [Rv];exact c) d) ((known (s.2.getD k [])).map λu=>Af u p) (s.1.set k gs,s.2) FN gI TZ hmP
   have e: ∀f',kP n (f'+1) k p s=((known (s.2.getD k [])).map λu=>Af u p).foldl (λs q=>gB n f' k q s) (s.1.set k gs,s.2):= λf'=>by simp only [kP];rw [Ak hh,lp]
   refine ⟨?_,λf' JY=>by obtain ⟨JV,rfl,ZO⟩:=FR f' JY;rw [e JV,e f];exact r3 JV ZO⟩
   rw [e f]
   generalize ((known (s.2.getD k [])).map λu=>Af u p).foldl (λs q=>gB n f k q s) (s.1.set k gs,s.2)=s' at r1 r2
   have nW:=r1.part
   have LR:s'.1.getD k []=gs:=r1.same.trans gI
   have hHd: ∀y t g,(s'.2.getD k []).getD y none=some t->some g∈gs->Hd n k s' (Af t g):= λy t g ht DB=>by
    rcases r1.new y t ht with e1|e1
    ·have e1:(s.2.getD k []).getD y none=some t:=e1
     by_cases Tm:g=p
     ·subst Tm
      exact r2 _ (Ba.2 ⟨t,kB.2 ⟨y,e1⟩,rfl⟩)
     ·have hg0:some g∈s.1.getD k []:=by
       rw [<-lp] at DB
       rcases Az.1 DB with h|h
       ·exact h
       ·rw [Ae] at h;cases h;exact absurd rfl Tm
      obtain ⟨x1,x2,x3⟩:=FN.tg j8 e1 (by rw [gI];exact DB)
      refine r1.Fm _ x1 x2 ?_
      obtain ⟨t',kT⟩:=Jy.1 (c2.cl y t g e1 hg0)
      refine ⟨t',by show (s.2.getD k []).getD _ none=_;rw [x3];exact kT,?_⟩
      show Hc s.2 (n-(k+1)) (k+1) _=true
      rw [FL]
      exact c2.sg y t g t' e1 hg0 kT
    ·exact e1 g (by rw [gI];exact DB)
   have Ajk:Lvl n k gs (s'.2.getD k []) (λq=>Hc s'.2 m (k+1) q=true):=by
    have hr:=nW.row
    rw [LR] at hr
    refine ⟨hg,hr.rl,hr.r0,hr.rt,λy t g ht DB=>?_,λy t g t' ht DB kT=>?_⟩
    ·obtain ⟨t',kT,_⟩:=hHd y t g ht DB
     obtain ⟨_,_,x3⟩:=nW.tg j8 ht (by rw [LR];exact DB)
     rw [<-x3,kT];simp
    ·obtain ⟨t'',Aoy,hx⟩:=hHd y t g ht DB
     obtain ⟨_,_,x3⟩:=nW.tg j8 ht (by rw [LR];exact DB)
     rw [x3,kT] at Aoy
     cases Aoy
     rw [<-FL];exact hx
   have FH:dT n (m+1) k s':=⟨by rw [<-FL];exact nW.comp,by rw [LR];exact Ajk,λg DB=>nW.sub g DB⟩
   have Rw:Gn n (s'.1.getD k []) p:=by rw [LR];exact cn.one hS Zu
   have tC:=mw.trans r1.grow (Aq _)
   rw [hm]
   refine ⟨⟨nW.l1,nW.l2,FH,by rw [<-FL];exact nW.gb,?_⟩,tC,Rw,λo ho=>?_⟩
   ·have hold:=xt.2
    obtain ⟨p1,p2⟩:=uu tC.Abu tC.vC (m+1) k
    have Ig:js s.2 (m+1) k≠js s'.2 (m+1) k:= λe=>by
     have:=cL (m+1) k p (p2 e)
     rw [(Ue h1 h2 (m+1) k s' (by omega) FH p hp hf).2 Rw] at this
     rw [hm] at hh
     exact hh this.symm
    rw [LR,<-lp,Ay,Bu]
    omega
   ·rw [LR,<-lp] at ho
    rcases Az.1 ho with ho|ho
    ·exact .inl ho
    ·rw [Ae] at ho;exact .inr ho
  ·
   have FR: ∀f',f+1<=f'-> ∃JV,f'=JV+1/\f<=JV:= λf' h=>⟨f'-1,by omega,by omega⟩
   have hS:=cv.pms h1 h2
   have hmul:(n-k)*(n+2)=(n-(k+1))*(n+2)+(n+2):=by
    rw [show n-k=n-(k+1)+1 by omega,Dh,Rx]
   cases Ka:(s.2.getD k []).getD (ap q k) none with
   |some t=>
    have e: ∀f',gB n (f'+1) k q s=kP n f' (k+1) (Af q (Bb t)) s:= λf'=>by simp only [gB];rw [Ka]
    obtain ⟨t1,t2,t3,t4⟩:=cv.row.rt _ _ Ka
    have hx:=hq.comp t1.inv
    have hfx:=Fx.div hq t1 hf t2 hk t3
    have hxg:Gn n (s.1.getD k []) (Af q (Bb t)):=cn.comp hS JZ (cn.sq hS t4)
    obtain ⟨a1,a2⟩:=ihG (k+1) _ s (by omega) cv.v hx hfx (by unfold SA;unfold ni at hmu;omega)
    refine ⟨?_,λf' JY=>by obtain ⟨JV,rfl,ZO⟩:=FR f' JY;rw [e JV,e f];exact a2 JV ZO⟩
    rw [e f]
    generalize kP n f (k+1) (Af q (Bb t)) s=s' at a1
    obtain ⟨av,ag,ai,ags⟩:=a1
    obtain ⟨w1,w2,w3,w4⟩:=av
    obtain ⟨lo1,lo2⟩:=ag.low k (by omega)
    have Aub:Part n k s':=⟨w1,w2,by rw [lo1];exact cv.pg,by rw [lo1,lo2];exact cv.row,w3,w4,λg DB=>by
     rw [lo1]
     rcases ags _ DB with h|h
     ·exact cv.sub g h
     ·cases h;exact hxg⟩
    refine ⟨⟨ag.Ii (by omega),lo1,Aub,λq' q1 q2 ⟨t',e1,e2⟩=>?_,λy t e=> .inl (by rw [lo2] at e;exact e)⟩,t,by rw [lo2];exact Ka,?_⟩
    ·obtain ⟨u1,u2,u3,_⟩:=cv.row.rt _ _ e1
     exact ⟨t',by rw [lo2];exact e1,FG h1 h2 hk cv.comp w3 (ag.Ii (by omega)) (q1.comp u1.inv) (Fx.div q1 u1 q2 u2 hk u3) e2⟩
    ·exact (Ue h1 h2 _ (k+1) s' (by omega) w3 _ hx hfx).2 ai
   |none=>
    have e: ∀f',gB n (f'+1) k q s=((s.1.getD k []).map λo=>Af q (o.getD [])).foldl (λs q=>gB n f' k q s) (s.1,s.2.set k ((s.2.getD k []).set (ap q k) (some q))):= λf'=>by simp only [gB];rw [Ka]
    have hy:ap q k<n:=hq.lt hk
    have KA:=cv.row.rl
    have hyk:ap q k≠k:= λh=>by rw [h,cv.row.r0] at Ka;cases Ka
    have hl2:=cv.l2
    generalize qP:(s.2.getD k []).set (ap q k) (some q)=Xc
    have dQ: ∀y,Xc.getD y none=if ap q k=y then some q else (s.2.getD k []).getD y none:= λy=>by
     rw [<-qP,Ke]
     by_cases h:ap q k=y
     ·rw [Ab ⟨h,by omega⟩,Ab h]
     ·rw [Ak λhh=>h hh.1,Ak h]
    have s12: ∀i,(s.2.set k Xc).getD i []=if i=k then Xc else s.2.getD i []:= λi=>by
     rw [Ke]
     by_cases e:k=i
     ·subst e;rw [Ab ⟨rfl,by omega⟩,Ab rfl]
     ·rw [Ak (λhh=>e hh.1),Ak (Gb e)]
    have xz: ∀i,k+1<=i->s.1.getD i []=s.1.getD i []/\(s.2.set k Xc).getD i []=s.2.getD i []:= λi hi=>⟨rfl,by rw [s12 i,Ak (by omega)]⟩
    have XQ:((s.1,s.2.set k Xc):Ch×Ch).2.getD k []=Xc:=by show (s.2.set k Xc).getD k []=Xc;rw [s12 k,Ab rfl]
    have FN:Part n k (s.1,s.2.set k Xc):=by
     refine ⟨cv.l1,by simpa using hl2,cv.pg,?_,Uq _ (k+1) xz cv.comp,bJ _ (k+1) xz cv.gb,cv.sub⟩
     rw [XQ]
     refine ⟨by rw [<-qP,Bv];exact KA,by rw [dQ k,Ak hyk];exact cv.row.r0,λy t e=>?_⟩
     rw [dQ y] at e
     split at e
     ·rename_i h
      cases e
      exact ⟨hq,hf,h,JZ⟩
     ·exact cv.row.rt y t e
    have mw:Vx k s (s.1,s.2.set k Xc):=by
     refine ⟨rfl,by simp,λi hi=>⟨rfl,?_⟩,λi o ho=>ho,λi y t et=>?_,λi=>?_⟩
     ·show (s.2.set k Xc).getD i []=_;rw [s12 i,Ak (by omega)]
     ·show ((s.2.set k Xc).getD i []).getD y none=some t
      rw [s12 i]
      split
      ·rename_i hi
       subst hi
       rw [dQ y]
       split
       ·rename_i h;rw [<-h,Ka] at et;cases et
       ·exact et
      ·exact et
     ·show ((s.2.set k Xc).getD i []).length=_
      rw [s12 i]
      split
      ·rename_i hi;subst hi;rw [<-qP,Bv]
      ·rfl
    have hnn:Lu Xc+1=Lu (s.2.getD k []):=by rw [<-qP];exact pN Ka (by omega)
    have hmP:ni n k (s.1,s.2.set k Xc)<=f:=by
     unfold ni
     rw [XQ]
     unfold ni at hmu
     omega
    have TZ: ∀x∈(s.1.getD k []).map (λo=>Af q (o.getD [])),Pm n x/\Fx k x/\Gn n (s.1.getD k []) x:= λx hx=>by
     obtain ⟨o,ho,rfl⟩:=Ba.1 hx
     obtain ⟨g,rfl,g1,g2⟩:=cv.pg o ho
     exact ⟨hq.comp g1,Fx.comp hq g1 hf g2 (by omega), .mul JZ ho⟩
    obtain ⟨r1,r2,r3⟩:=kl hk (gs:=s.1.getD k []) (λq s nW Rv a b c d=>ihP k q s hk nW a b (by rw [Rv];exact c) d) ((s.1.getD k []).map λo=>Af q (o.getD [])) (s.1,s.2.set k Xc) FN rfl TZ hmP
    have e': ∀f',gB n (f'+1) k q s=((s.1.getD k []).map λo=>Af q (o.getD [])).foldl (λs q=>gB n f' k q s) (s.1,s.2.set k Xc):= λf'=>by rw [e f',qP]
    refine ⟨?_,λf' JY=>by obtain ⟨JV,rfl,ZO⟩:=FR f' JY;rw [e' JV,e' f];exact r3 JV ZO⟩
    rw [e' f]
    generalize ((s.1.getD k []).map λo=>Af q (o.getD [])).foldl (λs q=>gB n f k q s) (s.1,s.2.set k Xc)=s' at r1 r2
    have FQ:s'.1.getD k []=s.1.getD k []:=r1.same
    have Ajf: ∀x,Pm n x->Fx k x->Hd n k s x->Hd n k (s.1,s.2.set k Xc) x:= λx x1 x2 ⟨t',e1,e2⟩=>by
     obtain ⟨u1,u2,u3,_⟩:=cv.row.rt _ _ e1
     exact ⟨t',mw.vC k _ _ e1,FG h1 h2 hk cv.comp FN.comp mw (x1.comp u1.inv) (Fx.div x1 u1 x2 u2 hk u3) e2⟩
    have hqq:(s'.2.getD k []).getD (ap q k) none=some q:=r1.grow.vC k _ _ (by rw [XQ,dQ,Ab rfl])
    refine ⟨⟨mw.trans r1.grow (Aq _),FQ,r1.part,λx x1 x2 x3=>r1.Fm x x1 x2 (Ajf x x1 x2 x3),λy t ht=>?_⟩,q,hqq,?_⟩
    ·rcases r1.new y t ht with e1|e1
     ·rw [XQ,dQ y] at e1
      split at e1
      ·cases e1
       refine .inr λg hg=>r2 _ (Ba.2 ⟨some g,hg,rfl⟩)
      ·exact .inl e1
     ·exact .inr e1
    ·rw [Tq hq]
     exact (Ue h1 h2 _ (k+1) s' (by omega) r1.part.comp _ (Pm.id h1 h2) (λi hi=>iC (by omega))).2 .id
theorem PZ {n f k:Nat} {p:List Int} {s:Ch×Ch} :kP n (f+1) k p s=if Hc s.2 (n-k) k p=true then s else
  ((known (s.2.getD k [])).map λu=>Af u p).foldl (λs q=>gB n f k q s) (s.1.set k (s.1.getD k []++ [some p]),s.2):=by simp only [kP]
theorem QA {n f k:Nat} {p:List Int} {s:Ch×Ch} :gB n (f+1) k p s=match (s.2.getD k []).getD (ap p k) none with
  |some t=>kP n f (k+1) (Af p (Bb t)) s
  |none=>((s.1.getD k []).map λo=>Af p (o.getD [])).foldl (λs q=>gB n f k q s) (s.1,s.2.set k ((s.2.getD k []).set (ap p k) (some p))):=by simp only [gB]<;>rfl
theorem Ai7 {n k:Nat} (h2:n<=20):(n-k)*(n+2)<=440:=Hq (dO (show n-k<=20 by omega) (show n+2<=22 by omega)) (by omega)
theorem Aat {n k f:Nat} (h2:n<=20) (hf:500<=f):SA n k<=f:=by have:=Ai7 (k:=k) h2;unfold SA;omega
theorem Akf {n k f:Nat} {s:Ch×Ch} (h2:n<=20) (hp:Part n k s) (hf:500<=f):ni n k s<=f:=by
 have:=Ai7 (k:=k) h2
 have h:=jn (s.2.getD k [])
 have hr:=hp.row.rl
 unfold ni;omega
theorem Ail {n k:Nat} (h1:1<=n) (h2:n<=20) {p:List Int} {s:Ch×Ch} (hk:k<=n) (hv:V n (n-k) k s) (hp:Pm n p) (hf:Fx k p):XV n (n-k) k s p (kP n 1000 k p s):=
 ((QB h1 h2 1000).1 k p s hk hv hp hf (Aat h2 (by omega))).1
def iW (n k:Nat) (qs:List (List Int)) (s:Ch×Ch):Ch×Ch:=qs.foldl (λs q=>gB n 1000 k q s) s
theorem tm {n k:Nat} (h1:1<=n) (h2:n<=20) (hk:k<n) {qs:List (List Int)} {s:Ch×Ch} (hp:Part n k s) (hq: ∀q∈qs,Pm n q/\Fx k q/\Gn n (s.1.getD k []) q):
  cz n k s (iW n k qs s)/\qs.foldl (λs q=>gB n 999 k q s) s=iW n k qs s:=by
 have h:=kl hk (f:=999) (gs:=s.1.getD k []) (λq s' nW Rv a b c d=>(QB h1 h2 999).2 k q s' hk nW a b (by rw [Rv];exact c) d) qs s hp rfl hq (Akf h2 hp (by omega))
 have e:=h.2.2 1000 (by omega)
 refine ⟨?_,e.symm⟩
 unfold iW
 rw [e];exact h.1
theorem tp {n k:Nat} {qs:List (List Int)} {s:Ch×Ch} {j:Nat} (hj:j<qs.length):iW n k (qs.take (j+1)) s=gB n 1000 k qs[j] (iW n k (qs.take j) s):=by
 unfold iW
 rw [Hp,Ad hj,Ls,Vs]
 rfl
theorem DH {n k:Nat} (h1:1<=n) (h2:n<=20) {p:List Int} {s:Ch×Ch} (j8:k<n) (hv:V n (n-k) k s) (hp:Pm n p) (hf:Fx k p):
  Part n k (s.1.set k (s.1.getD k []++ [some p]),s.2)/\ ∀q∈(known (s.2.getD k [])).map (λu=>Af u p),Pm n q/\Fx k q/\Gn n ((s.1.set k (s.1.getD k []++ [some p])).getD k []) q:=by
 obtain ⟨v1,v2,hc,xt⟩:=hv
 obtain ⟨m,hm⟩: ∃m,n-k=m+1:=⟨n-k-1,by omega⟩
 have FL:n-(k+1)=m:=by omega
 rw [hm] at hc xt
 obtain ⟨c1,c2,c3⟩:=hc
 generalize lp:s.1.getD k []++ [some p]=gs
 have Zu:some p∈gs:=by rw [<-lp];simp
 have Jl: ∀o∈s.1.getD k [],o∈gs:= λo ho=>by rw [<-lp];exact Bi _ ho
 have hg:PG n k gs:= λo ho=>by
  rw [<-lp] at ho
  rcases Az.1 ho with ho|ho
  ·exact c2.pg o ho
  ·rw [Ae] at ho;exact ⟨p,ho,hp,hf⟩
 have uH: ∀i,(s.1.set k gs).getD i []=if i=k then gs else s.1.getD i []:= λi=>by
  rw [Ke]
  by_cases e:k=i
  ·subst e;rw [Ab ⟨rfl,by omega⟩,Ab rfl]
  ·rw [Ak (λhh=>e hh.1),Ak (Gb e)]
 have xz: ∀i,k+1<=i->(s.1.set k gs).getD i []=s.1.getD i []/\s.2.getD i []=s.2.getD i []:= λi hi=>⟨by rw [uH i,Ak (by omega)],rfl⟩
 refine ⟨⟨by simpa using v1,v2,?_,?_,?_,?_,λg Rv=>?_⟩,λq hq=>?_⟩
 ·show PG n k ((s.1.set k gs).getD k []);rw [uH k,Ab rfl];exact hg
 ·show Uy n k ((s.1.set k gs).getD k []) _
  rw [uH k,Ab rfl]
  exact ⟨c2.rl,c2.r0,λy t e=>⟨(c2.rt y t e).1,(c2.rt y t e).2.1,(c2.rt y t e).2.2.1,(c2.rt y t e).2.2.2.mono λg hg=>Jl _ hg⟩⟩
 ·rw [FL];exact Uq m (k+1) xz c1
 ·rw [FL];exact bJ m (k+1) xz xt.1
 ·have Rv:some g∈(s.1.set k gs).getD (k+1) []:=Rv
  rw [(xz (k+1) (Aq _)).1] at Rv
  show Gn n ((s.1.set k gs).getD k []) g
  rw [uH k,Ab rfl]
  exact (c3 g Rv).mono λg hg=>Jl _ hg
 ·rw [uH k,Ab rfl]
  obtain ⟨u,hu,rfl⟩:=Ba.1 hq
  obtain ⟨y,hy⟩:=kB.1 hu
  obtain ⟨t1,t2,t3,t4⟩:=c2.rt _ _ hy
  exact ⟨t1.comp hp,Fx.comp t1 hp t2 hf (by omega), .mul (t4.mono λg hg=>Jl _ hg) Zu⟩
theorem YE {n k:Nat} (h1:1<=n) (h2:n<=20) {p:List Int} {s:Ch×Ch} (j8:k<n) (hv:V n (n-k) k s) (hp:Pm n p) (hf:Fx k p) (hh: ¬Hc s.2 (n-k) k p=true):
  kP n 1000 k p s=iW n k ((known (s.2.getD k [])).map λu=>Af u p) (s.1.set k (s.1.getD k []++ [some p]),s.2):=by
 obtain ⟨a1,a2⟩:=DH h1 h2 j8 hv hp hf
 rw [<-(tm h1 h2 j8 a1 a2).2]
 exact (PZ (f:=999)).trans (Ak hh)
theorem PY {n k:Nat} {p:List Int} {s:Ch×Ch} (hh:Hc s.2 (n-k) k p=true):kP n 1000 k p s=s:=by
 exact (PZ (f:=999)).trans (Ab hh)
theorem YG {n k:Nat} (h1:1<=n) (h2:n<=20) {q t:List Int} {s:Ch×Ch} (hk:k<n) (cv:Part n k s) (hq:Pm n q) (hf:Fx k q) (Ka:(s.2.getD k []).getD (ap q k) none=some t):
  gB n 1000 k q s=kP n 1000 (k+1) (Af q (Bb t)) s:=by
 obtain ⟨t1,t2,t3,t4⟩:=cv.row.rt _ _ Ka
 rw [((QB h1 h2 999).1 (k+1) _ s (by omega) cv.v (hq.comp t1.inv) (Fx.div hq t1 hf t2 hk t3) (Aat h2 (by omega))).2 1000 (by omega)]
 refine (QA (f:=999)).trans ?_
 rw [Ka]
theorem DJ {n k:Nat} {q:List Int} {s:Ch×Ch} (hk:k<n) (cv:Part n k s) (hq:Pm n q) (hf:Fx k q) (JZ:Gn n (s.1.getD k []) q) (Ka:(s.2.getD k []).getD (ap q k) none=none):
  Part n k (s.1,s.2.set k ((s.2.getD k []).set (ap q k) (some q)))/\ ∀x∈(s.1.getD k []).map (λo=>Af q (o.getD [])),Pm n x/\Fx k x/\Gn n (s.1.getD k []) x:=by
 have KA:=cv.row.rl
 have hy:ap q k<n:=hq.lt hk
 have hyk:ap q k≠k:= λh=>by rw [h,cv.row.r0] at Ka;cases Ka
 have hl2:=cv.l2
 generalize qP:(s.2.getD k []).set (ap q k) (some q)=Xc
 have dQ: ∀y,Xc.getD y none=if ap q k=y then some q else (s.2.getD k []).getD y none:= λy=>by
  rw [<-qP,Ke]
  by_cases h:ap q k=y
  ·rw [Ab ⟨h,by omega⟩,Ab h]
  ·rw [Ak λhh=>h hh.1,Ak h]
 have s12: ∀i,(s.2.set k Xc).getD i []=if i=k then Xc else s.2.getD i []:= λi=>by
  rw [Ke]
  by_cases e:k=i
  ·subst e;rw [Ab ⟨rfl,by omega⟩,Ab rfl]
  ·rw [Ak (λhh=>e hh.1),Ak (Gb e)]
 have xz: ∀i,k+1<=i->s.1.getD i []=s.1.getD i []/\(s.2.set k Xc).getD i []=s.2.getD i []:= λi hi=>⟨rfl,by rw [s12 i,Ak (by omega)]⟩
 have XQ:((s.1,s.2.set k Xc):Ch×Ch).2.getD k []=Xc:=by show (s.2.set k Xc).getD k []=Xc;rw [s12 k,Ab rfl]
 refine ⟨⟨cv.l1,by simpa using hl2,cv.pg,?_,Uq _ (k+1) xz cv.comp,bJ _ (k+1) xz cv.gb,cv.sub⟩,λx hx=>?_⟩
 ·rw [XQ]
  refine ⟨by rw [<-qP,Bv];exact KA,by rw [dQ k,Ak hyk];exact cv.row.r0,λy t e=>?_⟩
  rw [dQ y] at e
  split at e
  ·rename_i h
   cases e
   exact ⟨hq,hf,h,JZ⟩
  ·exact cv.row.rt y t e
 ·obtain ⟨o,ho,rfl⟩:=Ba.1 hx
  obtain ⟨g,rfl,g1,g2⟩:=cv.pg o ho
  exact ⟨hq.comp g1,Fx.comp hq g1 hf g2 (by omega), .mul JZ ho⟩
theorem YF {n k:Nat} (h1:1<=n) (h2:n<=20) {q:List Int} {s:Ch×Ch} (hk:k<n) (cv:Part n k s) (hq:Pm n q) (hf:Fx k q) (JZ:Gn n (s.1.getD k []) q) (Ka:(s.2.getD k []).getD (ap q k) none=none):
  gB n 1000 k q s=iW n k ((s.1.getD k []).map λo=>Af q (o.getD [])) (s.1,s.2.set k ((s.2.getD k []).set (ap q k) (some q))):=by
 obtain ⟨a1,a2⟩:=DJ hk cv hq hf JZ Ka
 rw [<-(tm h1 h2 hk a1 a2).2]
 refine (QA (f:=999)).trans ?_
 rw [Ka]
def Pg (n:Nat) (gens:List PO):Ch×Ch:=gens.foldl (λs o=>kP n 1000 0 (o.getD []) s) (Tf n,Yu n)
theorem yN {n:Nat} {gens:List PO} {j:Nat} (hj:j<gens.length):Pg n (gens.take (j+1))=kP n 1000 0 (gens[j].getD []) (Pg n (gens.take j)):=by
 unfold Pg
 rw [Hp,Ad hj,Ls,Vs]
 rfl
theorem m5 {n:Nat} (h1:1<=n) (h2:n<=20): ∀(gens:List PO) (s:Ch×Ch),PmL n gens->V n n 0 s->V n n 0 (gens.foldl (λs o=>kP n 1000 0 (o.getD []) s) s)/\
  Vx 0 s (gens.foldl (λs o=>kP n 1000 0 (o.getD []) s) s)/\(∀g,some g∈gens->Gn n ((gens.foldl (λs o=>kP n 1000 0 (o.getD []) s) s).1.getD 0 []) g)/\ ∀o∈(gens.foldl (λs o=>kP n 1000 0 (o.getD []) s) s).1.getD 0 [],o∈s.1.getD 0 []\/o∈gens
 | [],s,_,hv=>⟨hv,Vx.refl _ _,(λ_ hg=>by cases hg),λ_ ho=> .inl ho⟩
 |o::gens,s,hg,hv=>by
  obtain ⟨g,rfl,Tm⟩:=hg o (by simp)
  have ha:=Ail h1 h2 (k:=0) (Jx _) (by rw [Nat.sub_zero];exact hv) Tm (λi hi=>absurd hi (Dj _))
  have QX:=ha.v
  rw [Nat.sub_zero] at QX
  obtain ⟨a1,a2,a3,a4⟩:=m5 h1 h2 gens (kP n 1000 0 g s) (λo ho=>hg o (by simp [ho])) QX
  refine ⟨a1,ha.grow.trans a2 (Aq _),λg' Rv=>?_,λo ho=>?_⟩
  ·rcases Bc.1 Rv with e|Rv
   ·cases e;exact ha.Ak9.mono λg hg=>a2.xm _ _ hg
   ·exact a3 g' Rv
  ·rcases a4 o ho with h|h
   ·rcases ha.gens o h with h|h
    ·exact .inl h
    ·exact .inr (by simp [h])
   ·exact .inr (by simp [h])
theorem kd {n:Nat} (h1:1<=n) (h2:n<=20) {gens:List PO} (hg:PmL n gens):V n n 0 (Pg n gens):=(m5 h1 h2 gens _ hg (ss h1 h2)).1
theorem j7 {n:Nat} (h1:1<=n) (h2:n<=20) {gens:List PO} (hg:PmL n gens) {p:List Int} (hp:Pm n p):Hc (Pg n gens).2 n 0 p=true↔Gn n gens p:=by
 obtain ⟨a1,a2,a3,a4⟩:=m5 h1 h2 gens _ hg (ss h1 h2)
 have hS:DA n λg=>some g∈gens:=⟨⟨h1,h2⟩,λg Rv=>by obtain ⟨g',e,h⟩:=hg _ Rv;cases e;exact h⟩
 have Jl: ∀g,some g∈(Pg n gens).1.getD 0 []->some g∈gens:= λg Rv=>by
  rcases a4 _ Rv with h|h
  ·have h:some g∈(Tf n).getD 0 []:=h
   rw [Yt] at h;cases h
  ·exact h
 have hS':DA n λg=>some g∈(Pg n gens).1.getD 0 []:=⟨⟨h1,h2⟩,λg Rv=>hS.2 g (Jl g Rv)⟩
 refine (Ue h1 h2 n 0 (Pg n gens) (by omega) a1.2.2.1 p hp λi hi=>absurd hi (Dj _)).trans ⟨λh=>h.mono Jl,λh=>h.trans hS' λg Rv=>a3 g Rv⟩
def Nt (T:Ch):Nat->Nat->List Int->List Int×Int×Unit
 |0,l,p=>(p,(l:Int),())
 |k+1,l,p=>match (T.getD l []).getD (Cr p (l:Int)).toNat none with
  |none=>(p,(l:Int),())
  |some t=>Nt T k (l+1) (Af p (Bb t))
theorem uL {T:Ch} : ∀(k l:Nat) (p:List Int),(Nt T k l p).2.1=((l+k:Nat):Int)↔Hc T k l p=true
 |0,l,p=>by simp [Nt,Hc]
 |k+1,l,p=>by
  unfold Nt Hc
  cases (T.getD l []).getD (Cr p (l:Int)).toNat none with
  |none=>
   constructor
   ·intro h
    have h:(l:Int)=((l+(k+1):Nat):Int):=h
    omega
   ·intro h;cases h
  |some t=>
   have h:=uL (T:=T) k (l+1) (Af p (Bb t))
   rw [show l+1+k=l+(k+1) by omega] at h
   exact h
theorem MK {row:Row} {y:Nat} (h:y<row.length):known (row.take (y+1))=known (row.take y)++(row[y]).toList:=by
 unfold known
 rw [Ga h,List.filterMap_append]
 cases row[y]<;>rfl
theorem xJ (row:Row):(known row).length<=row.length:=List.length_filterMap_le _ _
theorem xl {n k:Nat} (h1:1<=n) (h2:n<=20) (hk:k<n) {qs:List (List Int)} {s:Ch×Ch} (hp:Part n k s) (hq: ∀q∈qs,Pm n q/\Fx k q/\Gn n (s.1.getD k []) q) (j:Nat):cz n k s (iW n k (qs.take j) s):=
 (tm h1 h2 hk hp λq h=>hq q (Er h)).1
theorem MQ {n k:Nat} {s:Ch×Ch} (hp:Part n k s):ni n k s<SA n k:=by
 have h:=jn (s.2.getD k [])
 have hr:=hp.row.rl
 unfold ni SA
 omega
theorem Aau {n k:Nat} {s:Ch×Ch} (hk:k<n):SA n (k+1)<ni n k s:=by
 obtain ⟨m,hm⟩: ∃m,n-k=m+1:=⟨n-k-1,by omega⟩
 have FL:n-(k+1)=m:=by omega
 unfold SA ni
 rw [hm,FL,Nat.succ_mul]
 omega
theorem Aff {n k y:Nat} {s:Ch×Ch} {q:List Int} (hk:k<s.2.length) (hy:y<(s.2.getD k []).length) (h:(s.2.getD k []).getD y none=none):
  ni n k (s.1,s.2.set k ((s.2.getD k []).set y (some q)))+1=ni n k s:=by
 have h1:=pN (t:=q) h hy
 have h2:(s.2.set k ((s.2.getD k []).set y (some q))).getD k []=(s.2.getD k []).set y (some q):=by
  rw [Ke,Ab ⟨rfl,hk⟩]
 unfold ni
 show _+Lu ((s.2.set k ((s.2.getD k []).set y (some q))).getD k [])+1=_
 rw [h2]
 omega
def Xl (n:Int) (g:List (List Int)):Ch×Ch:=Pg n.toNat (g.map some)
noncomputable def Ox (p:PP) (t:List Int):List Int:=pG (Hu p) (λi=>decide ((Ag p).getD i []∈Ag (Cf p t))) (Ag p).length
noncomputable def Us (p:PP) (d:List Int) (x:List Int):Int:=d.getD ((Ag p).idxOf x) 0
noncomputable def Ta (p:PP) (d s:List Int):List Int:=(ik p.2.2.1 (Us p d) (Au p.2.2.1.length) (Us p d s).toNat s []).1
def Amo (p:PP) (d:List Int):Prop:=d.length=(Ag p).length/\(∀i,i<d.length->d.getD i 0<=3000)/\ ∃S,Ju p.2.2.1 (Au p.2.2.1.length) (Ag p) S (λx=>d.getD ((Ag p).idxOf x) 0)
noncomputable def oh (p:PP) (t s:List Int):List Int×Bool×Unit:=if (Jn p t&&decide (s∈Ag p))=true then oc (Ta p (Ox p t) s) else ([],false,())
theorem yA {p:PP} {t:List Int} (hw:Ds p=true) (hm:Dp p t=true):(Ag p).getD 0 []∈Ag (Cf p t):=by
 rw [(Lt (Cw hw).1).1]
 exact (Lt (cg hm)).2
theorem uo {p:PP} {t:List Int} (hw:Ds p=true) (hm:Dp p t=true):
  Amo p (Ox p t)/\Ju p.2.2.1 (Au p.2.2.1.length) (Ag p) (λx=>x∈Ag (Cf p t)) (λx=>(Ox p t).getD ((Ag p).idxOf x) 0):=by
 have hv:=(Cw hw).1
 have hR:=fK hw
 have hm3:=jP hv
 have hlen:(Ox p t).length=(Ag p).length:=(Agw hR).len
 have hd:=Aec hw (λi=>decide ((Ag p).getD i []∈Ag (Cf p t))) (i0:=0) (by have:=OS hv;omega) (Cl (yA hw hm))
 refine ⟨⟨hlen,λi hi=>?_,_,hd⟩,hd.congr λx hx=>?_⟩
 ·have:=Amq (S:= λi=>decide ((Ag p).getD i []∈Ag (Cf p t))) hR (i:=i) (by omega)
  show (pG (Hu p) (λi=>decide ((Ag p).getD i []∈Ag (Cf p t))) (Ag p).length).getD i 0<=3000
  omega
 ·have h1:=Mc hx
  rw [En h1,List.getElem_idxOf h1,Gf]
abbrev Avf:Ty:= .clo (113+1000000000) (.pair (.optr gj) .unit)
def Amm (e:Option XP) (h:Option HP):Prop:= ∃p t,Jn p t=true/\h=some (Fq p t)/\e=some (Il p)
noncomputable abbrev ab:Spec:=Ht (.pair (.optr gW) (.pair Avf .unit)) tL false true (λx=>Amm x.1 x.2.1.1) (λx=>GP x.1 λi=>mF x.2.1.1 (i:Int))
abbrev ql:Type:=(Int×ByteArray×List (List Int)×PUnit)×List (List Int)×List Int×(ByteArray->Option Int)×List Int×List Int×List (List Int)×PUnit
theorem Ad3 (e:Option XP) (c:Option (Option XP×List Int×Option XP×Unit)×Unit) (P:List Int->Prop):(∃(y3:ql),e=some y3/\ ∃(y4:(List Int×PUnit)×PUnit),eN.fn (List.take 1 (List.drop 0 [(-1:Int)]),(↑y3.2.1.length:Int),())=some y4/\ ∃(y5:ql),e=some y5/\ ∃(y6:Int),Od.fn (y5.2.1,())=some y6/\0=0/\y4.1.1.length=y4.1.1.length/\0=0/\(List.take 0 (List.drop 0 ([]:List Int))).length=(List.take 0 (List.drop 0 ([]:List Int))).length/\Ev (λ(v7:Int×List Int×List Int×PUnit) (k8:Int×List Int×List Int×PUnit->Prop)=>Br (decide (v7.1<y6)) (∃(y9:Bool),dC.fn (c.1,v7.1,())=some y9/\Br y9 (((0:Int)<=v7.1/\v7.1<(↑v7.2.2.1.length:Int))/\0+v7.1.toNat<v7.2.2.1.length/\0=0/\v7.2.1.length=v7.2.1.length/\v7.2.1.length+(List.take 1 (List.drop 0 [v7.1])).length<=Dn/\0=0/\v7.2.2.1.length=(v7.2.2.1.set (0+v7.1.toNat) (0:Int)).length/\0=0/\(List.take (v7.2.1++List.take 1 (List.drop 0 [v7.1])).length (List.drop 0 (v7.2.1++List.take 1 (List.drop 0 [v7.1])))).length=(List.take (v7.2.1++List.take 1 (List.drop 0 [v7.1])).length (List.drop 0 (v7.2.1++List.take 1 (List.drop 0 [v7.1])))).length/\k8 (IntKind.i64.wrap (v7.1+(1:Int)),List.take (v7.2.1++List.take 1 (List.drop 0 [v7.1])).length (List.drop 0 (v7.2.1++List.take 1 (List.drop 0 [v7.1]))),v7.2.2.1.set (0+v7.1.toNat) (0:Int),())) (0=0/\v7.2.2.1.length=v7.2.2.1.length/\0=0/\(List.take v7.2.1.length (List.drop 0 v7.2.1)).length=(List.take v7.2.1.length (List.drop 0 v7.2.1)).length/\k8 (IntKind.i64.wrap (v7.1+(1:Int)),List.take v7.2.1.length (List.drop 0 v7.2.1),v7.2.2.1,()))) (0=0/\v7.2.2.1.length=v7.2.2.1.length/\0=0/\(List.take v7.2.1.length (List.drop 0 v7.2.1)).length=(List.take v7.2.1.length (List.drop 0 v7.2.1)).length/\Ev (λ(v9:List Int×List Int×PUnit) (k10:List Int×List Int×PUnit->Prop)=>Br (decide ((↑v9.1.length:Int)>(0:Int))) (∃(Nu:ql),e=some Nu/\((0:Int)<=(0:Int)/\(0:Int)<(↑v9.1.length:Int))/\ ∃(Vm:Int),v9.1[0+Int.toNat (0:Int)]?=some Vm/\ ∃(hJ:List Int),idx Nu.2.2.2.2.2.2.1 Vm=some hJ/\0=0/\v9.2.1.length=v9.2.1.length/\0=0/\(List.take v9.1.length (List.drop 0 v9.1)).length=(List.take v9.1.length (List.drop 0 v9.1)).length/\Ev (λ(cy:Int×List Int×List Int×PUnit) (k15:Int×List Int×List Int×PUnit->Prop)=>Br (decide (cy.1<(↑hJ.length:Int))) (∃(oU:Int),idx hJ cy.1=some oU/\((0:Int)<=oU/\oU<(↑cy.2.2.1.length:Int))/\ ∃(y17:Int),cy.2.2.1[0+oU.toNat]?=some y17/\Br (decide (y17<(0:Int))) (((0:Int)<=(0:Int)/\(0:Int)<(↑cy.2.1.length:Int))/\ ∃(y18:Int),cy.2.1[0+Int.toNat (0:Int)]?=some y18/\((0:Int)<=y18/\y18<(↑cy.2.2.1.length:Int))/\ ∃(y19:Int),cy.2.2.1[0+y18.toNat]?=some y19/\((0:Int)<=oU/\oU<(↑cy.2.2.1.length:Int))/\0+oU.toNat<cy.2.2.1.length/\0=0/\cy.2.1.length=cy.2.1.length/\cy.2.1.length+(List.take 1 (List.drop 0 [oU])).length<=Dn/\0=0/\cy.2.2.1.length=(cy.2.2.1.set (0+oU.toNat) (IntKind.i64.wrap (y19+(1:Int)))).length/\0=0/\(List.take (cy.2.1++List.take 1 (List.drop 0 [oU])).length (List.drop 0 (cy.2.1++List.take 1 (List.drop 0 [oU])))).length=(List.take (cy.2.1++List.take 1 (List.drop 0 [oU])).length (List.drop 0 (cy.2.1++List.take 1 (List.drop 0 [oU])))).length/\k15 (IntKind.i64.wrap (cy.1+(1:Int)),List.take (cy.2.1++List.take 1 (List.drop 0 [oU])).length (List.drop 0 (cy.2.1++List.take 1 (List.drop 0 [oU]))),cy.2.2.1.set (0+oU.toNat) (IntKind.i64.wrap (y19+(1:Int))),())) (0=0/\cy.2.2.1.length=cy.2.2.1.length/\0=0/\(List.take cy.2.1.length (List.drop 0 cy.2.1)).length=(List.take cy.2.1.length (List.drop 0 cy.2.1)).length/\k15 (IntKind.i64.wrap (cy.1+(1:Int)),List.take cy.2.1.length (List.drop 0 cy.2.1),cy.2.2.1,()))) (((0:Int)<=(1:Int)/\(1:Int)<=(↑cy.2.1.length:Int)/\(↑cy.2.1.length:Int)<=(↑cy.2.1.length:Int))/\0=0/\cy.2.2.1.length=cy.2.2.1.length/\0=0/\(List.take ((↑cy.2.1.length:Int).toNat-Int.toNat (1:Int)) (List.drop (0+Int.toNat (1:Int)) cy.2.1)).length=(List.take ((↑cy.2.1.length:Int).toNat-Int.toNat (1:Int)) (List.drop (0+Int.toNat (1:Int)) cy.2.1)).length/\k10 (List.take ((↑cy.2.1.length:Int).toNat-Int.toNat (1:Int)) (List.drop (0+Int.toNat (1:Int)) cy.2.1),cy.2.2.1,()))) ((0:Int),List.take v9.1.length (List.drop 0 v9.1),v9.2.1,PUnit.unit)) (P (List.take v9.2.1.length (List.drop 0 v9.2.1)))) (List.take v7.2.1.length (List.drop 0 v7.2.1),v7.2.2.1,PUnit.unit))) ((0:Int),List.take 0 (List.drop 0 []),y4.1.1,PUnit.unit))=fnW (OX [Mk+6]) (look [(167,eN),(95,Od),(113,dC)]) ab Try.f112 (e,c,()) P:=by kernel_rfl
theorem Ab8 (e:Option XP) (c:Option HP×Unit) (h:Amm e c.1):fnW (OX [Mk+6]) (look [(167,eN),(95,Od),(113,dC)]) ab Try.f112 (e,c,()) (λ(z:List Int)=>z=GP e λi=>mF c.1 (i:Int)):=by
 obtain ⟨p,t,hw,XN,rfl⟩:=h
 obtain ⟨ch,⟨⟩⟩:=c
 dsimp only at XN
 subst XN
 have hx:p8 (Il p):=⟨(Qa.1 hw).1,rfl⟩
 obtain ⟨e',TS⟩: ∃e':XP,Il p=e':=⟨_,rfl⟩
 have hep:e'.1=p:=by rw [<-TS];rfl
 rw [TS] at hx⊢
 have Rj:=Amt hx
 have hwv:=Cw hx.1
 have hm3:=jP hwv.1
 have hm1:=OS hwv.1
 have hR:=fK hx.1
 have hV:=valid hwv.1
 have hlf:=jh hV
 obtain ⟨m,hm⟩: ∃m,(Ag e'.1).length=m:=⟨_,rfl⟩
 obtain ⟨S,hS⟩: ∃S:Nat->Bool,(λ(i:Nat)=>mF (some (Fq p t)) (i:Int))=S:=⟨_,rfl⟩
 have hSi: ∀i:Nat,mF (some (Fq p t)) (i:Int)=S i:= λi=>congrFun hS i
 show fnW _ _ ab _ _ (λz=>z=pG (Hu e'.1) (λi=>mF (some (Fq p t)) (i:Int)) (Ag e'.1).length)
 rw [hS]
 have Qf: ∀i:Nat,i<m->dC.fn (some (Fq p t),(i:Int),())=some (S i):= λi hi=>by
  refine (Ab ⟨p,t,hw,rfl,by show (0:Int)<=i;omega,?_⟩).trans (Cx some (hSi i))
  show (i:Int)<(((Ag p).length:Nat):Int)
  rw [<-hep];omega
 rw [hm] at hm3 hm1 hR⊢
 refine Eq.mp (Ad3 _ _ _) ⟨e',rfl,((List.replicate m (-1),()),()),?_,e',rfl,(m:Int),?_,rfl,rfl,rfl,rfl,?_⟩
 ·rw [Rj,hm]
  refine (Ab ⟨⟨-1,rfl⟩,by show (1:Int)<=m;omega,by show (m:Int)<=100000;omega⟩).trans ?_
  show some ((List.replicate ((m:Int)).toNat (-1),()),())=_
  rw [Ac]
 ·exact (Ab trivial).trans (Cx some (by show ((e'.2.1.length:Nat):Int)=m;rw [Rj,hm]))
 refine Cj m (λv=>v.1) (λj v=>v.2.1=dqp S j/\v.2.2.1.length=m/\ ∀k,k<m->v.2.2.1.getD k 0=if k<j/\S k=true then 0 else-1) rfl ⟨rfl,by simp,λk hk=>?_⟩ ?_
 ·rw [Ak (by omega),En (by simpa using hk),List.getElem_replicate]
 rintro j ⟨i,q,out,⟨⟩⟩ K hj hi ⟨h1,h2,h3⟩ hK
 dsimp only at hi h1 h2 h3⊢
 subst hi h1
 have hql:=Aea S j
 refine Br.dec (λhl=>?_) λhl=>⟨rfl,rfl,rfl,rfl,?_⟩
 ·have hl:j<m:=by omega
  refine ⟨S j,Qf j hl,Br.of (λhs=>?_) λhs=>?_⟩
  ·refine ⟨⟨by omega,by omega⟩,by rw [Ac];omega,rfl,rfl,by show (dqp S j).length+1<=4294967296;omega,rfl,by rw [Bv],rfl,rfl,?_⟩
   rw [Dz,Cd (by omega),Ac,Bn]
   refine hK hl _ rfl ⟨?_,by rw [Bv];exact h2,?_⟩
   ·show dqp S j++ [(j:Int)]=_
    rw [EI,Ab hs]
   ·refine Afz h2 hl h3 (by rw [Ab ⟨by omega,hs⟩]) λk hk=>?_
    by_cases hc:k<j/\S k=true
    ·rw [Ab hc,Ab ⟨by omega,hc.2⟩]
    ·rw [Ak hc,Ak λh=>hc ⟨by omega,h.2⟩]
  ·refine ⟨rfl,rfl,rfl,rfl,?_⟩
   rw [Dz,Cd (by omega)]
   refine hK hl _ rfl ⟨?_,h2,λk hk=>?_⟩
   ·show dqp S j=_
    rw [EI,Ak (by rw [hs];decide)]
   ·rw [h3 k hk]
    by_cases hc:k<j/\S k=true
    ·rw [Ab hc,Ab ⟨by omega,hc.2⟩]
    ·rw [Ak hc,Ak λh=>hc ⟨by
      by_cases e:k=j
      ·subst e;rw [hs] at h;exact absurd h.2 (by decide)
      ·omega,h.2⟩]
 ·have:j=m:=by omega
  subst this
  have zp:out=XM S j:=UK (by rw [h2];simp [XM]) λk hk=>by
   rw [h3 k (by omega),aq (by omega)]
   by_cases hs:S k=true
   ·rw [Ab ⟨by omega,hs⟩,Ab hs]
   ·rw [Ak λh=>hs h.2,Ak hs]
  subst zp
  rw [Dz]
  show Ev _ (dq0 S j,XM S j,PUnit.unit)
  refine Ev.mk (λv=> ∃(q out:List Int) (f T:Nat),v=(q,out,())/\DQ (Hu e'.1) S j out q/\q.length+eF out<f/\vU (Hu e'.1) f out q=pG (Hu e'.1) S j/\T+(q.length+eF out)<=j/\ ∀i,i<j->out.getD i 0<=T) (λv=>v.1.length+eF v.2.1)
   ⟨dq0 S j,XM S j,j+1,0,rfl,sX _ _ _,by rw [SD];omega,rfl,by rw [SD];omega,λi hi=>by rw [aq hi];split<;>omega⟩ ?_
  rintro v ⟨q,out,f,T,rfl,g1,g2,g3,g4,g5⟩
  dsimp only
  have hol:=g1.base.len
  refine Br.dec (λhl=>?_) λhl=>?_
  ·obtain ⟨x,q',rfl⟩: ∃x q',q=x::q':=by
    cases q with
    |nil=>simp at hl
    |cons x q'=>exact ⟨x,q',rfl⟩
   obtain ⟨x1,x2,x3⟩:=g1.base.inq x (by simp)
   obtain ⟨xn,rfl⟩:=Bt x1
   have RN:xn<j:=by omega
   rw [Ac] at x3
   obtain ⟨f,rfl⟩: ∃f',f=f'+1:=⟨f-1,by omega⟩
   simp only [vU,Ac] at g3
   simp only [Av] at g2 g4
   refine ⟨e',rfl,⟨by omega,by omega⟩,(xn:Int),by simp,Hu e'.1 xn,QM hx (by omega),rfl,rfl,rfl,rfl,?_⟩
   rw [Dz]
   obtain ⟨o1,o2⟩:=List.pairwise_cons.1 g1.base.ord
   simp only [Ac] at o1
   have hX0:DX (Hu e'.1) S j xn (out.getD xn 0) out q':=by
    refine ⟨⟨g1.base.len,g1.base.ge,λy hy=>g1.base.inq y (Ar _ hy),g1.base.src,g1.base.Ag1,g1.base.par,λi hi h0 hn hw=>g1.base.done i hi h0 (λhm=>?_) (λh=>h),o2⟩,RN,rfl,x3,o1,?_⟩
    ·rcases Bc.1 hm with e|hm
     ·exact hw (by omega)
     ·exact hn hm
    ·have:=g1.hi (xn:Int) q' rfl
     rwa [Ac] at this
   have hnl:(Hu e'.1 xn).length<=16:=by rw [mL];exact hlf
   obtain ⟨d,hd⟩: ∃d,out.getD xn 0=d:=⟨_,rfl⟩
   rw [hd] at hX0
   have hdT:d<=T:=by rw [<-hd];exact g5 xn RN
   refine Cj (Hu e'.1 xn).length (λv=>v.1) (λk v=> ∃(qq o:List Int),v=((k:Int),(xn:Int)::qq,o,())/\DX (Hu e'.1) S j xn d o qq/\qq.length+eF o=q'.length+eF out/\
     aP (xn:Int) ((Hu e'.1 xn).drop k) (o,qq)=aP (xn:Int) (Hu e'.1 xn) (out,q')) rfl ⟨q',out,rfl,hX0,rfl,by rw [Dy]⟩ ?_
   rintro k v K2 hk hki ⟨qq,o,rfl,hX,hc,Rw⟩ hK2
   dsimp only
   have hXb:=hX.base.len
   refine Br.dec (λMy=>?_) λMy=>?_
   ·have My:k<(Hu e'.1 xn).length:=by omega
    have htm:=hR xn RN _ (An My)
    obtain ⟨tn,htn⟩:=Bt htm.1
    have htj:tn<j:=by omega
    rw [Nw My] at Rw
    simp only [aP] at Rw
    have hox:o.getD ((xn:Nat):Int).toNat 0=d:=by rw [Ac];exact hX.Ss
    refine ⟨_,Dk My,?_⟩
    rw [htn] at Rw⊢
    rw [Ac] at Rw
    refine ⟨⟨by omega,by omega⟩,o.getD tn 0,Aix (by omega),Br.dec (λrT=>?_) λrT=>?_⟩
    ·rw [Ab rT,hox] at Rw
     have lr:=QK hR hX (An My) htm (by rw [htn,Ac];exact rT)
     rw [htn,Ac] at lr
     have hng:=HC (xs:=o) (i:=tn) (v:=d+1) (by omega) rT (by have:=hX.d0;omega)
     have hd0:=hX.d0
     refine ⟨⟨by omega,by simp only [Av];omega⟩,(xn:Int),by simp,⟨by omega,by omega⟩,d,by rw [Aix (by omega),<-hX.Ss],⟨by omega,by omega⟩,by rw [Ac];omega,rfl,rfl,?_,rfl,by rw [Bv],rfl,rfl,?_⟩
     ·show qq.length+1+1<=4294967296
      omega
     ·rw [Dz,Cd (by omega),Ac,Bn,Dq (n:=d+1) (by omega) (by omega)]
      refine hK2 My _ rfl ⟨qq++ [(tn:Int)],o.set tn (d+1),rfl,lr,?_,Rw⟩
      rw [Ay,Bu]
      omega
    ·rw [Ak rT] at Rw
     refine ⟨rfl,rfl,rfl,rfl,?_⟩
     rw [Dz,Cd (by omega)]
     exact hK2 My _ rfl ⟨qq,o,rfl,hX,hc,Rw⟩
   ·have My:k=(Hu e'.1 xn).length:=by omega
    subst My
    rw [List.drop_length,aP] at Rw
    rw [<-Rw] at g3
    have Aog:=(YW hR g1).1
    rw [Ac,<-Rw] at Aog
    have ht:List.take ((((xn:Int)::qq).length:Int).toNat-Int.toNat (1:Int)) (List.drop (0+Int.toNat (1:Int)) ((xn:Int)::qq))=qq:=by
     rw [Ac,Av]
     show List.take (qq.length+1-1) qq=qq
     rw [Nat.add_sub_cancel,Bg]
    rw [ht]
    refine ⟨⟨by omega,by simp only [Av];omega,by omega⟩,rfl,rfl,rfl,rfl,⟨qq,o,f,T+1,rfl,Aog,by omega,g3,by omega,λi hi=>?_⟩,?_⟩
    ·have:=hX.hi i hi
     push_cast
     omega
    ·show qq.length+eF o<((xn:Int)::q').length+eF out
     simp only [Av]
     omega
  ·have:q= []:=by
    cases q with
    |nil=>rfl
    |cons x q'=>simp at hl
   subst this
   rw [Dz]
   cases f with
   |zero=>exact g3
   |succ f=>exact g3
theorem BI:Sound Try.prog 112 ab:=
 Sound.Ht (OY [Mk+6]) (Ez BN (Be db (Be uU Cb))) mixed Try.func112 (by kernel_rfl) (by kernel_rfl) λx h=>Ab8 x.1 x.2.1 h
noncomputable abbrev Yi:MSpec:=ir [some 3,none,none] [(false, .Fe tI),(false, .Fe .str),(false, .Fe se),(false, .Fe tL),(false, .Fe tL)] true [none,none] [rL, .Fe .bool]
 (λx=>Gt (x.1,x.2.1,x.2.2.1,())/\short x.2.2.2.1/\short x.2.2.2.2.1) (λx=>(((oh (x.1,x.2.1,x.2.2.1,()) x.2.2.2.1 x.2.2.2.2.1).1,(oh (x.1,x.2.1,x.2.2.1,()) x.2.2.2.1 x.2.2.2.2.1).2.1,()),()))
abbrev vu:Type:=Option ((Int×ByteArray×List (List Int)×PUnit)×List (List Int)×List Int×(ByteArray->Option Int)×List Int×List Int×List (List Int)×PUnit)×List Int×Option ((Int×ByteArray×List (List Int)×PUnit)×List (List Int)×List Int×(ByteArray->Option Int)×List Int×List Int×List (List Int)×PUnit)×PUnit
theorem WX (n:Int) (str:ByteArray) (g:List (List Int)) (t s:List Int) (P:((List Int×Bool×Unit)×Unit)->Prop):(∃(y6:Option (Option ((Int×ByteArray×List (List Int)×PUnit)×List (List Int)×List Int×(ByteArray->Option Int)×List Int×List Int×List (List Int)×PUnit)×List Int×Option ((Int×ByteArray×List (List Int)×PUnit)×List (List Int)×List Int×(ByteArray->Option Int)×List Int×List Int×List (List Int)×PUnit)×PUnit)×Int×Bool×PUnit),Hm.fn ((n,str,g,()),t,s,())=some y6/\Br (!y6.2.2.1) (P ((List.take 0 (List.drop 0 []),false,()),())) (∃(y7:vu),y6.1=some y7/\ ∃(y8:vu),y6.1=some y8/\ ∃(y9:List Int),ab.fn (y8.1,(y6.1,()),())=some y9/\ ∃(Qp:(List Int×Int×Bool×PUnit)×PUnit),Yf.fn (y7.1,y9,y6.2.1,())=some Qp/\P ((List.take Qp.1.1.length (List.drop 0 Qp.1.1),Qp.1.2.2.1,()),())))=fnMW Sp (look [(110,Hm),(112,ab),(111,Yf)]) Yi Try.f45 (n,str,g,t,s,()) P:=by kernel_rfl
theorem Akl {p:PP} {t:List Int} {s:List Int} (hw:Jn p t=true) (hs:s∈Ag p):
  (Kg p (Ox p t) (Ni p s).1).1=(oc (Ta p (Ox p t) s)).1/\(Kg p (Ox p t) (Ni p s).1).2.2.1=(oc (Ta p (Ox p t) s)).2.1:=by
 obtain ⟨tK,hmv⟩:=Qa.1 hw
 obtain ⟨h1,h2⟩:=uo tK hmv
 have hl:=h1.1
 have hdn:=z0 tK hl h2
 have hi:=Mc hs
 have hix:(Ni p s).1=(((Ag p).idxOf s:Nat):Int):=by unfold Ni;rw [Ab hs]
 rw [hix]
 have hn:=hdn.nn _ (by rw [hl];exact hi)
 obtain ⟨n,oZ⟩:=Bt hn
 obtain ⟨e1,e2,_⟩:=z7 tK hdn h2 (see:= λx=>x) (dep:=Us p (Ox p t)) (λ_ _ _ _=>rfl) (λ_ _=>rfl) n _ [] hi oZ
 have hsx:(Ag p).getD ((Ag p).idxOf s) []=s:=by rw [En hi,List.getElem_idxOf hi]
 have hg:Cr (Ox p t) (((Ag p).idxOf s:Nat):Int)=(n:Int):=by unfold Cr;rw [Ac];exact oZ
 have hd:Us p (Ox p t) s=(n:Int):=oZ
 have hw':Ta p (Ox p t) s=(Uz (Hu p) (Au p.2.2.1.length) (Ox p t) n (((Ag p).idxOf s:Nat):Int) []).1:=by
  rw [e1];unfold Ta;rw [hd,Ac,hsx]
 rw [hw']
 unfold Kg oc
 rw [hg,Ac,e2]
 simp only [Di,Bn]
 by_cases hc:n>200
 ·rw [Ab (by omega),Ab hc];exact ⟨rfl,rfl⟩
 ·rw [Ak (by omega),Ak hc];exact ⟨rfl,rfl⟩
theorem TK {p:PP} {t:List Int} (hw:Jn p t=true):ab.fn (some (Il p),(some (Fq p t),()),())=some (Ox p t):=Ab ⟨p,t,hw,rfl,rfl⟩
theorem VA (n:Int) (str:ByteArray) (g:List (List Int)) (t s:List Int) (h:Gt (n,str,g,())/\short t/\short s):
  fnMW Sp (look [(110,Hm),(112,ab),(111,Yf)]) Yi Try.f45 (n,str,g,t,s,()) (λ(z:(List Int×Bool×Unit)×Unit)=>z=(((oh (n,str,g,()) t s).1,(oh (n,str,g,()) t s).2.1,()),())):=by
 obtain ⟨p,XS⟩: ∃p:PP,p=(n,str,g,()):=⟨_,rfl⟩
 refine Eq.mp (WX n str g t s _) ?_
 rw [<-XS] at h⊢
 unfold oh
 by_cases hw:Jn p t=true
 ·have he:Hm.fn (p,t,s,())=some (some (Fq p t),(Ni p s).1,(Ni p s).2.1,()):=(Ab h).trans (Cx some (Ab hw))
  rw [hw,bt]
  refine ⟨_,he,?_⟩
  dsimp only
  rw [RR]
  refine Br.of (λhb=>?_) λhb=>?_
  ·rw [Ak (Iy hb)];rfl
  have Rw:s∈Ag p:=by simpa using hb
  obtain ⟨i1,i2,i3⟩:=RQ Rw
  obtain ⟨o1,o2⟩:=Akl hw Rw
  rw [Ab (Cl Rw)]
  obtain ⟨tK,hmv⟩:=Qa.1 hw
  have hdl:=(uo tK hmv).1.1
  have hds:Yf.fn (some (Il p),Ox p t,(Ni p s).1,())=some (Kg p (Ox p t) (Ni p s).1,()):=
   Ab ⟨Il p,rfl,⟨tK,rfl⟩,z0 tK hdl (uo tK hmv).2,i1,by show (Ni p s).1<((Ox p t).length:Int);rw [hdl];exact i2⟩
  have hdi:=TK hw
  generalize Kg p (Ox p t) (Ni p s).1=dd at*
  generalize oc (Ta p (Ox p t) s)=rr at*
  generalize Ox p t=pd at*
  refine ⟨Fq p t,rfl,Fq p t,rfl,pd,hdi,_,hds,?_⟩
  dsimp only
  rw [Dz,o1,o2]
 ·have he:Hm.fn (p,t,s,())=some (none,0,false,()):=(Ab h).trans (Cx some (Ak hw))
  rw [Fa _|>.mp hw,Tk,Ak (by decide)]
  exact ⟨_,he,λ_=>rfl,λhb=>by simp at hb⟩
theorem wI:Ci Try.prog 45 Yi:=
 Ci.ir Rt (Be c9 (Be BI (Ez wG Cb))) mixed Try.func45 (by kernel_rfl) (by kernel_rfl) λx h=>VA x.1 x.2.1 x.2.2.1 x.2.2.2.1 x.2.2.2.2.1 h
theorem oL {g:List (List Int)} {dep:List Int->Int} {ls:List Int} : ∀(n:Nat) (x w:List Int),∃u,(ik g dep ls n x w).1=w++u/\(ik g dep ls n x w).2=Jm g x u
 |0,x,w=>⟨[],by simp [ik],rfl⟩
 |n+1,x,w=>by
  simp only [ik]
  split
  ·rename_i l _
   obtain ⟨u,h1,h2⟩:=oL (g:=g) (dep:=dep) (ls:=ls) n (Af x (Ax g l)) (w++ [l])
   exact ⟨l::u,by rw [h1,Ck];rfl,h2⟩
  ·exact oL n x w
theorem Abo {p:PP} {s:List Int} (h:cQ p s=true):Cs p=true/\Pm p.1.toNat s/\Gn p.1.toNat (p.2.2.1.map some) s:=by
 unfold cQ at h
 rw [Ai,Ai] at h
 obtain ⟨⟨hv,hg⟩,hh⟩:=h
 have hV:=valid hv
 have hn:=hV.n
 have hp:=ZD hV hg
 exact ⟨hv,hp,(bL (by omega) (by omega) (Wo (Zq hV).2.2) hp).1 hh⟩
theorem ZF {p:PP} {s:List Int} (hv:Cs p=true) (h:Gn p.1.toNat (p.2.2.1.map some) s):cQ p s=true:=by
 have hV:=valid hv
 have hn:=hV.n
 have hp:=cn.pm (FB hV) h
 unfold cQ
 rw [hv,NP hV hp,show Hc (Ud p.1 p.2.2.1).2 p.1.toNat 0 s=true from (bL (by omega) (by omega) (Wo (Zq hV).2.2) hp).2 h]
 rfl
end Go.Proofs.Ytkkdpknjohcekaa
