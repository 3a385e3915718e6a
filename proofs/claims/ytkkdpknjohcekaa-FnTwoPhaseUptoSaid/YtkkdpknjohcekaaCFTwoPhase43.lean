/-
  Part 44 of the proof that the statement FnTwoPhase holds.
-/
import Derived.Test.YtkkdpknjohcekaaCFTwoPhase42
namespace Go.Proofs.Ytkkdpknjohcekaa
open Go.RowKit
noncomputable abbrev Sx:Spec:=Hg (.pair tU (.pair tU .unit)) (.pair tU (.pair tU .unit)) true true (λx=>x.1=1/\0<=x.2.1/\x.2.1<=100000) (λx=>(0,x.2.1,()))
noncomputable abbrev eL:MSpec:=mA [none,none] [(false, .Gw tL),(false, .Gw tI)] false [none] [rL] (λx=>(∃v,x.1= [v])/\1<=x.2.1/\x.2.1<=100000) (λx=>((List.replicate x.2.1.toNat (x.1.getD 0 0),()),()))
theorem Ag6 (x y:Int) (P:(Int×Int×Unit)->Prop):(¬(32:Int)<(0:Int)/\ ¬(32:Int)<(0:Int)/\ ¬(32:Int)<(0:Int)/\ ¬(32:Int)<(0:Int)/\ ¬(32:Int)<(0:Int)/\P (IntKind.u64.wrap (IntKind.u64.wrap (IntKind.u64.wrap (x.fdiv ((2:Int)^min (Int.toNat (32:Int)) IntKind.u64.bits)*y.fdiv ((2:Int)^min (Int.toNat (32:Int)) IntKind.u64.bits))+(IntKind.u64.wrap (IntKind.u64.wrap (x.fdiv ((2:Int)^min (Int.toNat (32:Int)) IntKind.u64.bits)*IntKind.u64.wrap (↑(BitVec.ofInt IntKind.u64.bits y&&&BitVec.ofInt IntKind.u64.bits (4294967295:Int)).toNat:Int))+(IntKind.u64.wrap (IntKind.u64.wrap (↑(BitVec.ofInt IntKind.u64.bits x&&&BitVec.ofInt IntKind.u64.bits (4294967295:Int)).toNat:Int)*IntKind.u64.wrap (↑(BitVec.ofInt IntKind.u64.bits y&&&BitVec.ofInt IntKind.u64.bits (4294967295:Int)).toNat:Int))).fdiv ((2:Int)^min (Int.toNat (32:Int)) IntKind.u64.bits))).fdiv ((2:Int)^min (Int.toNat (32:Int)) IntKind.u64.bits))+(IntKind.u64.wrap (IntKind.u64.wrap (↑(BitVec.ofInt IntKind.u64.bits (IntKind.u64.wrap (IntKind.u64.wrap (x.fdiv ((2:Int)^min (Int.toNat (32:Int)) IntKind.u64.bits)*IntKind.u64.wrap (↑(BitVec.ofInt IntKind.u64.bits y&&&BitVec.ofInt IntKind.u64.bits (4294967295:Int)).toNat:Int))+(IntKind.u64.wrap (IntKind.u64.wrap (↑(BitVec.ofInt IntKind.u64.bits x&&&BitVec.ofInt IntKind.u64.bits (4294967295:Int)).toNat:Int)*IntKind.u64.wrap (↑(BitVec.ofInt IntKind.u64.bits y&&&BitVec.ofInt IntKind.u64.bits (4294967295:Int)).toNat:Int))).fdiv ((2:Int)^min (Int.toNat (32:Int)) IntKind.u64.bits)))&&&BitVec.ofInt IntKind.u64.bits (4294967295:Int)).toNat:Int)+IntKind.u64.wrap (IntKind.u64.wrap (↑(BitVec.ofInt IntKind.u64.bits x&&&BitVec.ofInt IntKind.u64.bits (4294967295:Int)).toNat:Int)*y.fdiv ((2:Int)^min (Int.toNat (32:Int)) IntKind.u64.bits)))).fdiv ((2:Int)^min (Int.toNat (32:Int)) IntKind.u64.bits)),IntKind.u64.wrap (x*y),()))=fnW kU (look []) Sx Try.f215 (x,y,()) P:=by kernel_rfl
theorem Alc (x y:Int) (P:(Int×Int×Unit)->Prop):(∃(y3:Int×Int×PUnit),Sx.fn (x,y,())=some y3/\P (y3.1,y3.2.1,()))=fnW kU (look [(215,Sx)]) Sx Try.f199 (x,y,()) P:=by kernel_rfl
theorem Ad0 (xs:List Int) (n:Int) (P:((List Int×Unit)×Unit)->Prop):(Br (decide (n<(0:Int))) False (∃(y3:Int×Int×PUnit),Sx.fn (IntKind.u64.wrap (↑xs.length:Int),IntKind.u64.wrap n,())=some y3/\Br (decide (y3.1>(0:Int))) False (Br (decide (y3.2.1>(9223372036854775807:Int))) False (((0:Int)<=IntKind.i64.wrap y3.2.1/\IntKind.i64.wrap y3.2.1<(↑Dt:Int)+(1:Int))/\IntKind.i64.wrap y3.2.1=IntKind.i64.wrap y3.2.1/\0=0/\(List.replicate (IntKind.i64.wrap y3.2.1).toNat (Int.ofNat (nat_lit 0))).length=(Dw (List.replicate (IntKind.i64.wrap y3.2.1).toNat (Int.ofNat (nat_lit 0))) 0 (List.take (List.replicate (IntKind.i64.wrap y3.2.1).toNat (Int.ofNat (nat_lit 0))).length xs)).length/\Ea (λ(v4:Int×List Int×PUnit) (k5:Int×List Int×PUnit->Prop)=>Br (decide (v4.1<(↑v4.2.1.length:Int))) (((0:Int)<=v4.1/\v4.1<=(↑v4.2.1.length:Int)/\(↑v4.2.1.length:Int)<=(↑v4.2.1.length:Int))/\((0:Int)<=(0:Int)/\(0:Int)<=v4.1/\v4.1<=(↑v4.2.1.length:Int))/\0=0/\v4.2.1.length=(Dw v4.2.1 (0+v4.1.toNat) (List.take ((↑v4.2.1.length:Int).toNat-v4.1.toNat) (List.take (v4.1.toNat-Int.toNat (0:Int)) (List.drop (0+Int.toNat (0:Int)) v4.2.1)))).length/\k5 (IntKind.i64.wrap (v4.1+(↑(min ((↑v4.2.1.length:Int).toNat-v4.1.toNat) (List.take (v4.1.toNat-Int.toNat (0:Int)) (List.drop (0+Int.toNat (0:Int)) v4.2.1)).length):Int)),Dw v4.2.1 (0+v4.1.toNat) (List.take ((↑v4.2.1.length:Int).toNat-v4.1.toNat) (List.take (v4.1.toNat-Int.toNat (0:Int)) (List.drop (0+Int.toNat (0:Int)) v4.2.1))),())) (P ((List.take v4.2.1.length (List.drop 0 v4.2.1),()),()))) ((↑(min (List.replicate (IntKind.i64.wrap y3.2.1).toNat (Int.ofNat (nat_lit 0))).length xs.length):Int),Dw (List.replicate (IntKind.i64.wrap y3.2.1).toNat (Int.ofNat (nat_lit 0))) 0 (List.take (List.replicate (IntKind.i64.wrap y3.2.1).toNat (Int.ofNat (nat_lit 0))).length xs),PUnit.unit)))))=fnMW kU (look [(199,Sx)]) eL Try.f167 (xs,n,()) P:=by kernel_rfl
theorem YF {y:Int} (h0:0<=y) (h:y<4294967296):(((BitVec.ofInt IntKind.u64.bits y)&&&(BitVec.ofInt IntKind.u64.bits 4294967295)).toNat:Int)=y:=by
 obtain ⟨n,rfl⟩:=Bi h0
 show ((((BitVec.ofInt 64 (n:Int))&&&(BitVec.ofInt 64 4294967295)).toNat:Nat):Int)=(n:Int)
 have e1:(BitVec.ofInt 64 (n:Int)).toNat=n:=by rw [BitVec.toNat_ofInt];omega
 have e2:(BitVec.ofInt 64 4294967295).toNat=2^32-1:=by decide
 rw [BitVec.toNat_and,e1,e2,Nat.and_two_pow_sub_one_eq_mod]
 omega
theorem JP {n:Int} (h1:0<=n) (h2:n<18446744073709551616):IntKind.u64.wrap n=n:=by rw [IntKind.wrap_u64];omega
theorem Afc (x y:Int) (h:x=1/\0<=y/\y<=100000):fnW kU (look []) Sx Try.f215 (x,y,()) (λ(z:Int×Int×Unit)=>z=(0,y,())):=by
 obtain ⟨rfl,h1,h2⟩:=h
 have e32:(2:Int)^min (Int.toNat (32:Int)) IntKind.u64.bits=4294967296:=by decide
 have e1:(1:Int).fdiv 4294967296=0:=by decide
 have e0:(0:Int).fdiv 4294967296=0:=by decide
 have ey:y.fdiv 4294967296=0:=by rw [Int.fdiv_eq_ediv_of_nonneg _ (by omega)];omega
 refine Eq.mp (Ag6 1 y _) ⟨by omega,by omega,by omega,by omega,by omega,?_⟩
 rw [e32]
 simp only [e1,ey,e0,YF h1 (show y<4294967296 by omega),YF (show (0:Int)<=1 by omega) (show (1:Int)<4294967296 by omega),YF (show (0:Int)<=0 by omega) (show (0:Int)<4294967296 by omega),Int.zero_mul,Int.mul_zero,Int.one_mul,Int.zero_add,Int.add_zero,
  JP h1 (show y<18446744073709551616 by omega),JP (show (0:Int)<=0 by omega) (show (0:Int)<18446744073709551616 by omega),JP (show (0:Int)<=1 by omega) (show (1:Int)<18446744073709551616 by omega)]
theorem IH:Sound Try.prog 215 Sx:=
 Sound.Hg OY Cc mixed Try.func215 (by kernel_rfl) (by kernel_rfl) λx h=>Afc x.1 x.2.1 h
theorem Akh (x y:Int) (h:x=1/\0<=y/\y<=100000):fnW kU (look [(215,Sx)]) Sx Try.f199 (x,y,()) (λ(z:Int×Int×Unit)=>z=(0,y,())):=
 Eq.mp (Alc x y _) ⟨_,Ab h,rfl⟩
theorem ON:Sound Try.prog 199 Sx:=
 Sound.Hg OY (Ba IH Cc) mixed Try.func199 (by kernel_rfl) (by kernel_rfl) λx h=>Akh x.1 x.2.1 h
theorem qZ {α:Type} (a b:α) {k m j:Nat} (h1:k+j<=m):Dw (List.replicate k a++List.replicate (m-k) b) k (List.replicate j a)=List.replicate (k+j) a++List.replicate (m-(k+j)) b:=by
 unfold Dw
 have e1:(List.replicate k a++List.replicate (m-k) b).take k=List.replicate k a:=List.take_left' (by simp)
 have e2:(List.replicate k a++List.replicate (m-k) b).drop (k+(List.replicate j a).length)=List.replicate (m-(k+j)) b:=by
  rw [Ep,List.drop_append,Ep,List.drop_replicate,List.drop_replicate,show k-(k+j)=0 by omega,show m-k-(k+j-k)=m-(k+j) by omega]
  rfl
 rw [e1,e2,<-List.replicate_append_replicate (n:=k) (m:=j)]
theorem Abc (xs:List Int) (n:Int) (h:(∃v,xs= [v])/\1<=n/\n<=100000):fnMW kU (look [(199,Sx)]) eL Try.f167 (xs,n,()) (λ(z:(List Int×Unit)×Unit)=>z=((List.replicate n.toNat (xs.getD 0 0),()),())):=by
 obtain ⟨⟨v,rfl⟩,h1,h2⟩:=h
 obtain ⟨m,rfl⟩:=Bi (show 0<=n by omega)
 have e1:IntKind.u64.wrap (([v]:List Int).length:Int)=1:=JP (by simp) (by simp)
 have e2:IntKind.u64.wrap (m:Int)=(m:Int):=JP (by omega) (by omega)
 have e3:IntKind.i64.wrap (m:Int)=(m:Int):=Cj (by omega) (by omega)
 have hmul:Sx.fn (IntKind.u64.wrap (([v]:List Int).length:Int),IntKind.u64.wrap (m:Int),())=some (0,(m:Int),()):=by
  rw [e1,e2];exact Ab ⟨rfl,by show (0:Int)<=m;omega,by show (m:Int)<=100000;omega⟩
 refine Eq.mp (Ad0 [v] m _) (Br.dec (λhb=>absurd hb (by omega)) λ_=>⟨_,hmul,Br.dec (λhb=>absurd hb (by show ¬(0:Int)>0;omega)) λ_=>Br.dec (λhb=>absurd hb (by show ¬(m:Int)>9223372036854775807;omega)) λ_=>?_⟩)
 dsimp only
 rw [e3]
 have Aus:Dw (List.replicate (m:Int).toNat (Int.ofNat 0)) 0 (List.take (List.replicate (m:Int).toNat (Int.ofNat 0)).length [v])=List.replicate 1 v++List.replicate (m-1) 0:=by
  rw [Ac,Ep,Nq (by simp;omega)]
  have:=qZ v (0:Int) (k:=0) (m:=m) (j:=1) (by omega)
  simpa using this
 rw [Aus]
 refine ⟨⟨by omega,by show (m:Int)<(4294967296:Int)+1;omega⟩,rfl,rfl,by simp;omega,?_⟩
 refine Ea.mk (λw=> ∃k:Nat,1<=k/\k<=m/\w=((k:Int),List.replicate k v++List.replicate (m-k) 0,())) (λw=>m-w.1.toNat) ⟨1,Aq _,by omega,?_⟩ ?_
 ·have:min (List.replicate (m:Int).toNat (Int.ofNat 0)).length ([v]:List Int).length=1:=by simp;omega
  rw [this]
  first|rfl|skip
 rintro w ⟨k,k1,k2,rfl⟩
 dsimp only
 have hlen:(List.replicate k v++List.replicate (m-k) (0:Int)).length=m:=by simp;omega
 rw [hlen]
 refine Br.dec (λhl=>?_) λhl=>?_
 ·have hl:k<m:=by omega
  obtain ⟨j,hj⟩: ∃j,min (m-k) k=j:=⟨_,rfl⟩
  have ht0:List.take (((k:Int)).toNat-Int.toNat (0:Int)) (List.drop (0+Int.toNat (0:Int)) (List.replicate k v++List.replicate (m-k) (0:Int)))=List.replicate k v:=by
   have e0:Int.toNat (0:Int)=0:=rfl
   rw [e0,Ac,Ed,Nat.sub_zero,Du,List.take_left' (by simp)]
  have ht:List.take ((m:Int).toNat-((k:Int)).toNat) (List.replicate k v)=List.replicate j v:=by
   rw [Ac,Ac,List.take_replicate,hj]
  have Ans:min ((m:Int).toNat-((k:Int)).toNat) (List.replicate k v).length=j:=by rw [Ep,Ac,Ac];exact hj
  rw [ht0,ht,Ans,Ac,Bk,qZ v (0:Int) (by omega)]
  refine ⟨⟨by omega,by omega,by omega⟩,⟨by omega,by omega,by omega⟩,rfl,by simp;omega,⟨k+j,by omega,by omega,?_⟩,?_⟩
  ·rw [Cj (by omega) (by omega)]
   rfl
  ·rw [Cj (by omega) (by omega)]
   omega
 ·have:k=m:=by omega
  subst this
  rw [Nat.sub_self,List.replicate_zero,List.append_nil,Du,Nq (by simp),Ac]
  rfl
theorem BH:Dx Try.prog 167 eL:=
 Dx.mA OY (Ba ON Cc) mixed Try.func167 (by kernel_rfl) (by kernel_rfl) λx h=>Abc x.1 x.2.1 h
def qI (g:List (List Int)) (L:List (List Int)) (x:List Int):List Int:=(Ao g.length).map λl=>((L.idxOf (Ak x (Av g l)):Nat):Int)
theorem bo {g:List (List Int)} {k:Int} {x:List Int} {d:Int} : ∀(ls:List Int) (s:EX) (row:List Int),∃A,(cz g k x d ls s row).1.1=s.1++A
 | [],s,row=>⟨[],by simp [cz]⟩
 |l::ls,s,row=>by
  simp only [cz]
  split
  ·exact bo ls s _
  ·obtain ⟨A,h⟩:=bo (g:=g) (k:=k) (x:=x) (d:=d) ls (s.1++ [Ak x (Av g l)],s.2.1++ [d+1],s.2.2.1++ [k],s.2.2.2++ [l]) (row++ [(s.1.length:Int)])
   exact ⟨_::A,by rw [h,Bo];rfl⟩
theorem MB {L A:List (List Int)} {y:List Int} (h:y∈L):(L++A).idxOf y=L.idxOf y:=by rw [List.idxOf_append,Ab h]
theorem TY {L A:List (List Int)} {y:List Int} (h:y∉L):(L++y::A).idxOf y=L.length:=by
 rw [List.idxOf_append,Ai h,List.idxOf_cons_self];simp
theorem p9 {g:List (List Int)} {k:Int} {x:List Int} {d:Int} : ∀(ls:List Int) (s:EX) (row:List Int) (A:List (List Int)),
  (cz g k x d ls s row).2=row++ls.map λl=>((((cz g k x d ls s row).1.1++A).idxOf (Ak x (Av g l)):Nat):Int)
 | [],s,row,A=>by simp [cz]
 |l::ls,s,row,A=>by
  simp only [cz]
  split
  ·rename_i hm
   obtain ⟨B,hB⟩:=bo (g:=g) (k:=k) (x:=x) (d:=d) ls s (row++ [(s.1.idxOf (Ak x (Av g l)):Int)])
   rw [p9 ls s _ A,Bo,Ca,hB,Bo,MB hm]
   rfl
  ·rename_i hm
   obtain ⟨B,hB⟩:=bo (g:=g) (k:=k) (x:=x) (d:=d) ls (s.1++ [Ak x (Av g l)],s.2.1++ [d+1],s.2.2.1++ [k],s.2.2.2++ [l]) (row++ [(s.1.length:Int)])
   rw [p9 ls _ _ A,Bo,Ca,hB]
   dsimp only
   rw [Bo,Bo,List.singleton_append,Ms,TY hm]
   try rfl
theorem xh {g:List (List Int)} {ls:List Int} : ∀(f k:Nat) (s:EX) (N:List (List Int)),∃A,(dw g ls f k s N).1.1=s.1++A
 |0,k,s,N=>⟨[],by simp [dw]⟩
 |f+1,k,s,N=>by
  simp only [dw]
  split
  ·obtain ⟨A,hA⟩:=bo (g:=g) (k:=(k:Int)) (x:=s.1.getD k []) (d:=s.2.1.getD k 0) ls s []
   obtain ⟨B,hB⟩:=xh (g:=g) (ls:=ls) f (k+1) (cz g (k:Int) (s.1.getD k []) (s.2.1.getD k 0) ls s []).1 (N++ [(cz g (k:Int) (s.1.getD k []) (s.2.1.getD k 0) ls s []).2])
   exact ⟨A++B,by rw [hB,hA,Bo]⟩
  ·exact ⟨[],by simp⟩
theorem xj {g:List (List Int)} : ∀(f k:Nat) (s:EX) (N:List (List Int)),(dw g (Ao g.length) f k s N).1.1.length<=f+k->
  (dw g (Ao g.length) f k s N).2=N++((dw g (Ao g.length) f k s N).1.1.drop k).map (qI g (dw g (Ao g.length) f k s N).1.1)
 |0,k,s,N,h=>by
  simp only [dw] at h⊢
  rw [List.drop_of_length_le (by omega)]
  simp
 |f+1,k,s,N,h=>by
  simp only [dw] at h⊢
  split
  ·rename_i hk
   rw [Ab hk] at h
   obtain ⟨A,hA⟩:=bo (g:=g) (k:=(k:Int)) (x:=s.1.getD k []) (d:=s.2.1.getD k 0) (Ao g.length) s []
   obtain ⟨B,hB⟩:=xh (g:=g) (ls:=Ao g.length) f (k+1) (cz g (k:Int) (s.1.getD k []) (s.2.1.getD k 0) (Ao g.length) s []).1 (N++ [(cz g (k:Int) (s.1.getD k []) (s.2.1.getD k 0) (Ao g.length) s []).2])
   have Su:=p9 (g:=g) (k:=(k:Int)) (x:=s.1.getD k []) (d:=s.2.1.getD k 0) (Ao g.length) s [] B
   rw [<-hB,Ol] at Su
   rw [xj f (k+1) _ _ (by omega),Bo]
   congr 1
   generalize hR:dw g (Ao g.length) f (k+1) _ _=R at*
   have hkR:k<R.1.1.length:=by rw [hB,hA,Ax,Ax];omega
   rw [Hp hkR,Ca,List.singleton_append]
   congr 1
   have e:R.1.1[k]=s.1.getD k []:=by
    rw [<-Ce (d:= []) hkR,hB,hA,Bo,Ju hk]
   rw [Su,e]
   rfl
  ·rename_i hk
   rw [List.drop_of_length_le (by show s.1.length<=k;omega)]
   simp
theorem TI {p:PP} (hw:Cy p=true):(Ga p).2.2.2.2.2.2.1=(Ae p).map (qI p.2.2.1 (Ae p)):=by
 have h1:=(aV hw).1
 have h2:=eS (Dg hw).1
 have h3:=xj (g:=p.2.2.1) 3001 0 ([upto p.1.toNat],[0],[0],[0]) [] (by
  show (Ga p).2.1.length<=3001+0
  rw [h1];omega)
 have h4:(dw p.2.2.1 (Ao p.2.2.1.length) 3001 0 ([upto p.1.toNat],[0],[0],[0]) []).1.1=Ae p:=h1
 rw [h4,Ol,Du] at h3
 exact h3
noncomputable def Gi (p:PP) (i:Nat):List Int:=qI p.2.2.1 (Ae p) ((Ae p).getD i [])
theorem Lc {p:PP} (hw:Cy p=true):lU p.2.2.1 (Ao p.2.2.1.length) (Ae p):=by
 obtain ⟨hv,hb⟩:=Dg hw
 have hV:=valid hv
 have hn:=hV.n
 exact w9 hV (aA hv) (sN hv (by rw [Nf];omega) (λy hy=>by have:=Lo.1 hy;omega) hb)
theorem yq {p:PP} (hw:Cy p=true):ss p.2.2.1 (Ao p.2.2.1.length) (Ae p) (Bc p):=by
 obtain ⟨hv,hb⟩:=Dg hw
 have hn:=(valid hv).n
 exact sN hv (by rw [Nf];omega) (λy hy=>by have:=Lo.1 hy;omega) hb
theorem MU {p:PP} (hw:Cy p=true) {i:Nat} (hi:i<(Ae p).length) {l:Int} (hl:l∈Ao p.2.2.1.length):
  (Ae p).idxOf (Ak ((Ae p).getD i []) (Av p.2.2.1 l))<(Ae p).length/\
  (Ae p).getD ((Ae p).idxOf (Ak ((Ae p).getD i []) (Av p.2.2.1 l))) []=Ak ((Ae p).getD i []) (Av p.2.2.1 l):=by
 have hm:=(Lc hw).next _ (Ny hi) l hl
 have h1:=Ef hm
 exact ⟨h1,by rw [Ce h1];exact Ml h1⟩
theorem ba {p:PP} (hw:Cy p=true):dp (Gi p) (Ae p).length:= λi hi t ht=>by
 obtain ⟨l,hl,rfl⟩:=Be.1 ht
 have:=(MU hw hi hl).1
 omega
theorem BM {p:PP} (hw:Cy p=true) (Q:List Int->Prop) (hQ: ∀x∈Ae p,Q x-> ∀l∈Ao p.2.2.1.length,Q (Ak x (Av p.2.2.1 l))) {x:List Int} (hx:x∈Ae p) (hq:Q x):
  ∀y∈Ae p,Q y:=by
 have hc:=Lc hw
 have hL:=yq hw
 have up: ∀(j:Nat),j<(Ae p).length->Q ((Ae p).getD j [])->Q ((Ae p).getD 0 []):=by
  intro j
  induction j using Nat.strongRecOn with
  |_ j ih=>
   intro hj hqj
   by_cases e:j=0
   ·subst e;exact hqj
   ·obtain ⟨i,l,h1,h2,h3,_⟩:=hL.par j (by omega) hj
    have hi:i<(Ae p).length:=by omega
    obtain ⟨b1,b2⟩:=hc.back _ (Ny hi) l h2
    refine ih i h1 hi ?_
    have:=hQ _ (Ny hj) hqj _ b1
    rwa [h3,b2] at this
 have down:Q ((Ae p).getD 0 [])-> ∀(j:Nat),j<(Ae p).length->Q ((Ae p).getD j []):=by
  intro h0 j
  induction j using Nat.strongRecOn with
  |_ j ih=>
   intro hj
   by_cases e:j=0
   ·subst e;exact h0
   ·obtain ⟨i,l,h1,h2,h3,_⟩:=hL.par j (by omega) hj
    have hi:i<(Ae p).length:=by omega
    rw [h3]
    exact hQ _ (Ny hi) (ih i h1 hi) l h2
 obtain ⟨j,hj,rfl⟩:=Bf.1 hx
 rw [<-Ce (d:= []) hj] at hq
 intro y hy
 obtain ⟨k,hk,rfl⟩:=Bf.1 hy
 rw [<-Ce (d:= []) hk]
 exact down (up j hj hq) k hk
theorem Ae4 {p:PP} (hw:Cy p=true) (S:Nat->Bool) {i0:Nat} (hi0:i0<(Ae p).length) (hS:S i0=true):
  Ke p.2.2.1 (Ao p.2.2.1.length) (Ae p) (λx=>S ((Ae p).idxOf x)=true) (λx=>(pv (Gi p) S (Ae p).length).getD ((Ae p).idxOf x) 0):=by
 have hd:=Agh (S:=S) (ba hw)
 have rH:=(uX hw).nodup
 have hc:=Lc hw
 have ix: ∀ {x:List Int},x∈Ae p->(Ae p).idxOf x<(Ae p).length/\(Ae p).getD ((Ae p).idxOf x) []=x:= λ {x} hx=>by
  have h1:=Ef hx
  exact ⟨h1,by rw [Ce h1];exact Ml h1⟩
 have st: ∀x∈Ae p,0<=(pv (Gi p) S (Ae p).length).getD ((Ae p).idxOf x) 0-> ∀l∈Ao p.2.2.1.length,
   0<=(pv (Gi p) S (Ae p).length).getD ((Ae p).idxOf (Ak x (Av p.2.2.1 l))) 0/\
   (pv (Gi p) S (Ae p).length).getD ((Ae p).idxOf (Ak x (Av p.2.2.1 l))) 0<=(pv (Gi p) S (Ae p).length).getD ((Ae p).idxOf x) 0+1:= λx hx h0 l hl=>by
  obtain ⟨i1,i2⟩:=ix hx
  have:=hd.done _ i1 h0 (by simp) (λh=>h) (((Ae p).idxOf (Ak x (Av p.2.2.1 l)):Nat):Int) (Be.2 ⟨l,hl,by rw [i2]⟩)
  rwa [Ac] at this
 have nn: ∀x∈Ae p,0<=(pv (Gi p) S (Ae p).length).getD ((Ae p).idxOf x) 0:=by
  refine BM hw _ (λx hx h0 l hl=>(st x hx h0 l hl).1) (Ny hi0) ?_
  rw [Ou rH hi0,hd.src i0 hi0 hS]
  exact Ok _
 refine ⟨nn,λx hx=>⟨λh0=>hd.Afp _ (ix hx).1 h0,λhs=>hd.src _ (ix hx).1 hs⟩,λx hx l hl=>(st x hx (nn x hx) l hl).2,λx hx h0=>?_⟩
 obtain ⟨j,j1,j2,j3⟩:=hd.par _ (ix hx).1 h0
 obtain ⟨l,hl,XN⟩:=Be.1 j2
 obtain ⟨n1,n2⟩:=MU hw j1 hl
 have e:(Ae p).idxOf (Ak ((Ae p).getD j []) (Av p.2.2.1 l))=(Ae p).idxOf x:=by omega
 obtain ⟨b1,b2⟩:=hc.back _ (Ny j1) l hl
 rw [e,(ix hx).2] at n2
 refine ⟨-l,b1,?_⟩
 have e5:Ak x (Av p.2.2.1 (-l))=(Ae p).getD j []:=(Dm (λz=>Ak z (Av p.2.2.1 (-l))) n2).trans b2
 rw [e5,Ou rH j1,j3]
noncomputable def GG (e:Option XP) (S:Nat->Bool):List Int:=match e with|some e=>pv (Gi e.1) S (Ae e.1).length|none=> []
abbrev tDs:Ty:= .clo 166 (.pair (.ptr tL) (.pair (.ptr tI) .unit))
noncomputable abbrev yh:Spec:=Hg (.pair tI (.pair (.ptr tL) (.pair (.ptr tI) .unit))) .bool false true (λx=>(0<=x.1/\x.1<List.length x.2.1)/\0<=x.2.2.1/\x.2.2.1<List.length x.2.1) (λx=>decide (Cu x.2.1 x.1<Cu x.2.1 x.2.2.1))
noncomputable abbrev pQ:Spec:=Hg (.pair tL (.pair tDs .unit)) tI false true (λx=>short x.1/\Sd (List.length x.2.1.1) x.1/\0<=x.2.1.2.1/\x.2.1.2.1<List.length x.2.1.1) (λx=>Gr (λy=>decide (Cu x.2.1.1 y<Cu x.2.1.1 x.2.1.2.1)) x.1 0)
def Vj (N:Nat->List Int) (ls d:List Int):Nat->Int->List Int->List Int×Int
 |0,i,w=>(w,i)
 |f+1,i,w=>if 0<Cu d i then Vj N ls d f ((N i.toNat).getD (Gr (λy=>decide (Cu d y<Cu d i)) (N i.toNat) 0).toNat 0) (w++ [ls.getD (Gr (λy=>decide (Cu d y<Cu d i)) (N i.toNat) 0).toNat 0]) else (w,i)
noncomputable def Mq (p:PP) (d:List Int) (i:Int):List Int×Int×Bool×Unit:=
 if Cu d i>200 then ([],0,false,()) else ((Vj (Gi p) (Ao p.2.2.1.length) d (Cu d i).toNat i []).1,(Vj (Gi p) (Ao p.2.2.1.length) d (Cu d i).toNat i []).2,true,())
noncomputable def zM (e:Option XP) (d:List Int) (i:Int):(List Int×Int×Bool×Unit)×Unit:=match e with|some e=>(Mq e.1 d i,())|none=>(([],0,false,()),())
structure KA (p:PP) (d:List Int):Prop where
 len:d.length=(Ae p).length
 nn: ∀i,i<d.length->0<=d.getD i 0
 dn: ∀i,i<d.length->0<d.getD i 0-> ∃t∈Gi p i,d.getD t.toNat 0<d.getD i 0
noncomputable abbrev Yu:MSpec:=mA [none,none,none] [(false, .Gw (.optr gW)),(false, .Gw tL),(false, .Gw tI)] true [none,none,none] [rL, .Gw tI, .Gw .bool]
 (λx=> ∃e':XP,x.1=some e'/\kM e'/\KA e'.1 x.2.1/\0<=x.2.2.1/\x.2.2.1<List.length x.2.1) (λx=>zM x.1 x.2.1 x.2.2.1)
theorem Aq6 (y:Int) (d:List Int) (i:Int) (P:Bool->Prop):(∃(y4:Int),idx d y=some y4/\ ∃(y5:Int),idx d i=some y5/\P (decide (y4<y5)))=fnW Gz (look []) yh Try.f166 (y,d,i,()) P:=by kernel_rfl
theorem Ala (xs:List Int) (c:List Int×Int×Unit) (P:Int->Prop):(Ea (λ(v3:Int×PUnit) (k4:Int×PUnit->Prop)=>Br (decide (v3.1<(↑xs.length:Int))) (∃(y5:Int),idx xs v3.1=some y5/\ ∃(y6:Bool),yh.fn (y5,c.1,c.2.1,())=some y6/\Br y6 (P v3.1) (k4 (IntKind.i64.wrap (v3.1+(1:Int)),()))) (P (-1:Int))) ((0:Int),PUnit.unit))=fnW Gz (look [(166,yh)]) pQ Try.f165 (xs,c,()) P:=by kernel_rfl
abbrev mN:Type:=(Int×ByteArray×List (List Int)×PUnit)×List (List Int)×List Int×(ByteArray->Option Int)×List Int×List Int×List (List Int)×PUnit
theorem WN (e:Option XP) (d:List Int) (i:Int) (P:((List Int×Int×Bool×Unit)×Unit)->Prop):(∃(y4:Int),idx d i=some y4/\Br (decide (y4>(200:Int))) (P ((List.take 0 (List.drop 0 []),(0:Int),false,()),())) (∃(y5:mN),e=some y5/\ ∃(y6:List Int),Iv.fn ((↑y5.1.2.2.1.length:Int),())=some y6/\0=0/\0=([]:List Int).length/\Ea (λ(v7:List Int×Int×List Int×PUnit) (k8:List Int×Int×List Int×PUnit->Prop)=> ∃(y9:Int),idx v7.1 v7.2.1=some y9/\Br (decide (y9>(0:Int))) (∃(aC:mN),e=some aC/\ ∃(Th:List Int),idx aC.2.2.2.2.2.2.1 v7.2.1=some Th/\ ∃(Xp:Int),pQ.fn (Th,(v7.1,v7.2.1,()),())=some Xp/\ ∃(gx:Int),idx y6 Xp=some gx/\0=0/\v7.2.2.1.length=v7.2.2.1.length/\v7.2.2.1.length+(List.take 1 (List.drop 0 [gx])).length<=Dt/\ ∃(Vi:mN),e=some Vi/\ ∃(dO:List Int),idx Vi.2.2.2.2.2.2.1 v7.2.1=some dO/\ ∃(Zf:Int),idx dO Xp=some Zf/\0=0/\(v7.2.2.1++List.take 1 (List.drop 0 [gx])).length=(v7.2.2.1++List.take 1 (List.drop 0 [gx])).length/\k8 (v7.1,Zf,v7.2.2.1++List.take 1 (List.drop 0 [gx]),())) (P ((List.take v7.2.2.1.length (List.drop 0 v7.2.2.1),v7.2.1,true,()),()))) (d,i,[],PUnit.unit)))=fnMW Uk (look [(121,Iv),(165,pQ)]) Yu Try.f111 (e,d,i,()) P:=by kernel_rfl
theorem Amo {e:XP} (h:kM e):e.2.1=Ae e.1:=(Dm (λz:XP=>z.2.1) h.2).trans (aV h.1).1
theorem YY {e:XP} (h:kM e):e.2.2.1=Bc e.1:=(Dm (λz:XP=>z.2.2.1) h.2).trans (aV h.1).2
theorem Ae6 {e:XP} (h:kM e):e.2.2.2.2.2.2.1=(Ae e.1).map (qI e.1.2.2.1 (Ae e.1)):=(Dm (λz:XP=>z.2.2.2.2.2.2.1) h.2).trans (TI h.1)
theorem EO {e:XP} (h:kM e) {i:Nat} (hi:i<(Ae e.1).length):idx e.2.2.2.2.2.2.1 (i:Int)=some (Gi e.1 i):=by
 rw [Ae6 h,Cf (by rw [Ck];exact hi),Td]
 unfold Gi
 rw [Ce hi]
theorem dD (p:PP) (i:Nat):(Gi p i).length=(Ao p.2.2.1.length).length:=by unfold Gi qI;rw [Ck]
theorem jc {p:PP} (hV:Valid p):(Ao p.2.2.1.length).length<=16:=by rw [Ov];have:=hV.gG;omega
def dqp (S:Nat->Bool) (i:Nat):List Int:=((List.range i).filter S).map λ(k:Nat)=>(k:Int)
theorem EF (S:Nat->Bool) (i:Nat):dqp S (i+1)=if S i=true then dqp S i++ [(i:Int)] else dqp S i:=by
 unfold dqp
 rw [Jq,List.filter_append]
 by_cases h:S i=true
 ·rw [Ab h];simp [h]
 ·rw [Ai h];simp [h]
theorem Ae3 (S:Nat->Bool) (i:Nat):(dqp S i).length<=i:=by
 unfold dqp
 rw [Ck]
 exact Iq (List.length_filter_le _ _) (by simp)
theorem Afn {xs:List Int} {i:Nat} {v:Int} {m:Nat} (hl:xs.length=m) (hi:i<m) {f g:Nat->Int} (h: ∀k,k<m->xs.getD k 0=f k) (hg:g i=v) (Ip: ∀k,k≠i->g k=f k): ∀k,k<m->(xs.set i v).getD k 0=g k:= λk hk=>by
 rw [kf (by omega)]
 by_cases e:i=k
 ·subst e;rw [Ab rfl,hg]
 ·rw [Ai e,h k hk,Ip k λe'=>e e'.symm]
theorem UG {xs ys:List Int} (h1:xs.length=ys.length) (h: ∀k,k<xs.length->xs.getD k 0=ys.getD k 0):xs=ys:=
 List.ext_getElem h1 λk h2 h3=>by have:=h k h2;rwa [Ce h2,Ce h3] at this
theorem Aij {xs:List Int} {k:Nat} (h:k<xs.length):xs[0+((k:Nat):Int).toNat]?=some (xs.getD k 0):=by
 rw [Bk,Ac,Ad h,Ce h]
theorem Apn (y:Int) (d:List Int) (i:Int) (h:(0<=y/\y<(List.length d:Int))/\0<=i/\i<(List.length d:Int)):fnW Gz (look []) yh Try.f166 (y,d,i,()) (λ(z:Bool)=>z=decide (Cu d y<Cu d i)):=
 Eq.mp (Aq6 y d i _) ⟨_,Of h.1.1 h.1.2,_,Of h.2.1 h.2.2,rfl⟩
theorem VT:Sound Try.prog 166 yh:=
 Sound.Hg Ff Cc mixed Try.func166 (by kernel_rfl) (by kernel_rfl) λx h=>Apn x.1 x.2.1 x.2.2.1 h
theorem Akf (xs:List Int) (c:List Int×Int×Unit) (h:short xs/\Sd (List.length c.1) xs/\0<=c.2.1/\c.2.1<(List.length c.1:Int)):fnW Gz (look [(166,yh)]) pQ Try.f165 (xs,c,()) (λ(z:Int)=>z=Gr (λy=>decide (Cu c.1 y<Cu c.1 c.2.1)) xs 0):=by
 obtain ⟨h,h5,h6⟩:=h
 unfold short at h
 refine Eq.mp (Ala xs c _) ?_
 refine Cg xs.length (λv=>v.1) (λj _=>Gr (λy=>decide (Cu c.1 y<Cu c.1 c.2.1)) (xs.drop j) j=Gr (λy=>decide (Cu c.1 y<Cu c.1 c.2.1)) xs 0) rfl (by simp) ?_
 rintro j ⟨i,⟨⟩⟩ K hj hi hR hK
 dsimp only at hi⊢
 subst hi
 refine Br.dec (λhl=>?_) λhl=>?_
 ·have hl:j<xs.length:=by omega
  rw [Hp hl] at hR
  simp only [Gr] at hR
  refine ⟨_,Cf hl,_,Ab ⟨h5 _ (Am hl),h6⟩,⟨λhe=>?_,λhe=>?_⟩⟩
  ·have he:decide (Cu c.1 xs[j]<Cu c.1 c.2.1)=true:=he
   rw [Ab he] at hR
   exact hR
  ·have he:decide (Cu c.1 xs[j]<Cu c.1 c.2.1)=false:=he
   rw [Ai (by rw [he];decide)] at hR
   rw [Cb (by omega)]
   exact hK hl _ rfl (by push_cast;exact hR)
 ·have:j=xs.length:=by omega
  subst this
  rw [Zg] at hR
  exact hR
theorem OM:Sound Try.prog 165 pQ:=
 Sound.Hg Ff (Ba VT Cc) mixed Try.func165 (by kernel_rfl) (by kernel_rfl) λx h=>Akf x.1 x.2.1 h
theorem ko {α:Type} {P:α->Bool} : ∀(l:List α) (i:Nat),l.any P=true-> ∃k,∃h:k<l.length,Gr P l (i:Int)=((i+k:Nat):Int)/\P l[k]=true/\ ∀j (h:j<k),P (l[j]'(by omega))=false
 | [],i,h=>by simp at h
 |y::r,i,h=>by
  simp only [Gr]
  by_cases hy:P y=true
  ·rw [Ab hy]
   exact ⟨0,by simp,rfl,hy,λj hj=>absurd hj (Et _)⟩
  ·rw [Ai hy]
   have hr:r.any P=true:=by
    rw [List.any_cons,Ks] at h
    exact h.resolve_left hy
   obtain ⟨k,hk,h1,h2,h3⟩:=ko r (i+1) hr
   refine ⟨k+1,by simpa using hk,?_,h2,λj hj=>?_⟩
   ·rw [show ((i:Int)+1)=((i+1:Nat):Int) by push_cast;rfl,h1]
    congr 1
    omega
   ·cases j with
    |zero=>exact En _|>.mp hy
    |succ j=>exact h3 j (by omega)
theorem QF {p:PP} (hw:Cy p=true) {d:List Int} (h:KA p d) {i:Nat} (hi:i<d.length) (hp:0<d.getD i 0):
  ∃k,∃(h1:k<(Ao p.2.2.1.length).length) (h2:k<(Gi p i).length),Gr (λy=>decide (Cu d y<Cu d (i:Int))) (Gi p i) 0=(k:Int)/\
   ∃t:Nat,(Gi p i)[k]=(t:Int)/\t<d.length/\d.getD t 0<d.getD i 0:=by
 obtain ⟨t,ht,htl⟩:=h.dn i hi hp
 have iY:(Gi p i).any (λy=>decide (Cu d y<Cu d (i:Int)))=true:=Eo.2 ⟨t,ht,Bp htl⟩
 obtain ⟨k,hk,h1,h2,_⟩:=ko (Gi p i) 0 iY
 have hl:=h.len
 obtain ⟨r1,r2⟩:=ba hw i (by omega) _ (Am hk)
 obtain ⟨tn,htn⟩:=Bi r1
 refine ⟨k,by rw [<-dD];exact hk,hk,by rw [Bk] at h1;exact h1,tn,htn,by omega,?_⟩
 have h2:=Ia h2
 unfold Cu at h2
 rw [htn,Ac,Ac] at h2
 exact h2
theorem UT (e:Option XP) (d:List Int) (i:Int) (h: ∃e':XP,e=some e'/\kM e'/\KA e'.1 d/\0<=i/\i<(List.length d:Int)):
  fnMW Uk (look [(121,Iv),(165,pQ)]) Yu Try.f111 (e,d,i,()) (λ(z:(List Int×Int×Bool×Unit)×Unit)=>z=zM e d i):=by
 obtain ⟨e',rfl,hx,hd,h1,h2⟩:=h
 have RI:=Dg hx.1
 have hV:=valid RI.1
 have hf:=hV.gG
 have hdl:=hd.len
 refine Eq.mp (WN _ _ _ _) ⟨_,Of h1 h2,?_⟩
 show Br _ (_=(Mq e'.1 d i,())) _
 unfold zM Mq
 dsimp only
 refine Br.dec (λhb=>by rw [Ab hb];rfl) λhb=>?_
 rw [Ai hb]
 refine ⟨e',rfl,Ao e'.1.2.2.1.length,(Ab ⟨by show (0:Int)<=((e'.1.2.2.1.length:Nat):Int);omega,by show ((e'.1.2.2.1.length:Nat):Int)<=8;omega⟩).trans (Dm some (by show Ao (((e'.1.2.2.1.length:Nat):Int)).toNat=_;rw [Ac])),rfl,rfl,?_⟩
 have hnn: ∀k:Nat,k<d.length->0<=Cu d (k:Int):= λk hk=>by unfold Cu;rw [Ac];exact hd.nn k hk
 obtain ⟨R,hRR⟩: ∃R,Vj (Gi e'.1) (Ao e'.1.2.2.1.length) d (Cu d i).toNat i []=R:=⟨_,rfl⟩
 rw [hRR]
 obtain ⟨i0,rfl⟩:=Bi h1
 refine Ea.mk (λv=> ∃(k:Nat) (w:List Int) (f:Nat),v=(d,(k:Int),w,())/\k<d.length/\Cu d (k:Int)<=f/\w.length+f<=200/\Vj (Gi e'.1) (Ao e'.1.2.2.1.length) d f (k:Int) w=R) (λv=>(Cu d v.2.1).toNat)
  ⟨i0,[],(Cu d (i0:Int)).toNat,rfl,by omega,by omega,by have:=hnn i0 (by omega);simp only [Dv];omega,hRR⟩ ?_
 rintro v ⟨k,w,f,rfl,k1,k2,k3,k4⟩
 dsimp only
 refine ⟨Cu d (k:Int),Of (by omega) (by omega),Br.dec (λhl=>?_) λhl=>?_⟩
 ·have Ll:0<d.getD k 0:=by unfold Cu at hl;rwa [Ac] at hl
  obtain ⟨f,rfl⟩: ∃f',f=f'+1:=⟨f-1,by omega⟩
  obtain ⟨n,n1,n2,n3,t,n4,n5,n6⟩:=QF hx.1 hd k1 Ll
  simp only [Vj] at k4
  rw [Ab hl,Ac,n3,Ac,Ce n2,n4,Ce n1] at k4
  have hnl:(Gi e'.1 k).length<=16:=by rw [dD];exact jc hV
  have Atw:Sd d.length (Gi e'.1 k):= λy hy=>by
   have:=ba hx.1 k (by omega) y hy
   omega
  refine ⟨e',rfl,Gi e'.1 k,EO hx (by omega),(n:Int),(Ab ⟨by show (Gi e'.1 k).length<=4294967296;omega,Atw,by show (0:Int)<=(k:Int);omega,by show (k:Int)<(d.length:Int);omega⟩).trans (Dm some n3),_,Cf n1,rfl,rfl,?_,e',rfl,Gi e'.1 k,EO hx (by omega),(t:Int),by rw [Cf n2,n4],rfl,rfl,?_⟩
  ·show w.length+1<=4294967296;omega
  ·have e6:Cu d (t:Int)<Cu d (k:Int):=by unfold Cu;rw [Ac,Ac];exact n6
   have h0:=hnn t n5
   refine ⟨⟨t,w++ [(Ao e'.1.2.2.1.length)[n]],f,rfl,n5,by omega,by rw [Ax,Bn];omega,k4⟩,?_⟩
   show (Cu d (t:Int)).toNat<(Cu d (k:Int)).toNat
   omega
 ·rw [Dd]
  have:Vj (Gi e'.1) (Ao e'.1.2.2.1.length) d f (k:Int) w=(w,(k:Int)):=by
   cases f with
   |zero=>rfl
   |succ f=>simp only [Vj];rw [Ai (by omega)]
  rw [this] at k4
  subst k4
  rfl
theorem wD:Dx Try.prog 111 Yu:=
 Dx.mA Sn (Ba Uj (Ba OM Cc)) mixed Try.func111 (by kernel_rfl) (by kernel_rfl) λx h=>UT x.1 x.2.1 x.2.2.1 h
theorem Zw {p:PP} (hv:Cd p=true):(Ae p).getD 0 []=upto p.1.toNat/\upto p.1.toNat∈Ae p:=by
 obtain ⟨A,h⟩:=(Wy hv).first
 have h:Ae p=upto p.1.toNat::A:=h
 rw [h]
 exact ⟨rfl,by simp⟩
theorem Ke.congr {g:List (List Int)} {ls:List Int} {L:List (List Int)} {S S':List Int->Prop} {d:List Int->Int} (h:Ke g ls L S d) (e: ∀x∈L,S x↔S' x):Ke g ls L S' d:=
 ⟨h.nn,λx hx=>(h.zero x hx).trans (e x hx),h.step,h.down⟩
theorem yY {p:PP} (hw:Cy p=true) {S:List Int->Prop} {d:List Int} (hl:d.length=(Ae p).length) (h:Ke p.2.2.1 (Ao p.2.2.1.length) (Ae p) S (λx=>d.getD ((Ae p).idxOf x) 0)):KA p d:=by
 have rH:=(uX hw).nodup
 refine ⟨hl,λi hi=>?_,λi hi h0=>?_⟩
 ·have:=h.nn _ (Ny (show i<(Ae p).length by omega))
  rwa [Ou rH (by omega)] at this
 ·have cM:i<(Ae p).length:=by omega
  obtain ⟨l,h1,h2⟩:=h.down _ (Ny cM) (by rw [Ou rH cM];exact h0)
  rw [Ou rH cM] at h2
  refine ⟨_,Be.2 ⟨l,h1,rfl⟩,?_⟩
  rw [Ac,h2]
  omega
def gh (g:List (List Int)) (dep:List Int->Int) (ls:List Int):Nat->List Int->List Int->List Int×List Int
 |0,x,w=>(w,x)
 |n+1,x,w=>match ls.find? (λl=>decide (dep (Ak x (Av g l))=n)) with
  |some l=>gh g dep ls n (Ak x (Av g l)) (w++ [l])
  |none=>gh g dep ls n x w
theorem QK {α:Type} {P:α->Bool} : ∀(l:List α) (k:Nat) (h:k<l.length),P l[k]=true->(∀j (hj:j<k),P (l[j]'(by omega))=false)->l.find? P=some l[k]
 | [],k,h,_,_=>by simp at h
 |y::r,0,_,h1,_=>by rw [List.find?_cons_of_pos (show P y=true from h1)];rfl
 |y::r,k+1,h,h1,h2=>by
  rw [List.find?_cons_of_neg (by have:=h2 0 (by omega);simp at this;simp [this])]
  exact QK r k (by simpa using h) h1 λj hj=>h2 (j+1) (by omega)
theorem z6 {p:PP} (hw:Cy p=true) {S:List Int->Prop} {d:List Int} (hdn:KA p d) (hd:Ke p.2.2.1 (Ao p.2.2.1.length) (Ae p) S (λx=>d.getD ((Ae p).idxOf x) 0))
  {see:List Int->List Int} {dep:List Int->Int} (hs: ∀x∈Ae p,∀l∈Ao p.2.2.1.length,see (Ak x (Av p.2.2.1 l))=Ak (see x) (Av p.2.2.1 l))
  (he: ∀x∈Ae p,d.getD ((Ae p).idxOf x) 0=dep (see x)):
  ∀(n i:Nat) (w:List Int),i<(Ae p).length->d.getD i 0=n->
   (Vj (Gi p) (Ao p.2.2.1.length) d n (i:Int) w).1=(gh p.2.2.1 dep (Ao p.2.2.1.length) n (see ((Ae p).getD i [])) w).1/\
   (Vj (Gi p) (Ao p.2.2.1.length) d n (i:Int) w).1.length=w.length+n/\
   ∃j:Nat,(Vj (Gi p) (Ao p.2.2.1.length) d n (i:Int) w).2=(j:Int)/\j<(Ae p).length/\d.getD j 0=0/\see ((Ae p).getD j [])=(gh p.2.2.1 dep (Ao p.2.2.1.length) n (see ((Ae p).getD i [])) w).2
 |0,i,w,hi,e=>⟨rfl,rfl,i,rfl,hi,e,rfl⟩
 |n+1,i,w,hi,e=>by
  have rH:=(uX hw).nodup
  have hl:=hdn.len
  have vW:0<d.getD i 0:=by omega
  have hg:Cu d (i:Int)=d.getD i 0:=by unfold Cu;rw [Ac]
  obtain ⟨t0,ht0,htl⟩:=hdn.dn i (by omega) vW
  have iY:(Gi p i).any (λy=>decide (Cu d y<Cu d (i:Int)))=true:=Eo.2 ⟨t0,ht0,Bp htl⟩
  obtain ⟨k,hk,k1,k2,k3⟩:=ko (Gi p i) 0 iY
  have k1:Gr (λy=>decide (Cu d y<Cu d (i:Int))) (Gi p i) 0=(k:Int):=by rw [Bk] at k1;exact k1
  have Nn:k<(Ao p.2.2.1.length).length:=by rw [<-dD p i];exact hk
  have hx:=Ny (L:=Ae p) hi
  have hat: ∀j (hj:j<(Ao p.2.2.1.length).length),∃h2:j<(Gi p i).length,(Gi p i)[j]=(((Ae p).idxOf (Ak ((Ae p).getD i []) (Av p.2.2.1 (Ao p.2.2.1.length)[j])):Nat):Int):= λj hj=>
   ⟨by rw [dD];exact hj,by simp only [Gi,qI,Td]⟩
  have vZ: ∀j (hj:j<(Ao p.2.2.1.length).length) (h2:j<(Gi p i).length),decide (Cu d (Gi p i)[j]<Cu d (i:Int))=decide (dep (Ak (see ((Ae p).getD i [])) (Av p.2.2.1 (Ao p.2.2.1.length)[j]))=n):= λj hj h2=>by
   obtain ⟨_,h3⟩:=hat j hj
   have JW:=Am hj
   have h4:=hd.MR (Lc hw) hx JW
   rw [Ou rH hi] at h4
   have h5:=he _ ((Lc hw).next _ hx _ JW)
   rw [hs _ hx _ JW] at h5
   rw [h3,hg,<-h5]
   unfold Cu
   rw [Ac,Bool.eq_iff_iff,Jj,Jj]
   omega
  have xr:(Ao p.2.2.1.length).find? (λl=>decide (dep (Ak (see ((Ae p).getD i [])) (Av p.2.2.1 l))=n))=some (Ao p.2.2.1.length)[k]:=by
   refine QK _ k Nn ?_ λj hj=>?_
   ·rw [<-vZ k Nn hk];exact k2
   ·rw [<-vZ j (by omega) (by omega)];exact k3 j hj
  obtain ⟨_,tw⟩:=hat k Nn
  have JW:=Am Nn
  obtain ⟨n1,n2⟩:=MU hw hi JW
  have kP:Cu d (i:Int)>0:=by rw [hg];exact vW
  simp only [Vj,gh]
  rw [Ab kP,Ac,k1,Ac,Ce hk,tw,Ce Nn,xr]
  dsimp only
  have hdk:d.getD ((Ae p).idxOf (Ak ((Ae p).getD i []) (Av p.2.2.1 (Ao p.2.2.1.length)[k]))) 0=n:=by
   have h6:=Ia ((vZ k Nn hk).symm.trans k2)
   rw [he _ ((Lc hw).next _ hx _ JW),hs _ hx _ JW]
   exact h6
  obtain ⟨r1,r2,r3⟩:=z6 hw hdn hd hs he n _ (w++ [(Ao p.2.2.1.length)[k]]) n1 hdk
  rw [n2,hs _ hx _ JW] at r1 r3
  refine ⟨r1,?_,r3⟩
  rw [r2,Ax,Bn]
  omega
noncomputable abbrev bt:Spec:=Hg (.pair Xf (.pair tL .unit)) tI false true (λx=>Gg (List.length x.2.1) x.1.1 x.1.2.2.1/\List.length x.1.2.1=List.length x.1.1) (λx=>Hm x.1.1 x.1.2.1 x.2.1)
def xL (w:List Int):List Int×Bool×Unit:=if w.length>200 then ([],false,()) else (w,true,())
theorem WM (f:List (List Int)×List Int×List Int×Bool×Unit) (s:List Int) (P:Int->Prop):(∃(y3:Int),Nc.fn ((f.1,f.2.1,f.2.2.1,f.2.2.2.1,()),s,())=some y3/\Br (decide (y3<(0:Int))) (P (-1:Int)) (∃(y4:Int),idx f.2.1 y3=some y4/\P y4))=fnW Gz (look [(134,Nc)]) bt Try.f102 (f,s,()) P:=by kernel_rfl
theorem US (f:SS) (s:List Int) (h:Gg (List.length s) f.1 f.2.2.1/\List.length f.2.1=List.length f.1):fnW Gz (look [(134,Nc)]) bt Try.f102 (f,s,()) (λ(z:Int)=>z=Hm f.1 f.2.1 s):=by
 obtain ⟨h1,h2⟩:=h
 refine Eq.mp (WM f s _) ⟨_,Ab h1,?_⟩
 show Br (decide (cS f.1 s<0)) _ _
 unfold cS Hm
 by_cases hm:s∈f.1
 ·have hl:=Ef hm
  rw [Ab hm,Ab hm]
  refine Br.dec (λhn=>absurd hn (by omega)) λ_=>?_
  have nS:List.idxOf s f.1<f.2.1.length:=by omega
  refine ⟨f.2.1[List.idxOf s f.1],?_,by rw [Ce nS]⟩
  show idx f.2.1 (if s∈f.1 then ((List.idxOf s f.1:Nat):Int) else-1)=_
  rw [Ab hm]
  exact Cf nS
 ·rw [Ai hm,Ai hm]
  exact ⟨λ_=>rfl,λhn=>by simp at hn⟩
theorem wC:Sound Try.prog 102 bt:=
 Sound.Hg Ff (Ba bf Cc) mixed Try.func102 (by kernel_rfl) (by kernel_rfl) λx h=>US x.1 x.2.1 h
def c9 (ls N d:List Int) (i:Int):List Int×List Int:=(((ls.zip N).filter (λq=>decide (Cu d q.2<Cu d i))).map Prod.fst,((ls.zip N).filter (λq=>decide (Cu d q.2<Cu d i))).map Prod.snd)
noncomputable def RQ (e:Option XP) (i:Int):(List Int×List Int×Unit)×Unit:=match e with|some e=>(((c9 (Ao e.1.2.2.1.length) (Gi e.1 i.toNat) (Bc e.1) i).1,(c9 (Ao e.1.2.2.1.length) (Gi e.1 i.toNat) (Bc e.1) i).2,()),())|none=>(([],[],()),())
noncomputable abbrev ah:MSpec:=mA [none,none] [(false, .Gw (.optr gW)),(false, .Gw tI)] true [none,none] [rL,rL]
 (λx=> ∃e':XP,x.1=some e'/\kM e'/\0<=x.2.1/\x.2.1<(Ae e'.1).length) (λx=>RQ x.1 x.2.1)
noncomputable def Yo (p:PP) (i:Int):List Int×Bool×Unit:=((Mq p (Bc p) i).1,(Mq p (Bc p) i).2.2.1,())
noncomputable def Aar (e:Option XP) (i:Int):(List Int×Bool×Unit)×Unit:=match e with|some e=>(Yo e.1 i,())|none=>(([],false,()),())
noncomputable abbrev jA:MSpec:=mA [none,none] [(false, .Gw (.optr gW)),(false, .Gw tI)] true [none,none] [rL, .Gw .bool]
 (λx=> ∃e':XP,x.1=some e'/\kM e'/\0<=x.2.1/\x.2.1<(Ae e'.1).length) (λx=>Aar x.1 x.2.1)
def Yp (t:List Int) (l:Int):Int:=if l>0 then Cu t (l-1)+1 else-(Cu t (-l-1)+1)
noncomputable def fG (p:PP) (t s:List Int):List Int×Bool×Unit:=if s∈Ae (Bl p t) then ((Yo (Bl p t) (Gs (Bl p t) s).1).1.map (Yp t),(Yo (Bl p t) (Gs (Bl p t) s).1).2.1,()) else ([],false,())
noncomputable def GH (h:Option HP) (i:Int):(List Int×Bool×Unit)×Unit:=match h with
 |some (some e,t,_)=>(fG e.1 t ((Ae e.1).getD i.toNat []),())
 |_=>(([],false,()),())
noncomputable abbrev Uw:MSpec:=mA [none,none] [(false, .Gw (.optr di)),(false, .Gw tI)] true [none,none] [rL, .Gw .bool]
 (λx=> ∃p t,Kx p t=true/\x.1=some (Dy p t)/\0<=x.2.1/\x.2.1<(Ae p).length) (λx=>GH x.1 x.2.1)
noncomputable def jf (p:PP) (s:List Int):List Int:=(gh p.2.2.1 (Hm (Ae p) (Bc p)) (Ao p.2.2.1.length) (Hm (Ae p) (Bc p) s).toNat s []).1
noncomputable def Lm (p:PP) (t s:List Int):List Int:=(jf (Bl p t) s).map (Yp t)
abbrev kH:Type:=(Int×ByteArray×List (List Int)×PUnit)×List (List Int)×List Int×(ByteArray->Option Int)×List Int×List Int×List (List Int)×PUnit
theorem Acu (e:Option XP) (i:Int) (P:((List Int×List Int×Unit)×Unit)->Prop):(∃(y3:kH),e=some y3/\ ∃(y4:List Int),Iv.fn ((↑y3.1.2.2.1.length:Int),())=some y4/\ ∃(y5:kH),e=some y5/\ ∃(y6:List Int),idx y5.2.2.2.2.2.2.1 i=some y6/\0=0/\0=([]:List Int).length/\0=0/\0=([]:List Int).length/\Ea (λ(v7:Int×List Int×List Int×PUnit) (k8:Int×List Int×List Int×PUnit->Prop)=>Br (decide (v7.1<(↑y6.length:Int))) (∃(y9:Int),idx y6 v7.1=some y9/\ ∃(aC:kH),e=some aC/\ ∃(Th:Int),idx aC.2.2.1 y9=some Th/\ ∃(Xp:kH),e=some Xp/\ ∃(gx:Int),idx Xp.2.2.1 i=some gx/\Br (decide (Th<gx)) (∃(Vi:Int),idx y4 v7.1=some Vi/\0=0/\v7.2.1.length=v7.2.1.length/\v7.2.1.length+(List.take 1 (List.drop 0 [Vi])).length<=Dt/\0=0/\v7.2.2.1.length=v7.2.2.1.length/\v7.2.2.1.length+(List.take 1 (List.drop 0 [y9])).length<=Dt/\0=0/\(v7.2.1++List.take 1 (List.drop 0 [Vi])).length=(v7.2.1++List.take 1 (List.drop 0 [Vi])).length/\0=0/\(v7.2.2.1++List.take 1 (List.drop 0 [y9])).length=(v7.2.2.1++List.take 1 (List.drop 0 [y9])).length/\k8 (IntKind.i64.wrap (v7.1+(1:Int)),v7.2.1++List.take 1 (List.drop 0 [Vi]),v7.2.2.1++List.take 1 (List.drop 0 [y9]),())) (0=0/\v7.2.1.length=v7.2.1.length/\0=0/\v7.2.2.1.length=v7.2.2.1.length/\k8 (IntKind.i64.wrap (v7.1+(1:Int)),v7.2.1,v7.2.2.1,()))) (P ((List.take v7.2.1.length (List.drop 0 v7.2.1),List.take v7.2.2.1.length (List.drop 0 v7.2.2.1),()),()))) ((0:Int),[],[],PUnit.unit))=fnMW Uk (look [(121,Iv)]) ah Try.f200 (e,i,()) P:=by kernel_rfl
abbrev SM:Type:=(Int×ByteArray×List (List Int)×PUnit)×List (List Int)×List Int×(ByteArray->Option Int)×List Int×List Int×List (List Int)×PUnit
theorem Ald (e:Option XP) (i:Int) (P:((List Int×Bool×Unit)×Unit)->Prop):(∃(y3:SM),e=some y3/\ ∃(y4:Int),idx y3.2.2.1 i=some y4/\Br (decide (y4>(200:Int))) (P ((List.take 0 (List.drop 0 []),false,()),())) (0=0/\0=([]:List Int).length/\Ea (λ(v5:Int×List Int×PUnit) (k6:Int×List Int×PUnit->Prop)=> ∃(y7:SM),e=some y7/\ ∃(y8:Int),idx y7.2.2.1 v5.1=some y8/\Br (decide (y8>(0:Int))) (∃(y9:(List Int×List Int×PUnit)×PUnit),ah.fn (e,v5.1,())=some y9/\((0:Int)<=(0:Int)/\(0:Int)<(↑y9.1.1.length:Int))/\ ∃(aC:Int),y9.1.1[0+Int.toNat (0:Int)]?=some aC/\0=0/\v5.2.1.length=v5.2.1.length/\v5.2.1.length+(List.take 1 (List.drop 0 [aC])).length<=Dt/\((0:Int)<=(0:Int)/\(0:Int)<(↑y9.1.2.1.length:Int))/\ ∃(Th:Int),y9.1.2.1[0+Int.toNat (0:Int)]?=some Th/\0=0/\(v5.2.1++List.take 1 (List.drop 0 [aC])).length=(v5.2.1++List.take 1 (List.drop 0 [aC])).length/\k6 (Th,v5.2.1++List.take 1 (List.drop 0 [aC]),())) (P ((List.take v5.2.1.length (List.drop 0 v5.2.1),true,()),()))) (i,[],PUnit.unit)))=fnMW Uk (look [(200,ah)]) jA Try.f168 (e,i,()) P:=by kernel_rfl
abbrev jP:Type:=Option ((Int×ByteArray×List (List Int)×PUnit)×List (List Int)×List Int×(ByteArray->Option Int)×List Int×List Int×List (List Int)×PUnit)×List Int×Option ((Int×ByteArray×List (List Int)×PUnit)×List (List Int)×List Int×(ByteArray->Option Int)×List Int×List Int×List (List Int)×PUnit)×PUnit
theorem Ag9 (h:Option HP) (i:Int) (P:((List Int×Bool×Unit)×Unit)->Prop):(∃(y3:jP),h=some y3/\ ∃(y4:jP),h=some y4/\ ∃(y5:(Int×ByteArray×List (List Int)×PUnit)×List (List Int)×List Int×(ByteArray->Option Int)×List Int×List Int×List (List Int)×PUnit),y4.1=some y5/\ ∃(y6:List Int),idx y5.2.1 i=some y6/\ ∃(y7:Int×Bool×PUnit),Sl.fn (y3.2.2.1,y6,())=some y7/\Br (!y7.2.1) (P ((List.take 0 (List.drop 0 []),false,()),())) (∃(y8:jP),h=some y8/\ ∃(y9:(List Int×Bool×PUnit)×PUnit),jA.fn (y8.2.2.1,y7.1,())=some y9/\Br (!y9.1.2.1) (P ((List.take 0 (List.drop 0 []),false,()),())) (0=0/\y9.1.1.length=y9.1.1.length/\0=0/\y9.1.1.length=y9.1.1.length/\Ea (λ(v10:Int×List Int×PUnit) (k11:Int×List Int×PUnit->Prop)=>Br (decide (v10.1<(↑y9.1.1.length:Int))) (((0:Int)<=v10.1/\v10.1<(↑v10.2.1.length:Int))/\ ∃(Xp:Int),v10.2.1[0+v10.1.toNat]?=some Xp/\Br (decide (Xp>(0:Int))) (∃(gx:jP),h=some gx/\ ∃(Vi:Int),idx gx.2.1 (IntKind.i64.wrap (Xp-(1:Int)))=some Vi/\((0:Int)<=v10.1/\v10.1<(↑v10.2.1.length:Int))/\0+v10.1.toNat<v10.2.1.length/\0=0/\v10.2.1.length=(v10.2.1.set (0+v10.1.toNat) (IntKind.i64.wrap (Vi+(1:Int)))).length/\0=0/\v10.2.1.length=(v10.2.1.set (0+v10.1.toNat) (IntKind.i64.wrap (Vi+(1:Int)))).length/\k11 (IntKind.i64.wrap (v10.1+(1:Int)),v10.2.1.set (0+v10.1.toNat) (IntKind.i64.wrap (Vi+(1:Int))),())) (∃(gx:jP),h=some gx/\ ∃(Vi:Int),idx gx.2.1 (IntKind.i64.wrap (IntKind.i64.wrap ((0:Int)-Xp)-(1:Int)))=some Vi/\((0:Int)<=v10.1/\v10.1<(↑v10.2.1.length:Int))/\0+v10.1.toNat<v10.2.1.length/\0=0/\v10.2.1.length=(v10.2.1.set (0+v10.1.toNat) (IntKind.i64.wrap ((0:Int)-IntKind.i64.wrap (Vi+(1:Int))))).length/\0=0/\v10.2.1.length=(v10.2.1.set (0+v10.1.toNat) (IntKind.i64.wrap ((0:Int)-IntKind.i64.wrap (Vi+(1:Int))))).length/\k11 (IntKind.i64.wrap (v10.1+(1:Int)),v10.2.1.set (0+v10.1.toNat) (IntKind.i64.wrap ((0:Int)-IntKind.i64.wrap (Vi+(1:Int)))),()))) (P ((List.take v10.2.1.length (List.drop 0 v10.2.1),true,()),()))) ((0:Int),y9.1.1,PUnit.unit))))=fnMW Uk (look [(135,Sl),(168,jA)]) Uw Try.f114 (h,i,()) P:=by kernel_rfl
theorem Uc {p:PP} (hw:Cy p=true):Ke p.2.2.1 (Ao p.2.2.1.length) (Ae p) (λx=>x=(Ae p).getD 0 []) (Hm (Ae p) (Bc p)):=
 FY (valid (Dg hw).1) (aA (Dg hw).1) (yq hw)
theorem du {p:PP} {x:List Int} (hx:x∈Ae p):(Bc p).getD ((Ae p).idxOf x) 0=Hm (Ae p) (Bc p) x:=by unfold Hm;rw [Ab hx]
theorem me {p:PP} (hw:Cy p=true):Ke p.2.2.1 (Ao p.2.2.1.length) (Ae p) (λx=>x=(Ae p).getD 0 []) (λx=>(Bc p).getD ((Ae p).idxOf x) 0):=by
 have h:=Uc hw
 have hc:=Lc hw
 exact ⟨λx hx=>by rw [du hx];exact h.nn x hx,λx hx=>by rw [du hx];exact h.zero x hx,λx hx l hl=>by rw [du hx,du (hc.next x hx l hl)];exact h.step x hx l hl,
  fun x hx h0=>by
   rw [du hx] at h0⊢
   obtain ⟨l,hl,e⟩:=h.down x hx h0
   exact ⟨l,hl,by rw [du (hc.next x hx l hl)];exact e⟩⟩
theorem bM {p:PP} (hw:Cy p=true):(Bc p).length=(Ae p).length:=(aA (Dg hw).1).len
theorem yX {p:PP} (hw:Cy p=true):KA p (Bc p):=yY hw (bM hw) (me hw)
theorem Adb {α β:Type} (P:α×β->Bool) (xs:List α) (ys:List β) {j:Nat} (h1:j<xs.length) (h2:j<ys.length):((xs.zip ys).take (j+1)).filter P=if P (xs[j],ys[j])=true then ((xs.zip ys).take j).filter P++ [(xs[j],ys[j])] else ((xs.zip ys).take j).filter P:=by
 have hz:j<(xs.zip ys).length:=by rw [List.length_zip];omega
 rw [Kc,Ad hz,Tx,List.filter_append,List.getElem_zip]
 by_cases h:P (xs[j],ys[j])=true
 ·rw [Ab h,List.filter_cons_of_pos h];rfl
 ·rw [Ai h,List.filter_cons_of_neg h];simp
theorem Ab6 (e:Option XP) (i:Int) (h: ∃e':XP,e=some e'/\kM e'/\0<=i/\i<(Ae e'.1).length):fnMW Uk (look [(121,Iv)]) ah Try.f200 (e,i,()) (λ(z:(List Int×List Int×Unit)×Unit)=>z=RQ e i):=by
 obtain ⟨e',rfl,hx,h1,h2⟩:=h
 obtain ⟨i0,rfl⟩:=Bi h1
 have hi0:i0<(Ae e'.1).length:=by omega
 have RI:=Dg hx.1
 have hV:=valid RI.1
 have hf:=hV.gG
 have hdl:=bM hx.1
 have LO:=YY hx
 obtain ⟨ls,rG⟩: ∃ls,Ao e'.1.2.2.1.length=ls:=⟨_,rfl⟩
 have hlf:=jc hV
 obtain ⟨N,hN⟩: ∃N,Gi e'.1 i0=N:=⟨_,rfl⟩
 have hNl:N.length=ls.length:=by rw [<-hN,<-rG,dD]
 have hNr: ∀t∈N,0<=t/\t<(Bc e'.1).length:= λt ht=>by have:=ba hx.1 i0 hi0 t (by rw [hN];exact ht);omega
 show fnMW _ _ ah _ _ (λz=>z=(((c9 (Ao e'.1.2.2.1.length) (Gi e'.1 ((i0:Nat):Int).toNat) (Bc e'.1) (i0:Int)).1,(c9 (Ao e'.1.2.2.1.length) (Gi e'.1 ((i0:Nat):Int).toNat) (Bc e'.1) (i0:Int)).2,()),()))
 rw [Ac,rG,hN]
 rw [rG] at hlf
 refine Eq.mp (Acu _ _ _) ⟨e',rfl,ls,(Ab ⟨by show (0:Int)<=((e'.1.2.2.1.length:Nat):Int);omega,by show ((e'.1.2.2.1.length:Nat):Int)<=8;omega⟩).trans (Dm some (by show Ao (((e'.1.2.2.1.length:Nat):Int)).toNat=_;rw [Ac];exact rG)),e',rfl,N,by rw [<-hN];exact EO hx hi0,rfl,rfl,rfl,rfl,?_⟩
 refine Cg N.length (λv=>v.1) (λj v=>v.2.1=(((ls.zip N).take j).filter (λq=>decide (Cu (Bc e'.1) q.2<Cu (Bc e'.1) (i0:Int)))).map Prod.fst/\v.2.2.1=(((ls.zip N).take j).filter (λq=>decide (Cu (Bc e'.1) q.2<Cu (Bc e'.1) (i0:Int)))).map Prod.snd/\v.2.1.length<=j/\v.2.2.1.length<=j) rfl ⟨rfl,rfl,Aq _,Aq _⟩ ?_
 rintro j ⟨jj,a,b,⟨⟩⟩ K hj mT ⟨r1,r2,r3,r4⟩ hK
 dsimp only at mT r1 r2 r3 r4⊢
 subst mT
 refine Br.dec (λhl=>?_) λhl=>?_
 ·have hl:j<N.length:=by omega
  have hjl:j<ls.length:=by omega
  have ht:=hNr _ (Am hl)
  have hzt:=Adb (λq=>decide (Cu (Bc e'.1) q.2<Cu (Bc e'.1) (i0:Int))) ls N hjl hl
  refine ⟨_,Cf hl,e',rfl,_,by rw [LO];exact Of ht.1 ht.2,e',rfl,_,by rw [LO];exact Of (y:=(i0:Int)) (by omega) (by omega),Br.dec (λhb=>?_) λhb=>?_⟩
  ·rw [Ab (Bp hb)] at hzt
   refine ⟨_,Cf hjl,rfl,rfl,?_,rfl,rfl,?_,rfl,rfl,rfl,rfl,?_⟩
   ·show a.length+1<=4294967296;omega
   ·show b.length+1<=4294967296;omega
   ·rw [Cb (by omega)]
    refine hK hl _ rfl ⟨?_,?_,?_,?_⟩
    ·show a++ [ls[j]]=_
     rw [hzt,Ir,r1];rfl
    ·show b++ [N[j]]=_
     rw [hzt,Ir,r2];rfl
    ·show (a++ [ls[j]]).length<=j+1
     rw [Ax,Bn];omega
    ·show (b++ [N[j]]).length<=j+1
     rw [Ax,Bn];omega
  ·rw [Ai (by simpa using hb)] at hzt
   refine ⟨rfl,rfl,rfl,rfl,?_⟩
   rw [Cb (by omega)]
   refine hK hl _ rfl ⟨?_,?_,by show a.length<=j+1;omega,by show b.length<=j+1;omega⟩
   ·rw [hzt];exact r1
   ·rw [hzt];exact r2
 ·have:j=N.length:=by omega
  subst this
  rw [Nq (by rw [List.length_zip];omega)] at r1 r2
  rw [Dd,Dd,r1,r2]
  rfl
theorem BC:Dx Try.prog 200 ah:=
 Dx.mA Sn (Ba Uj Cc) mixed Try.func200 (by kernel_rfl) (by kernel_rfl) λx h=>Ab6 x.1 x.2.1 h
theorem nJ {α:Type} {P:α->Bool} : ∀(l:List α) (k:Nat) (h:k<l.length),P l[k]=true->(∀j (hj:j<k),P (l[j]'(by omega))=false)-> ∃r,l.filter P=l[k]::r
 | [],k,h,_,_=>by simp at h
 |y::r,0,_,h1,_=>⟨_,List.filter_cons_of_pos (show P y=true from h1)⟩
 |y::r,k+1,h,h1,h2=>by
  rw [List.filter_cons_of_neg (by have:=h2 0 (by omega);simp at this;simp [this])]
  exact nJ r k (by simpa using h) h1 λj hj=>h2 (j+1) (by omega)
theorem Aki (e:Option XP) (i:Int) (h: ∃e':XP,e=some e'/\kM e'/\0<=i/\i<(Ae e'.1).length):fnMW Uk (look [(200,ah)]) jA Try.f168 (e,i,()) (λ(z:(List Int×Bool×Unit)×Unit)=>z=Aar e i):=by
 obtain ⟨e',rfl,hx,h1,h2⟩:=h
 have RI:=Dg hx.1
 have hV:=valid RI.1
 have hdl:=bM hx.1
 have LO:=YY hx
 have hd:=yX hx.1
 show fnMW _ _ jA _ _ (λz=>z=(Yo e'.1 i,()))
 unfold Yo Mq
 refine Eq.mp (Ald _ _ _) ⟨e',rfl,Cu (Bc e'.1) i,by rw [LO];exact Of h1 (by omega),Br.dec (λhb=>by rw [Ab hb];rfl) λhb=>⟨rfl,rfl,?_⟩⟩
 rw [Ai hb]
 have hnn: ∀k:Nat,k<(Bc e'.1).length->0<=Cu (Bc e'.1) (k:Int):= λk hk=>by unfold Cu;rw [Ac];exact hd.nn k hk
 obtain ⟨R,hRR⟩: ∃R,Vj (Gi e'.1) (Ao e'.1.2.2.1.length) (Bc e'.1) (Cu (Bc e'.1) i).toNat i []=R:=⟨_,rfl⟩
 rw [hRR]
 obtain ⟨i0,rfl⟩:=Bi h1
 refine Ea.mk (λv=> ∃(k:Nat) (w:List Int) (f:Nat),v=((k:Int),w,())/\k<(Bc e'.1).length/\Cu (Bc e'.1) (k:Int)<=f/\w.length+f<=200/\Vj (Gi e'.1) (Ao e'.1.2.2.1.length) (Bc e'.1) f (k:Int) w=R) (λv=>(Cu (Bc e'.1) v.1).toNat)
  ⟨i0,[],(Cu (Bc e'.1) (i0:Int)).toNat,rfl,by omega,by omega,by have:=hnn i0 (by omega);simp only [Dv];omega,hRR⟩ ?_
 rintro v ⟨k,w,f,rfl,k1,k2,k3,k4⟩
 dsimp only
 refine ⟨e',rfl,Cu (Bc e'.1) (k:Int),by rw [LO];exact Of (by omega) (by omega),Br.dec (λhl=>?_) λhl=>?_⟩
 ·have Ll:0<(Bc e'.1).getD k 0:=by unfold Cu at hl;rwa [Ac] at hl
  obtain ⟨f,rfl⟩: ∃f',f=f'+1:=⟨f-1,by omega⟩
  obtain ⟨t0,ht0,htl⟩:=hd.dn k (by omega) Ll
  have kP:Cu (Bc e'.1) (k:Int)=(Bc e'.1).getD k 0:=by unfold Cu;rw [Ac]
  have iY:(Gi e'.1 k).any (λy=>decide (Cu (Bc e'.1) y<Cu (Bc e'.1) (k:Int)))=true:=Eo.2 ⟨t0,ht0,Bp (by rw [kP];exact htl)⟩
  obtain ⟨n,n2,n3,q1,q2⟩:=ko (Gi e'.1 k) 0 iY
  have n3:Gr (λy=>decide (Cu (Bc e'.1) y<Cu (Bc e'.1) (k:Int))) (Gi e'.1 k) 0=(n:Int):=by rw [Bk] at n3;exact n3
  have n1:n<(Ao e'.1.2.2.1.length).length:=by rw [<-dD e'.1 k];exact n2
  obtain ⟨r1,r2⟩:=ba hx.1 k (by omega) _ (Am n2)
  obtain ⟨t,n4⟩:=Bi r1
  have n6:Cu (Bc e'.1) (t:Int)<Cu (Bc e'.1) (k:Int):=by have:=Ia q1;rwa [n4] at this
  simp only [Vj] at k4
  rw [Ab hl,Ac,n3,Ac,Ce n2,n4,Ce n1] at k4
  have hz:n<((Ao e'.1.2.2.1.length).zip (Gi e'.1 k)).length:=by rw [List.length_zip];omega
  obtain ⟨rest,bU⟩:=nJ (P:= λq:Int×Int=>decide (Cu (Bc e'.1) q.2<Cu (Bc e'.1) (k:Int))) ((Ao e'.1.2.2.1.length).zip (Gi e'.1 k)) n hz (by rw [List.getElem_zip];exact q1) λj hj=>by rw [List.getElem_zip];exact q2 j hj
  rw [List.getElem_zip,n4] at bU
  have Rn:ah.fn (some e',(k:Int),())=some (((Ao e'.1.2.2.1.length)[n]::rest.map Prod.fst,(t:Int)::rest.map Prod.snd,()),()):=by
   refine (Ab ⟨e',rfl,hx,by show (0:Int)<=(k:Int);omega,by show (k:Int)<((Ae e'.1).length:Int);omega⟩).trans (Dm some ?_)
   show (((c9 (Ao e'.1.2.2.1.length) (Gi e'.1 ((k:Nat):Int).toNat) (Bc e'.1) (k:Int)).1,(c9 (Ao e'.1.2.2.1.length) (Gi e'.1 ((k:Nat):Int).toNat) (Bc e'.1) (k:Int)).2,()),())=_
   rw [Ac]
   unfold c9
   rw [bU]
   rfl
  have h0:=hnn t (by omega)
  refine ⟨_,Rn,⟨by omega,by simp only [Aw];omega⟩,(Ao e'.1.2.2.1.length)[n],rfl,rfl,rfl,?_,⟨by omega,by simp only [Aw];omega⟩,(t:Int),rfl,rfl,rfl,⟨t,w++ [(Ao e'.1.2.2.1.length)[n]],f,rfl,by omega,by omega,by rw [Ax,Bn];omega,k4⟩,?_⟩
  ·show w.length+1<=4294967296;omega
  ·show (Cu (Bc e'.1) (t:Int)).toNat<(Cu (Bc e'.1) (k:Int)).toNat
   omega
 ·rw [Dd]
  have:Vj (Gi e'.1) (Ao e'.1.2.2.1.length) (Bc e'.1) f (k:Int) w=(w,(k:Int)):=by
   cases f with
   |zero=>rfl
   |succ f=>simp only [Vj];rw [Ai (by omega)]
  rw [this] at k4
  subst k4
  rfl
theorem OO:Dx Try.prog 168 jA:=
 Dx.mA Sn (Gy BC Cc) mixed Try.func168 (by kernel_rfl) (by kernel_rfl) λx h=>Aki x.1 x.2.1 h
theorem Ab1 {p:PP} {i:Int} (hw:Cy p=true) (h1:0<=i) (h2:i<(Ae p).length):(Yo p i).1.length<=200:=by
 unfold Yo Mq
 split
 ·simp
 ·rename_i hb
  obtain ⟨i0,rfl⟩:=Bi h1
  have hd:=yX hw
  have hg:Cu (Bc p) (i0:Int)=(Bc p).getD i0 0:=by unfold Cu;rw [Ac]
  have hnn:=hd.nn i0 (by rw [bM hw];omega)
  obtain ⟨_,r2,_⟩:=z6 hw hd (me hw) (see:= λx=>x) (dep:=Hm (Ae p) (Bc p)) (λ_ _ _ _=>rfl) (λx hx=>du hx) (Cu (Bc p) (i0:Int)).toNat i0 [] (by omega) (by rw [<-hg];omega)
  rw [r2]
  simp only [Dv]
  omega
theorem l4 {p:PP} (hw:Cy p=true) {d:List Int} (hd:KA p d): ∀(f:Nat) (i:Nat) (w:List Int),i<d.length->(∀l∈w,l∈Ao p.2.2.1.length)-> ∀l∈(Vj (Gi p) (Ao p.2.2.1.length) d f (i:Int) w).1,l∈Ao p.2.2.1.length
 |0,i,w,_,h=>h
 |f+1,i,w,hi,h=>by
  simp only [Vj]
  split
  ·rename_i hl
   have Ll:0<d.getD i 0:=by unfold Cu at hl;rwa [Ac] at hl
   obtain ⟨n,n1,n2,n3,t,n4,n5,n6⟩:=QF hw hd hi Ll
   rw [Ac,n3,Ac,Ce n2,n4,Ce n1]
   refine l4 hw hd f t _ n5 λl nS=>?_
   rcases Az.1 nS with h2|h2
   ·exact h l h2
   ·rw [Af.1 h2];exact Am n1
  ·exact h
theorem zV {p:PP} {i:Int} (hw:Cy p=true) (h1:0<=i) (h2:i<(Ae p).length): ∀l∈(Yo p i).1,Fy (List.length p.2.2.1) l:=by
 unfold Yo Mq
 split
 ·intro l hl;cases hl
 ·obtain ⟨i0,rfl⟩:=Bi h1
  intro l hl
  exact Iz (l4 hw (yX hw) _ i0 [] (by rw [bM hw];omega) (λl hl=>by cases hl) l hl)
theorem Aft {p:PP} {t:List Int} (hs:Cw p t=true) {l:Int} (hl:Fy (List.length (Bl p t).2.2.1) l):
  (l>0->0<=l-1/\l-1<t.length/\0<=Cu t (l-1)/\Cu t (l-1)<8)/\(¬l>0->0<= -l-1/\ -l-1<t.length/\0<=Cu t (-l-1)/\Cu t (-l-1)<8):=by
 have Oe:=jO hs
 have hlen:List.length (Bl p t).2.2.1=t.length:=Ck _
 rw [hlen] at hl
 have h8:=Oe.g8
 have key: ∀k:Int,0<=k->k<t.length->0<=Cu t k/\Cu t k<8:= λk k1 k2=>by
  obtain ⟨kn,rfl⟩:=Bi k1
  have hk:kn<t.length:=by omega
  obtain ⟨j,e,hj⟩:=Oe.Re hk
  have:Cu t (kn:Int)=(j:Int):=by unfold Cu;rw [Ac,Ce hk,e]
  rw [this];omega
 obtain ⟨l1,l2,l3⟩:=hl
 exact ⟨λh=>⟨by omega,by omega,key _ (by omega) (by omega)⟩,λh=>⟨by omega,by omega,key _ (by omega) (by omega)⟩⟩
theorem CF {f:Int->Int} {w ys:List Int} {j:Nat} (hj:j<w.length) (hl:ys.length=w.length) (h1:ys.take j=(w.take j).map f) (h2:ys.drop j=w.drop j):
  (ys.set j (f w[j])).take (j+1)=(w.take (j+1)).map f/\(ys.set j (f w[j])).drop (j+1)=w.drop (j+1)/\ys.getD j 0=w[j]:=by
 have hjy:j<ys.length:=by omega
 refine ⟨?_,?_,?_⟩
 ·rw [Kc,List.take_set_of_le (by omega),h1,aE hjy,Kc,Ad hj,Ir]
  rfl
 ·rw [List.drop_set_of_lt (by omega)]
  have:=Dm (List.drop 1) h2
  rwa [List.drop_drop,List.drop_drop] at this
 ·have:=Dm (λz=>z[0]?) h2
  simp only [Cs,Ed] at this
  rw [Ad hjy,Ad hj] at this
  rw [Ce hjy]
  exact Bd this
theorem Aff (h:Option HP) (i:Int) (hh: ∃p t,Kx p t=true/\h=some (Dy p t)/\0<=i/\i<(Ae p).length):fnMW Uk (look [(135,Sl),(168,jA)]) Uw Try.f114 (h,i,()) (λ(z:(List Int×Bool×Unit)×Unit)=>z=GH h i):=by
 obtain ⟨p,t,hw,rfl,h1,h2⟩:=hh
 obtain ⟨k,rfl⟩:=Bi h1
 have hk:k<(Ae p).length:=by omega
 obtain ⟨Tf,hm⟩:=Lq.1 hw
 have Pc:=(aV Tf).1
 have j5:=Ra Tf hm
 obtain ⟨s,hs⟩: ∃s,(Ae p)[k]=s:=⟨_,rfl⟩
 have hfd:Sl.fn (some (Ga (Bl p t)),s,())=some (Gs (Bl p t) s):=Ab ⟨⟨Ga (Bl p t),rfl,j5,rfl⟩,by rw [<-hs];exact ab (jM (Dg Tf).1 (Am hk))⟩
 show fnMW _ _ Uw _ _ (λz=>z=(fG p t ((Ae p).getD ((k:Nat):Int).toNat []),()))
 rw [Ac,Ce hk,hs]
 unfold fG
 refine Eq.mp (Ag9 _ _ _) ⟨Dy p t,rfl,Dy p t,rfl,Ga p,rfl,s,by rw [Pc,<-hs];exact Cf hk,_,hfd,?_⟩
 rw [xD]
 refine Br.of (λhb=>?_) λhb=>?_
 ·have hn:s∉Ae (Bl p t):=by simpa using hb
  rw [Ai hn];rfl
 have Oj:s∈Ae (Bl p t):=by simpa using hb
 rw [Ab Oj]
 obtain ⟨i1,i2,_⟩:=tJ Oj
 have qy:jA.fn (some (Ga (Bl p t)),(Gs (Bl p t) s).1,())=some (Yo (Bl p t) (Gs (Bl p t) s).1,()):=Ab ⟨Ga (Bl p t),rfl,⟨j5,rfl⟩,i1,i2⟩
 have eY:=Ab1 j5 i1 i2
 have Lg:=zV j5 i1 i2
 have Bai:=(jO hm).gG
 have Baj:=(jO hm).g8
 refine ⟨Dy p t,rfl,_,qy,?_⟩
 generalize hO:Yo (Bl p t) (Gs (Bl p t) s).1=O at*
 obtain ⟨w,ok,⟨⟩⟩:=O
 dsimp only at eY Lg⊢
 cases ok with
 |false=>
  refine ⟨λ_=>?_,λhb=>by simp at hb⟩
  have:w= []:=by
   unfold Yo Mq at hO
   split at hO
   ·simp only [Ag] at hO;exact hO.1.symm
   ·simp only [Ag] at hO;exact absurd hO.2.1 (by simp)
  subst this
  rfl
 |true=>
  refine ⟨λhb=>by simp at hb,λ_=>⟨rfl,rfl,rfl,rfl,?_⟩⟩
  refine Cg w.length (λv=>v.1) (λj v=>v.2.1.length=w.length/\v.2.1.take j=(w.take j).map (Yp t)/\v.2.1.drop j=w.drop j) rfl ⟨rfl,rfl,rfl⟩ ?_
  rintro j ⟨jj,ys,⟨⟩⟩ K hj mT ⟨g1,g2,g3⟩ hK
  dsimp only at mT g1 g2 g3⊢
  subst mT
  refine Br.dec (λhl=>?_) λhl=>?_
  ·have hl:j<w.length:=by omega
   obtain ⟨e1,e2,e3⟩:=CF (f:=Yp t) hl g1 g2 g3
   obtain ⟨b1,b2⟩:=Aft hm (Lg _ (Am hl))
   refine ⟨⟨by omega,by omega⟩,w[j],by rw [Aij (by omega),e3],Br.dec (λhp=>?_) λhp=>?_⟩
   ·obtain ⟨c1,c2,c3,c4⟩:=b1 hp
    have hsl:Yp t w[j]=Cu t (w[j]-1)+1:=Ab hp
    refine ⟨Dy p t,rfl,Cu t (w[j]-1),by rw [Cj (n:=w[j]-1) (by omega) (by omega)];exact Of c1 c2,⟨by omega,by omega⟩,by rw [Ac];omega,rfl,by rw [Bv],rfl,by rw [Bv],?_⟩
    rw [Cb (by omega),Ac,Bk,Cj (n:=Cu t (w[j]-1)+1) (by omega) (by omega),<-hsl]
    exact hK hl _ rfl ⟨by rw [Bv];exact g1,e1,e2⟩
   ·obtain ⟨c1,c2,c3,c4⟩:=b2 hp
    have hsl:Yp t w[j]= -(Cu t (-w[j]-1)+1):=Ai hp
    have e5:IntKind.i64.wrap (IntKind.i64.wrap (0-w[j])-1)= -w[j]-1:=by rw [Cj (n:=0-w[j]) (by omega) (by omega),Cj (by omega) (by omega)];omega
    have e6:IntKind.i64.wrap (0-IntKind.i64.wrap (Cu t (-w[j]-1)+1))=Yp t w[j]:=by rw [Cj (n:=Cu t (-w[j]-1)+1) (by omega) (by omega),Cj (by omega) (by omega),hsl];omega
    refine ⟨Dy p t,rfl,Cu t (-w[j]-1),by rw [e5];exact Of c1 c2,⟨by omega,by omega⟩,by rw [Ac];omega,rfl,by rw [Bv],rfl,by rw [Bv],?_⟩
    rw [Cb (by omega),Ac,Bk,e6]
    exact hK hl _ rfl ⟨by rw [Bv];exact g1,e1,e2⟩
  ·have:j=w.length:=by omega
   subst this
   rw [Dd]
   rw [<-g1,Bh,g1,Bh] at g2
   rw [g2]
theorem qY:Dx Try.prog 114 Uw:=
 Dx.mA Sn (Ba ga (Gy OO Cc)) mixed Try.func114 (by kernel_rfl) (by kernel_rfl) λx h=>Aff x.1 x.2.1 h
theorem oX {p:PP} (hw:Cy p=true) {x:List Int} (hx:x∈Ae p):0<=Hm (Ae p) (Bc p) x/\Hm (Ae p) (Bc p) x<=3000:=by
 have mW:=aA (Dg hw).1
 have rD:=mW.ok.gG
 refine ⟨(Uc hw).nn x hx,?_⟩
 obtain ⟨i,hi,rfl⟩:=Bf.1 hx
 have hiD:i<(Bc p).length:=by rw [mW.len];exact hi
 have h1:=mW.dep i hiD
 have h2:Hm (Ae p) (Bc p) ((Ae p)[i])=(Bc p).getD i 0:=by
  rw [<-Ce (d:= []) hi];exact mc mW.ok.nodup hi
 rw [h2,Ce hiD]
 omega
theorem cn {g:List (List Int)} {dep:List Int->Int} {ls:List Int} : ∀(n:Nat) (x w:List Int),(∀l∈w,l∈ls)-> ∀l∈(gh g dep ls n x w).1,l∈ls
 |0,x,w,h=>h
 |n+1,x,w,h=>by
  simp only [gh]
  split
  ·rename_i l hf
   refine cn n _ _ λl' hl=>?_
   rcases Az.1 hl with h2|h2
   ·exact h l' h2
   ·rw [Af.1 h2];exact List.mem_of_find?_eq_some hf
  ·exact cn n x w h
theorem Acl {p:PP} {t s:List Int} (Tf:Cy p=true) (hm:Cw p t=true) (Oj:s∈Ae (Bl p t)):fG p t s=xL (Lm p t s):=by
 have j5:=Ra Tf hm
 have hi:=Ef Oj
 have hb:=oX j5 Oj
 have JU:(Gs (Bl p t) s).1=(((Ae (Bl p t)).idxOf s:Nat):Int):=by unfold Gs;rw [Ab Oj]
 have hg:Cu (Bc (Bl p t)) (Gs (Bl p t) s).1=Hm (Ae (Bl p t)) (Bc (Bl p t)) s:=by
  rw [JU];unfold Cu;rw [Ac];exact du Oj
 have hsi:(Ae (Bl p t)).getD ((Ae (Bl p t)).idxOf s) []=s:=by rw [Ce hi];exact Ml hi
 obtain ⟨r1,r2,_⟩:=z6 j5 (yX j5) (me j5) (see:= λx=>x) (dep:=Hm (Ae (Bl p t)) (Bc (Bl p t))) (λ_ _ _ _=>rfl) (λx hx=>du hx)
  (Hm (Ae (Bl p t)) (Bc (Bl p t)) s).toNat ((Ae (Bl p t)).idxOf s) [] hi (by rw [du Oj];omega)
 rw [hsi] at r1
 have r1:_=jf (Bl p t) s:=r1
 rw [r1] at r2
 simp only [Dv,Bk] at r2
 unfold fG Yo Mq xL Lm
 rw [Ab Oj,hg,Ck]
 by_cases h:Hm (Ae (Bl p t)) (Bc (Bl p t)) s>200
 ·rw [Ab h,Ab (by omega)];rfl
 ·rw [Ai h,Ai (by omega)]
  dsimp only
  rw [JU,r1]
structure Part (n k:Nat) (s:Fu×Fu):Prop where
 l1:s.1.length=n
 l2:s.2.length=n
 pg:PG n k (s.1.getD k [])
 row:Xr n k (s.1.getD k []) (s.2.getD k [])
 comp:kK n (n-(k+1)) (k+1) s
 gb:GBf (n-(k+1)) (k+1) s
 sub: ∀g,some g∈s.1.getD (k+1) []->Gn n (s.1.getD k []) g
def Hd (n k:Nat) (s:Fu×Fu) (q:List Int):Prop:= ∃t,(s.2.getD k []).getD (ap q k) none=some t/\Oa s.2 (n-(k+1)) (k+1) (Ak q (Bw t))=true
structure x6 (n k:Nat) (s s':Fu×Fu):Prop where
 grow:bE k s s'
 same:s'.1.getD k []=s.1.getD k []
 part:Part n k s'
 Fz: ∀q,Pm n q->Fx k q->Hd n k s q->Hd n k s' q
 new: ∀y t,(s'.2.getD k []).getD y none=some t->(s.2.getD k []).getD y none=some t\/ ∀g,some g∈s.1.getD k []->Hd n k s' (Ak t g)
theorem x6.refl {n k:Nat} {s:Fu×Fu} (h:Part n k s):x6 n k s s:=⟨bE.refl _ _,rfl,h,λ_ _ _ h=>h,λ_ _ h=> .inl h⟩
theorem Part.tg {n k:Nat} {s:Fu×Fu} (h:Part n k s) (hk:k<n) {y:Nat} {t g:List Int} (ht:(s.2.getD k []).getD y none=some t) (hg:some g∈s.1.getD k []):Pm n (Ak t g)/\Fx k (Ak t g)/\ap (Ak t g) k=ap g y:=by
 obtain ⟨t1,t2,t3,t4⟩:=h.row.rt _ _ ht
 obtain ⟨g',e,g1,g2⟩:=h.pg _ hg
 cases e
 exact ⟨t1.comp g1,Fx.comp t1 g1 t2 g2 (by omega),by rw [Kf t1 g1 hk,t3]⟩
theorem x6.trans {n k:Nat} {a b c:Fu×Fu} (hk:k<n) (h:x6 n k a b) (h':x6 n k b c):x6 n k a c:=by
 refine ⟨h.grow.trans h'.grow (Aq _),h'.same.trans h.same,h'.part,λq h1 h2 h3=>h'.Fz q h1 h2 (h.Fz q h1 h2 h3),λy t e=>?_⟩
 rcases h'.new y t e with e1|e1
 ·rcases h.new y t e1 with e2|e2
  ·exact .inl e2
  ·refine .inr λg hg=>?_
   obtain ⟨p1,p2,_⟩:=h.part.tg hk e1 (by rw [h.same];exact hg)
   exact h'.Fz _ p1 p2 (e2 g hg)
 ·exact .inr λg hg=>e1 g (by rw [h.same];exact hg)
theorem Part.v {n k:Nat} {s:Fu×Fu} (h:Part n k s):V n (n-(k+1)) (k+1) s:=⟨h.l1,h.l2,h.comp,h.gb⟩
noncomputable def Hy (p:PP) (t:List Int):List Int:=pv (Gi p) (λi=>decide ((Ae p).getD i []∈Ae (Bl p t))) (Ae p).length
noncomputable def Ii (p:PP) (d:List Int) (x:List Int):Int:=d.getD ((Ae p).idxOf x) 0
noncomputable def Kw (p:PP) (d s:List Int):List Int:=(gh p.2.2.1 (Ii p d) (Ao p.2.2.1.length) (Ii p d s).toNat s []).1
def Amj (p:PP) (d:List Int):Prop:=d.length=(Ae p).length/\(∀i,i<d.length->d.getD i 0<=3000)/\ ∃S,Ke p.2.2.1 (Ao p.2.2.1.length) (Ae p) S (λx=>d.getD ((Ae p).idxOf x) 0)
theorem yu {p:PP} {t:List Int} (hw:Cy p=true) (hm:Cw p t=true):(Ae p).getD 0 []∈Ae (Bl p t):=by
 rw [(Zw (Dg hw).1).1]
 exact (Zw (gk hm)).2
theorem pJ {p:PP} {t:List Int} (hw:Cy p=true) (hm:Cw p t=true):
  Amj p (Hy p t)/\Ke p.2.2.1 (Ao p.2.2.1.length) (Ae p) (λx=>x∈Ae (Bl p t)) (λx=>(Hy p t).getD ((Ae p).idxOf x) 0):=by
 have hv:=(Dg hw).1
 have hR:=ba hw
 have hm3:=eS hv
 have hlen:(Hy p t).length=(Ae p).length:=(Agh hR).len
 have hd:=Ae4 hw (λi=>decide ((Ae p).getD i []∈Ae (Bl p t))) (i0:=0) (by have:=Aby hv;omega) (Bp (yu hw hm))
 refine ⟨⟨hlen,λi hi=>?_,_,hd⟩,hd.congr λx hx=>?_⟩
 ·have:=Aml (S:= λi=>decide ((Ae p).getD i []∈Ae (Bl p t))) hR (i:=i) (by omega)
  show (pv (Gi p) (λi=>decide ((Ae p).getD i []∈Ae (Bl p t))) (Ae p).length).getD i 0<=3000
  omega
 ·have h1:=Ef hx
  rw [Ce h1,Ml h1,Jj]
abbrev Avl:Ty:= .clo (113+1000000000) (.pair (.optr di) .unit)
def Amh (e:Option XP) (h:Option HP):Prop:= ∃p t,Kx p t=true/\h=some (Dy p t)/\e=some (Ga p)
noncomputable abbrev Sk:Spec:=Hg (.pair (.optr gW) (.pair Avl .unit)) tL false true (λx=>Amh x.1 x.2.1.1) (λx=>GG x.1 λi=>my x.2.1.1 (i:Int))
abbrev pZ:Type:=(Int×ByteArray×List (List Int)×PUnit)×List (List Int)×List Int×(ByteArray->Option Int)×List Int×List Int×List (List Int)×PUnit
theorem Acv (e:Option XP) (c:Option (Option XP×List Int×Option XP×Unit)×Unit) (P:List Int->Prop):(∃(y3:pZ),e=some y3/\ ∃(y4:(List Int×PUnit)×PUnit),eL.fn (List.take 1 (List.drop 0 [(-1:Int)]),(↑y3.2.1.length:Int),())=some y4/\ ∃(y5:pZ),e=some y5/\ ∃(y6:Int),Uv.fn (y5.2.1,())=some y6/\0=0/\y4.1.1.length=y4.1.1.length/\0=0/\(List.take 0 (List.drop 0 ([]:List Int))).length=(List.take 0 (List.drop 0 ([]:List Int))).length/\Ea (λ(v7:Int×List Int×List Int×PUnit) (k8:Int×List Int×List Int×PUnit->Prop)=>Br (decide (v7.1<y6)) (∃(y9:Bool),dF.fn (c.1,v7.1,())=some y9/\Br y9 (((0:Int)<=v7.1/\v7.1<(↑v7.2.2.1.length:Int))/\0+v7.1.toNat<v7.2.2.1.length/\0=0/\v7.2.1.length=v7.2.1.length/\v7.2.1.length+(List.take 1 (List.drop 0 [v7.1])).length<=Dt/\0=0/\v7.2.2.1.length=(v7.2.2.1.set (0+v7.1.toNat) (0:Int)).length/\0=0/\(List.take (v7.2.1++List.take 1 (List.drop 0 [v7.1])).length (List.drop 0 (v7.2.1++List.take 1 (List.drop 0 [v7.1])))).length=(List.take (v7.2.1++List.take 1 (List.drop 0 [v7.1])).length (List.drop 0 (v7.2.1++List.take 1 (List.drop 0 [v7.1])))).length/\k8 (IntKind.i64.wrap (v7.1+(1:Int)),List.take (v7.2.1++List.take 1 (List.drop 0 [v7.1])).length (List.drop 0 (v7.2.1++List.take 1 (List.drop 0 [v7.1]))),v7.2.2.1.set (0+v7.1.toNat) (0:Int),())) (0=0/\v7.2.2.1.length=v7.2.2.1.length/\0=0/\(List.take v7.2.1.length (List.drop 0 v7.2.1)).length=(List.take v7.2.1.length (List.drop 0 v7.2.1)).length/\k8 (IntKind.i64.wrap (v7.1+(1:Int)),List.take v7.2.1.length (List.drop 0 v7.2.1),v7.2.2.1,()))) (0=0/\v7.2.2.1.length=v7.2.2.1.length/\0=0/\(List.take v7.2.1.length (List.drop 0 v7.2.1)).length=(List.take v7.2.1.length (List.drop 0 v7.2.1)).length/\Ea (λ(v9:List Int×List Int×PUnit) (k10:List Int×List Int×PUnit->Prop)=>Br (decide ((↑v9.1.length:Int)>(0:Int))) (∃(Th:pZ),e=some Th/\((0:Int)<=(0:Int)/\(0:Int)<(↑v9.1.length:Int))/\ ∃(Xp:Int),v9.1[0+Int.toNat (0:Int)]?=some Xp/\ ∃(gx:List Int),idx Th.2.2.2.2.2.2.1 Xp=some gx/\0=0/\v9.2.1.length=v9.2.1.length/\0=0/\(List.take v9.1.length (List.drop 0 v9.1)).length=(List.take v9.1.length (List.drop 0 v9.1)).length/\Ea (λ(Rb:Int×List Int×List Int×PUnit) (k15:Int×List Int×List Int×PUnit->Prop)=>Br (decide (Rb.1<(↑gx.length:Int))) (∃(Zf:Int),idx gx Rb.1=some Zf/\((0:Int)<=Zf/\Zf<(↑Rb.2.2.1.length:Int))/\ ∃(mR:Int),Rb.2.2.1[0+Zf.toNat]?=some mR/\Br (decide (mR<(0:Int))) (((0:Int)<=(0:Int)/\(0:Int)<(↑Rb.2.1.length:Int))/\ ∃(mX:Int),Rb.2.1[0+Int.toNat (0:Int)]?=some mX/\((0:Int)<=mX/\mX<(↑Rb.2.2.1.length:Int))/\ ∃(XT:Int),Rb.2.2.1[0+mX.toNat]?=some XT/\((0:Int)<=Zf/\Zf<(↑Rb.2.2.1.length:Int))/\0+Zf.toNat<Rb.2.2.1.length/\0=0/\Rb.2.1.length=Rb.2.1.length/\Rb.2.1.length+(List.take 1 (List.drop 0 [Zf])).length<=Dt/\0=0/\Rb.2.2.1.length=(Rb.2.2.1.set (0+Zf.toNat) (IntKind.i64.wrap (XT+(1:Int)))).length/\0=0/\(List.take (Rb.2.1++List.take 1 (List.drop 0 [Zf])).length (List.drop 0 (Rb.2.1++List.take 1 (List.drop 0 [Zf])))).length=(List.take (Rb.2.1++List.take 1 (List.drop 0 [Zf])).length (List.drop 0 (Rb.2.1++List.take 1 (List.drop 0 [Zf])))).length/\k15 (IntKind.i64.wrap (Rb.1+(1:Int)),List.take (Rb.2.1++List.take 1 (List.drop 0 [Zf])).length (List.drop 0 (Rb.2.1++List.take 1 (List.drop 0 [Zf]))),Rb.2.2.1.set (0+Zf.toNat) (IntKind.i64.wrap (XT+(1:Int))),())) (0=0/\Rb.2.2.1.length=Rb.2.2.1.length/\0=0/\(List.take Rb.2.1.length (List.drop 0 Rb.2.1)).length=(List.take Rb.2.1.length (List.drop 0 Rb.2.1)).length/\k15 (IntKind.i64.wrap (Rb.1+(1:Int)),List.take Rb.2.1.length (List.drop 0 Rb.2.1),Rb.2.2.1,()))) (((0:Int)<=(1:Int)/\(1:Int)<=(↑Rb.2.1.length:Int)/\(↑Rb.2.1.length:Int)<=(↑Rb.2.1.length:Int))/\0=0/\Rb.2.2.1.length=Rb.2.2.1.length/\0=0/\(List.take ((↑Rb.2.1.length:Int).toNat-Int.toNat (1:Int)) (List.drop (0+Int.toNat (1:Int)) Rb.2.1)).length=(List.take ((↑Rb.2.1.length:Int).toNat-Int.toNat (1:Int)) (List.drop (0+Int.toNat (1:Int)) Rb.2.1)).length/\k10 (List.take ((↑Rb.2.1.length:Int).toNat-Int.toNat (1:Int)) (List.drop (0+Int.toNat (1:Int)) Rb.2.1),Rb.2.2.1,()))) ((0:Int),List.take v9.1.length (List.drop 0 v9.1),v9.2.1,PUnit.unit)) (P (List.take v9.2.1.length (List.drop 0 v9.2.1)))) (List.take v7.2.1.length (List.drop 0 v7.2.1),v7.2.2.1,PUnit.unit))) ((0:Int),List.take 0 (List.drop 0 []),y4.1.1,PUnit.unit))=fnW (CB [Mz+6]) (look [(167,eL),(95,Uv),(113,dF)]) Sk Try.f112 (e,c,()) P:=by kernel_rfl
theorem Ab7 (e:Option XP) (c:Option HP×Unit) (h:Amh e c.1):fnW (CB [Mz+6]) (look [(167,eL),(95,Uv),(113,dF)]) Sk Try.f112 (e,c,()) (λ(z:List Int)=>z=GG e λi=>my c.1 (i:Int)):=by
 obtain ⟨p,t,hw,XJ,rfl⟩:=h
 obtain ⟨ch,⟨⟩⟩:=c
 dsimp only at XJ
 subst XJ
 have hx:kM (Ga p):=⟨(Lq.1 hw).1,rfl⟩
 obtain ⟨e',FF⟩: ∃e':XP,Ga p=e':=⟨_,rfl⟩
 have hep:e'.1=p:=by rw [<-FF];rfl
 rw [FF] at hx⊢
 have Pc:=Amo hx
 have RI:=Dg hx.1
 have hm3:=eS RI.1
 have hm1:=Aby RI.1
 have hR:=ba hx.1
 have hV:=valid RI.1
 have hlf:=jc hV
 obtain ⟨m,hm⟩: ∃m,(Ae e'.1).length=m:=⟨_,rfl⟩
 obtain ⟨S,hS⟩: ∃S:Nat->Bool,(λ(i:Nat)=>my (some (Dy p t)) (i:Int))=S:=⟨_,rfl⟩
 have hSi: ∀i:Nat,my (some (Dy p t)) (i:Int)=S i:= λi=>congrFun hS i
 show fnW _ _ Sk _ _ (λz=>z=pv (Gi e'.1) (λi=>my (some (Dy p t)) (i:Int)) (Ae e'.1).length)
 rw [hS]
 have Rn: ∀i:Nat,i<m->dF.fn (some (Dy p t),(i:Int),())=some (S i):= λi hi=>by
  refine (Ab ⟨p,t,hw,rfl,by show (0:Int)<=i;omega,?_⟩).trans (Dm some (hSi i))
  show (i:Int)<(((Ae p).length:Nat):Int)
  rw [<-hep];omega
 rw [hm] at hm3 hm1 hR⊢
 refine Eq.mp (Acv _ _ _) ⟨e',rfl,((List.replicate m (-1),()),()),?_,e',rfl,(m:Int),?_,rfl,rfl,rfl,rfl,?_⟩
 ·rw [Pc,hm]
  refine (Ab ⟨⟨-1,rfl⟩,by show (1:Int)<=m;omega,by show (m:Int)<=100000;omega⟩).trans ?_
  show some ((List.replicate ((m:Int)).toNat (-1),()),())=_
  rw [Ac]
 ·exact (Ab trivial).trans (Dm some (by show ((e'.2.1.length:Nat):Int)=m;rw [Pc,hm]))
 refine Cg m (λv=>v.1) (λj v=>v.2.1=dqp S j/\v.2.2.1.length=m/\ ∀k,k<m->v.2.2.1.getD k 0=if k<j/\S k=true then 0 else-1) rfl ⟨rfl,by simp,λk hk=>?_⟩ ?_
 ·rw [Ai (by omega),Ce (by simpa using hk),List.getElem_replicate]
 rintro j ⟨i,q,out,⟨⟩⟩ K hj hi ⟨h1,h2,h3⟩ hK
 dsimp only at hi h1 h2 h3⊢
 subst hi h1
 have hql:=Ae3 S j
 refine Br.dec (λhl=>?_) λhl=>⟨rfl,rfl,rfl,rfl,?_⟩
 ·have hl:j<m:=by omega
  refine ⟨S j,Rn j hl,Br.of (λhs=>?_) λhs=>?_⟩
  ·refine ⟨⟨by omega,by omega⟩,by rw [Ac];omega,rfl,rfl,by show (dqp S j).length+1<=4294967296;omega,rfl,by rw [Bv],rfl,rfl,?_⟩
   rw [Dd,Cb (by omega),Ac,Bk]
   refine hK hl _ rfl ⟨?_,by rw [Bv];exact h2,?_⟩
   ·show dqp S j++ [(j:Int)]=_
    rw [EF,Ab hs]
   ·refine Afn h2 hl h3 (by rw [Ab ⟨by omega,hs⟩]) λk hk=>?_
    by_cases hc:k<j/\S k=true
    ·rw [Ab hc,Ab ⟨by omega,hc.2⟩]
    ·rw [Ai hc,Ai λh=>hc ⟨by omega,h.2⟩]
  ·refine ⟨rfl,rfl,rfl,rfl,?_⟩
   rw [Dd,Cb (by omega)]
   refine hK hl _ rfl ⟨?_,h2,λk hk=>?_⟩
   ·show dqp S j=_
    rw [EF,Ai (by rw [hs];decide)]
   ·rw [h3 k hk]
    by_cases hc:k<j/\S k=true
    ·rw [Ab hc,Ab ⟨by omega,hc.2⟩]
    ·rw [Ai hc,Ai λh=>hc ⟨by
      by_cases e:k=j
      ·subst e;rw [hs] at h;exact absurd h.2 (by decide)
      ·omega,h.2⟩]
 ·have:j=m:=by omega
  subst this
  have zp:out=XH S j:=UG (by rw [h2];simp [XH]) λk hk=>by
   rw [h3 k (by omega),ar (by omega)]
   by_cases hs:S k=true
   ·rw [Ab ⟨by omega,hs⟩,Ab hs]
   ·rw [Ai λh=>hs h.2,Ai hs]
  subst zp
  rw [Dd]
  show Ea _ (dq0 S j,XH S j,PUnit.unit)
  refine Ea.mk (λv=> ∃(q out:List Int) (f T:Nat),v=(q,out,())/\DQ (Gi e'.1) S j out q/\q.length+eD out<f/\vN (Gi e'.1) f out q=pv (Gi e'.1) S j/\T+(q.length+eD out)<=j/\ ∀i,i<j->out.getD i 0<=T) (λv=>v.1.length+eD v.2.1)
   ⟨dq0 S j,XH S j,j+1,0,rfl,sR _ _ _,by rw [RX];omega,rfl,by rw [RX];omega,λi hi=>by rw [ar hi];split<;>omega⟩ ?_
  rintro v ⟨q,out,f,T,rfl,g1,g2,g3,g4,g5⟩
  dsimp only
  have hol:=g1.base.len
  refine Br.dec (λhl=>?_) λhl=>?_
  ·obtain ⟨x,q',rfl⟩: ∃x q',q=x::q':=by
    cases q with
    |nil=>simp at hl
    |cons x q'=>exact ⟨x,q',rfl⟩
   obtain ⟨x1,x2,x3⟩:=g1.base.inq x (by simp)
   obtain ⟨xn,rfl⟩:=Bi x1
   have RJ:xn<j:=by omega
   rw [Ac] at x3
   obtain ⟨f,rfl⟩: ∃f',f=f'+1:=⟨f-1,by omega⟩
   simp only [vN,Ac] at g3
   simp only [Aw] at g2 g4
   refine ⟨e',rfl,⟨by omega,by omega⟩,(xn:Int),by simp,Gi e'.1 xn,EO hx (by omega),rfl,rfl,rfl,rfl,?_⟩
   rw [Dd]
   obtain ⟨o1,o2⟩:=List.pairwise_cons.1 g1.base.ord
   simp only [Ac] at o1
   have hX0:DX (Gi e'.1) S j xn (out.getD xn 0) out q':=by
    refine ⟨⟨g1.base.len,g1.base.ge,λy hy=>g1.base.inq y (As _ hy),g1.base.src,g1.base.Afp,g1.base.par,λi hi h0 hn hw=>g1.base.done i hi h0 (λhm=>?_) (λh=>h),o2⟩,RJ,rfl,x3,o1,?_⟩
    ·rcases Bb.1 hm with e|hm
     ·exact hw (by omega)
     ·exact hn hm
    ·have:=g1.hi (xn:Int) q' rfl
     rwa [Ac] at this
   have hnl:(Gi e'.1 xn).length<=16:=by rw [dD];exact hlf
   obtain ⟨d,hd⟩: ∃d,out.getD xn 0=d:=⟨_,rfl⟩
   rw [hd] at hX0
   have hdT:d<=T:=by rw [<-hd];exact g5 xn RJ
   refine Cg (Gi e'.1 xn).length (λv=>v.1) (λk v=> ∃(qq o:List Int),v=((k:Int),(xn:Int)::qq,o,())/\DX (Gi e'.1) S j xn d o qq/\qq.length+eD o=q'.length+eD out/\
     aS (xn:Int) ((Gi e'.1 xn).drop k) (o,qq)=aS (xn:Int) (Gi e'.1 xn) (out,q')) rfl ⟨q',out,rfl,hX0,rfl,by rw [Du]⟩ ?_
   rintro k v K2 hk hki ⟨qq,o,rfl,hX,hc,Oj⟩ QT
   dsimp only
   have hXb:=hX.base.len
   refine Br.dec (λNn=>?_) λNn=>?_
   ·have Nn:k<(Gi e'.1 xn).length:=by omega
    have htm:=hR xn RJ _ (Am Nn)
    obtain ⟨tn,htn⟩:=Bi htm.1
    have htj:tn<j:=by omega
    rw [Hp Nn] at Oj
    simp only [aS] at Oj
    have hox:o.getD ((xn:Nat):Int).toNat 0=d:=by rw [Ac];exact hX.Re
    refine ⟨_,Cf Nn,?_⟩
    rw [htn] at Oj⊢
    rw [Ac] at Oj
    refine ⟨⟨by omega,by omega⟩,o.getD tn 0,Aij (by omega),Br.dec (λrI=>?_) λrI=>?_⟩
    ·rw [Ab rI,hox] at Oj
     have Ow:=QH hR hX (Am Nn) htm (by rw [htn,Ac];exact rI)
     rw [htn,Ac] at Ow
     have hng:=GR (xs:=o) (i:=tn) (v:=d+1) (by omega) rI (by have:=hX.d0;omega)
     have hd0:=hX.d0
     refine ⟨⟨by omega,by simp only [Aw];omega⟩,(xn:Int),by simp,⟨by omega,by omega⟩,d,by rw [Aij (by omega),<-hX.Re],⟨by omega,by omega⟩,by rw [Ac];omega,rfl,rfl,?_,rfl,by rw [Bv],rfl,rfl,?_⟩
     ·show qq.length+1+1<=4294967296
      omega
     ·rw [Dd,Cb (by omega),Ac,Bk,Cj (n:=d+1) (by omega) (by omega)]
      refine QT Nn _ rfl ⟨qq++ [(tn:Int)],o.set tn (d+1),rfl,Ow,?_,Oj⟩
      rw [Ax,Bn]
      omega
    ·rw [Ai rI] at Oj
     refine ⟨rfl,rfl,rfl,rfl,?_⟩
     rw [Dd,Cb (by omega)]
     exact QT Nn _ rfl ⟨qq,o,rfl,hX,hc,Oj⟩
   ·have Nn:k=(Gi e'.1 xn).length:=by omega
    subst Nn
    rw [Zg,aS] at Oj
    rw [<-Oj] at g3
    have Ao5:=(YU hR g1).1
    rw [Ac,<-Oj] at Ao5
    have ht:List.take ((((xn:Int)::qq).length:Int).toNat-Int.toNat (1:Int)) (List.drop (0+Int.toNat (1:Int)) ((xn:Int)::qq))=qq:=by
     rw [Ac,Aw]
     show List.take (qq.length+1-1) qq=qq
     rw [Nat.add_sub_cancel,Bh]
    rw [ht]
    refine ⟨⟨by omega,by simp only [Aw];omega,by omega⟩,rfl,rfl,rfl,rfl,⟨qq,o,f,T+1,rfl,Ao5,by omega,g3,by omega,λi hi=>?_⟩,?_⟩
    ·have:=hX.hi i hi
     push_cast
     omega
    ·show qq.length+eD o<((xn:Int)::q').length+eD out
     simp only [Aw]
     omega
  ·have:q= []:=by
    cases q with
    |nil=>rfl
    |cons x q'=>simp at hl
   subst this
   rw [Dd]
   cases f with
   |zero=>exact g3
   |succ f=>exact g3
theorem oA:Sound Try.prog 112 Sk:=
 Sound.Hg (CC [Mz+6]) (Gy BH (Ba jE (Ba uL Cc))) mixed Try.func112 (by kernel_rfl) (by kernel_rfl) λx h=>Ab7 x.1 x.2.1 h
theorem xg {p:PP} {t:List Int} (hw:Kx p t=true):Sk.fn (some (Ga p),(some (Dy p t),()),())=some (Hy p t):=Ab ⟨p,t,hw,rfl,rfl⟩
theorem jL {g:List (List Int)} {dep:List Int->Int} {ls:List Int} : ∀(n:Nat) (x w:List Int),∃u,(gh g dep ls n x w).1=w++u/\(gh g dep ls n x w).2=Dr g x u
 |0,x,w=>⟨[],by simp [gh],rfl⟩
 |n+1,x,w=>by
  simp only [gh]
  split
  ·rename_i l _
   obtain ⟨u,h1,h2⟩:=jL (g:=g) (dep:=dep) (ls:=ls) n (Ak x (Av g l)) (w++ [l])
   exact ⟨l::u,by rw [h1,Bo];rfl,h2⟩
  ·exact jL n x w
def MN (a b:List Int):List Int×List Int×Bool×Unit:=if a.length>200\/b.length>200 then ([],[],false,()) else (a,b,true,())
noncomputable def Us (p:PP) (t s:List Int):List Int×List Int×Bool×Unit:=if (Kx p t&&decide (s∈Ae p))=true then MN (Kw p (Hy p t) s) (Lm p t (Dr p.2.2.1 s (Kw p (Hy p t) s))) else ([],[],false,())
noncomputable abbrev Sm:MSpec:=mA [some 3,none,none] [(false, .Gw tI),(false, .Gw .str),(false, .Gw yz),(false, .Gw tL),(false, .Gw tL)] true [none,none,none] [rL,rL, .Gw .bool]
 (λx=>Gb (x.1,x.2.1,x.2.2.1,())/\short x.2.2.2.1/\short x.2.2.2.2.1) (λx=>(((Us (x.1,x.2.1,x.2.2.1,()) x.2.2.2.1 x.2.2.2.2.1).1,(Us (x.1,x.2.1,x.2.2.1,()) x.2.2.2.1 x.2.2.2.2.1).2.1,(Us (x.1,x.2.1,x.2.2.1,()) x.2.2.2.1 x.2.2.2.2.1).2.2.1,()),()))
abbrev oE:Type:=Option ((Int×ByteArray×List (List Int)×PUnit)×List (List Int)×List Int×(ByteArray->Option Int)×List Int×List Int×List (List Int)×PUnit)×List Int×Option ((Int×ByteArray×List (List Int)×PUnit)×List (List Int)×List Int×(ByteArray->Option Int)×List Int×List Int×List (List Int)×PUnit)×PUnit
theorem JG (n:Int) (str:ByteArray) (g:List (List Int)) (t s:List Int) (P:((List Int×List Int×Bool×Unit)×Unit)->Prop):(∃(y6:Option (Option ((Int×ByteArray×List (List Int)×PUnit)×List (List Int)×List Int×(ByteArray->Option Int)×List Int×List Int×List (List Int)×PUnit)×List Int×Option ((Int×ByteArray×List (List Int)×PUnit)×List (List Int)×List Int×(ByteArray->Option Int)×List Int×List Int×List (List Int)×PUnit)×PUnit)×Int×Bool×PUnit),Il.fn ((n,str,g,()),t,s,())=some y6/\Br (!y6.2.2.1) (P ((List.take 0 (List.drop 0 []),List.take 0 (List.drop 0 []),false,()),())) (∃(y7:oE),y6.1=some y7/\ ∃(y8:oE),y6.1=some y8/\ ∃(y9:List Int),Sk.fn (y8.1,(y6.1,()),())=some y9/\ ∃(aC:(List Int×Int×Bool×PUnit)×PUnit),Yu.fn (y7.1,y9,y6.2.1,())=some aC/\Br (!aC.1.2.2.1) (P ((List.take 0 (List.drop 0 []),List.take 0 (List.drop 0 []),false,()),())) (∃(Th:(List Int×Bool×PUnit)×PUnit),Uw.fn (y6.1,aC.1.2.1,())=some Th/\Br (!Th.1.2.1) (P ((List.take 0 (List.drop 0 []),List.take 0 (List.drop 0 []),false,()),())) (P ((List.take aC.1.1.length (List.drop 0 aC.1.1),List.take Th.1.1.length (List.drop 0 Th.1.1),true,()),())))))=fnMW Uk (look [(110,Il),(112,Sk),(111,Yu),(114,Uw)]) Sm Try.f59 (n,str,g,t,s,()) P:=by kernel_rfl
theorem VQ {p:PP} {t:List Int} {s:List Int} (hw:Kx p t=true) (hs:s∈Ae p):
  ∃j:Nat,Mq p (Hy p t) (Gs p s).1=(if (Kw p (Hy p t) s).length>200 then ([],0,false,()) else (Kw p (Hy p t) s,(j:Int),true,()))/\j<(Ae p).length/\
   (Ae p).getD j []=Dr p.2.2.1 s (Kw p (Hy p t) s)/\Dr p.2.2.1 s (Kw p (Hy p t) s)∈Ae (Bl p t)/\ ∀l∈Kw p (Hy p t) s,Fy (List.length p.2.2.1) l:=by
 obtain ⟨Tf,mV⟩:=Lq.1 hw
 obtain ⟨h1,h2⟩:=pJ Tf mV
 have hl:=h1.1
 have hdn:=yY Tf hl h2
 have hi:=Ef hs
 have JU:(Gs p s).1=(((Ae p).idxOf s:Nat):Int):=by unfold Gs;rw [Ab hs]
 have hn:=hdn.nn _ (by rw [hl];exact hi)
 obtain ⟨n,lp⟩:=Bi hn
 obtain ⟨e1,e2,j,e3,e4,e5,e6⟩:=z6 Tf hdn h2 (see:= λx=>x) (dep:=Ii p (Hy p t)) (λ_ _ _ _=>rfl) (λ_ _=>rfl) n _ [] hi lp
 have hsx:(Ae p).getD ((Ae p).idxOf s) []=s:=by rw [Ce hi,Ml hi]
 have hg:Cu (Hy p t) (((Ae p).idxOf s:Nat):Int)=(n:Int):=by unfold Cu;rw [Ac];exact lp
 have hd:Ii p (Hy p t) s=(n:Int):=lp
 have hwo:Kw p (Hy p t) s=(gh p.2.2.1 (Ii p (Hy p t)) (Ao p.2.2.1.length) n s []).1:=by unfold Kw;rw [hd,Ac]
 have hw':Kw p (Hy p t) s=(Vj (Gi p) (Ao p.2.2.1.length) (Hy p t) n (((Ae p).idxOf s:Nat):Int) []).1:=by
  rw [e1,hwo,hsx]
 obtain ⟨u,u1,u2⟩:=jL (g:=p.2.2.1) (dep:=Ii p (Hy p t)) (ls:=Ao p.2.2.1.length) n s []
 have hu:u=Kw p (Hy p t) s:=by rw [hwo,u1];rfl
 rw [hsx,u2,hu] at e6
 have e6:(Ae p).getD j []=Dr p.2.2.1 s (Kw p (Hy p t) s):=e6
 refine ⟨j,?_,e4,e6,?_,λl hl=>?_⟩
 ·unfold Mq
  rw [JU,hg,Ac,<-hw',e3,hw',e2]
  simp only [Dv,Bk]
  by_cases hc:n>200
  ·rw [Ab (by omega),Ab hc]
  ·rw [Ai (by omega),Ai hc]
 ·rw [<-e6]
  have hx:=Ny (L:=Ae p) e4
  refine (h2.zero _ hx).1 ?_
  show (Hy p t).getD ((Ae p).idxOf ((Ae p).getD j [])) 0=0
  rw [Ou (uX Tf).nodup e4]
  exact e5
 ·refine Iz (cn (g:=p.2.2.1) (dep:=Ii p (Hy p t)) (ls:=Ao p.2.2.1.length) n s [] (by simp) l ?_)
  rw [<-hwo];exact hl
theorem HJ (n:Int) (str:ByteArray) (g:List (List Int)) (t s:List Int) (h:Gb (n,str,g,())/\short t/\short s):
  fnMW Uk (look [(110,Il),(112,Sk),(111,Yu),(114,Uw)]) Sm Try.f59 (n,str,g,t,s,()) (λ(z:(List Int×List Int×Bool×Unit)×Unit)=>z=(((Us (n,str,g,()) t s).1,(Us (n,str,g,()) t s).2.1,(Us (n,str,g,()) t s).2.2.1,()),())):=by
 obtain ⟨p,XO⟩: ∃p:PP,p=(n,str,g,()):=⟨_,rfl⟩
 refine Eq.mp (JG n str g t s _) ?_
 rw [<-XO] at h⊢
 unfold Us
 by_cases hw:Kx p t=true
 ·have he:Il.fn (p,t,s,())=some (some (Dy p t),(Gs p s).1,(Gs p s).2.1,()):=(Ab h).trans (Dm some (Ab hw))
  rw [hw,Kt]
  refine ⟨_,he,?_⟩
  dsimp only
  rw [xD]
  refine Br.of (λhb=>?_) λhb=>?_
  ·rw [Ai (Is hb)];rfl
  have Oj:s∈Ae p:=by simpa using hb
  obtain ⟨i1,i2,i3⟩:=tJ Oj
  rw [Ab (Bp Oj)]
  obtain ⟨Tf,mV⟩:=Lq.1 hw
  have hdl:=(pJ Tf mV).1.1
  have hds:Yu.fn (some (Ga p),Hy p t,(Gs p s).1,())=some (Mq p (Hy p t) (Gs p s).1,()):=
   Ab ⟨Ga p,rfl,⟨Tf,rfl⟩,yY Tf hdl (pJ Tf mV).2,i1,by show (Gs p s).1<((Hy p t).length:Int);rw [hdl];exact i2⟩
  have hdi:=xg hw
  obtain ⟨j,e1,e2,e3,e4,e5⟩:=VQ hw Oj
  have Ajq:Uw.fn (some (Dy p t),(j:Int),())=some (xL (Lm p t (Dr p.2.2.1 s (Kw p (Hy p t) s))),()):=by
   refine (Ab ⟨p,t,hw,rfl,by show (0:Int)<=j;omega,by show (j:Int)<_;omega⟩).trans (Dm some ?_)
   show (fG p t ((Ae p).getD ((j:Int)).toNat []),())=_
   rw [Ac,e3,Acl Tf mV e4]
  generalize Lm p t (Dr p.2.2.1 s (Kw p (Hy p t) s))=w2 at*
  rw [e1] at hds
  generalize Kw p (Hy p t) s=w at*
  generalize Hy p t=pd at*
  refine ⟨Dy p t,rfl,Dy p t,rfl,pd,hdi,_,hds,?_⟩
  unfold MN
  by_cases hc:w.length>200
  ·rw [Ab hc,Ab (.inl hc)]
   exact ⟨λ_=>rfl,λhb=>by simp at hb⟩
  rw [Ai hc]
  refine ⟨λhb=>by simp at hb,λ_=>⟨_,Ajq,?_⟩⟩
  unfold xL
  by_cases hc2:w2.length>200
  ·rw [Ab hc2,Ab (.inr hc2)]
   exact ⟨λ_=>rfl,λhb=>by simp at hb⟩
  rw [Ai hc2,Ai (by omega)]
  refine ⟨λhb=>by simp at hb,λ_=>?_⟩
  simp only [Dd]
 ·have he:Il.fn (p,t,s,())=some (none,0,false,()):=(Ab h).trans (Dm some (Ai hw))
  rw [En _|>.mp hw,Qg,Ai (by decide)]
  exact ⟨_,he,λ_=>rfl,λhb=>by simp at hb⟩
theorem rS:Dx Try.prog 59 Sm:=
 Dx.mA Sn (Ba cm (Ba oA (Gy wD (Gy qY Cc)))) mixed Try.func59 (by kernel_rfl) (by kernel_rfl) λx h=>HJ x.1 x.2.1 x.2.2.1 x.2.2.2.1 x.2.2.2.2.1 h
theorem wV (p q:List Int) (P:List Int->Prop):(0=0/\0=([]:List Int).length/\Ea (λ(v3:Int×List Int×PUnit) (k4:Int×List Int×PUnit->Prop)=>Br (decide (v3.1<(↑p.length:Int))) (∃(y5:Int),idx p v3.1=some y5/\ ∃(y6:Int),idx q y5=some y6/\0=0/\v3.2.1.length=v3.2.1.length/\v3.2.1.length+(List.take 1 (List.drop 0 [y6])).length<=Dt/\0=0/\(v3.2.1++List.take 1 (List.drop 0 [y6])).length=(v3.2.1++List.take 1 (List.drop 0 [y6])).length/\k4 (IntKind.i64.wrap (v3.1+(1:Int)),v3.2.1++List.take 1 (List.drop 0 [y6]),())) (P (List.take v3.2.1.length (List.drop 0 v3.2.1)))) ((0:Int),[],PUnit.unit))=fnW Gz (look []) La Try.f75 (p,q,()) P:=by kernel_rfl
theorem TC {p q:List Int} {j:Nat} (h:j<p.length):(Ak p q).take (j+1)=(Ak p q).take j++ [Cu q p[j]]:=by
 unfold Ak
 rw [Ej (by rw [Ck];exact h),Td]
theorem wo (p q:List Int) (h:List.length p<=20/\Sd (List.length q) p):fnW Gz (look []) La Try.f75 (p,q,()) (λ(z:List Int)=>z=Ak p q):=by
 obtain ⟨h1,h2⟩:=h
 refine Eq.mp (wV p q _) ⟨rfl,rfl,?_⟩
 refine Cg p.length (λv=>v.1) (λj v=>v=((j:Int),(Ak p q).take j,())) rfl rfl ?_
 rintro j v K hj hi rfl hK
 dsimp only
 have hlen:((Ak p q).take j).length<=20:=by rw [Ec];unfold Ak;rw [Ck];omega
 refine Br.dec (λhl=>?_) λhl=>?_
 ·have hl:j<p.length:=by omega
  have hr:=h2 p[j] (Am hl)
  refine ⟨_,Cf hl,Cu q p[j],Of hr.1 hr.2,rfl,rfl,?_,rfl,rfl,?_⟩
  ·show ((Ak p q).take j).length+1<=4294967296
   omega
  ·rw [Cb (by omega)]
   refine hK hl _ rfl ?_
   rw [TC hl]
   rfl
 ·have:j=p.length:=by omega
  subst this
  rw [Dd,<-Rw p q,Bh]
theorem de:Sound Try.prog 75 La:=
 Sound.Hg Ff Cc mixed Try.func75 (by kernel_rfl) (by kernel_rfl) λx h=>wo x.1 x.2.1 h
noncomputable def je (p:PP) (s:List Int):Int:=if Zo p s=true then Hm (Ae p) (Bc p) s else-1
noncomputable abbrev eM:Spec:=Hg (.pair Iw (.pair tL .unit)) (.pair Xf (.pair tI (.pair .bool .unit))) true false (λx=>Gb x.1/\short x.2.1) (λx=>((Dk x.1).1,je x.1 x.2.1,Zo x.1 x.2.1,()))
noncomputable abbrev mJ:Spec:=Hg (.pair Iw (.pair tL .unit)) tI false true (λx=>Gb x.1/\short x.2.1) (λx=>je x.1 x.2.1)
theorem Ad3 (p:Int×ByteArray×List (List Int)×Unit) (s:List Int) (P:((List (List Int)×List Int×List Int×Bool×Unit)×Int×Bool×Unit)->Prop):(∃(y3:(List (List Int)×List Int×List Int×Bool×PUnit)×Bool×PUnit),Mb.fn ((p.1,p.2.1,p.2.2.1,()),())=some y3/\Br (!y3.2.1) (P ((y3.1.1,y3.1.2.1,y3.1.2.2.1,y3.1.2.2.2.1,()),(-1:Int),false,())) (∃(y4:Bool),Lb.fn ((p.1,p.2.1,p.2.2.1,()),s,())=some y4/\Br (!y4) (P ((y3.1.1,y3.1.2.1,y3.1.2.2.1,y3.1.2.2.2.1,()),(-1:Int),false,())) (∃(y5:Int),bt.fn ((y3.1.1,y3.1.2.1,y3.1.2.2.1,y3.1.2.2.2.1,()),s,())=some y5/\P ((y3.1.1,y3.1.2.1,y3.1.2.2.1,y3.1.2.2.2.1,()),y5,decide (y5>=(0:Int)),()))))=fnW Gz (look [(84,Mb),(73,Lb),(102,bt)]) eM Try.f69 (p,s,()) P:=by kernel_rfl
theorem Al7 (p:Int×ByteArray×List (List Int)×Unit) (s:List Int) (P:Int->Prop):(∃(y3:(List (List Int)×List Int×List Int×Bool×PUnit)×Int×Bool×PUnit),eM.fn ((p.1,p.2.1,p.2.2.1,()),s,())=some y3/\Br (!y3.2.2.1) (P (-1:Int)) (P y3.2.1))=fnW Gz (look [(69,eM)]) mJ Try.f27 (p,s,()) P:=by kernel_rfl
theorem Abf (p:PP) (s:List Int) (h:Gb p/\short s):fnW Gz (look [(84,Mb),(73,Lb),(102,bt)]) eM Try.f69 (p,s,()) (λ(z:SS×Int×Bool×Unit)=>z=((Dk p).1,je p s,Zo p s,())):=by
 refine Eq.mp (Ad3 p s _) ⟨_,Ab h.1,?_⟩
 by_cases hw:Cy p=true
 ·have hv:=(Dg hw).1
  have e1:Dk p=(Ib p.2.2.1 (upto p.1.toNat),true,()):=by unfold Dk;rw [Ab hv,hw]
  show Br (!(Dk p).2.1) _ _
  refine ⟨λhb=>by rw [e1] at hb;simp at hb,λ_=>⟨_,Ab h,?_⟩⟩
  show Br (!(Cd p&&He p.1 s)) _ _
  rw [hv,Kt]
  unfold je Zo
  rw [hw,Kt]
  refine Br.of (λhb=>?_) λhb=>?_
  ·have hm: ¬s∈Ae p:= λhm=>by rw [OT hv hm] at hb;cases hb
   rw [Eu hm,Ai (by decide)]
  ·have hb:He p.1 s=true:=by simpa using hb
   have XQ:=LL (valid hv) hb
   refine ⟨_,Ab ⟨by show Gg s.length (Dk p).1.1 (Dk p).1.2.2.1;rw [e1,XQ.1];exact (aA hv).ok,by show (Dk p).1.2.1.length=(Dk p).1.1.length;rw [e1];exact (aA hv).len⟩,?_⟩
   have ZI:Hm (Dk p).1.1 (Dk p).1.2.1 s=Hm (Ae p) (Bc p) s:=by rw [e1];rfl
   by_cases hm:s∈Ae p
   ·have hd:=(oX hw hm).1
    rw [Bp hm,Ab rfl]
    show (_,Hm (Dk p).1.1 (Dk p).1.2.1 s,decide (Hm (Dk p).1.1 (Dk p).1.2.1 s>=0),())=_
    rw [ZI,Bp hd]
   ·have hd:Hm (Ae p) (Bc p) s= -1:=Ai hm
    rw [Eu hm,Ai (by decide)]
    show (_,Hm (Dk p).1.1 (Dk p).1.2.1 s,decide (Hm (Dk p).1.1 (Dk p).1.2.1 s>=0),())=_
    rw [ZI,hd]
    rfl
 ·have e1:(Dk p).2.1=false:=by
   unfold Dk
   by_cases hv:Cd p=true
   ·rw [Ab hv];exact En _|>.mp hw
   ·rw [Ai hv]
  show Br (!(Dk p).2.1) _ _
  rw [e1]
  refine ⟨λ_=>?_,λhb=>by simp at hb⟩
  have hf:Zo p s=false:=by unfold Zo;rw [En _|>.mp hw,Qg]
  unfold je
  rw [hf,Ai (by decide)]
theorem BJ:Sound Try.prog 69 eM:=
 Sound.Hg Ff (Ba jG (Ba Rl (Ba wC Cc))) mixed Try.func69 (by kernel_rfl) (by kernel_rfl) λx h=>Abf x.1 x.2.1 h
theorem Akc (p:PP) (s:List Int) (h:Gb p/\short s):fnW Gz (look [(69,eM)]) mJ Try.f27 (p,s,()) (λ(z:Int)=>z=je p s):=by
 refine Eq.mp (Al7 p s _) ⟨_,Ab h,?_⟩
 show Br (!Zo p s) _ _
 refine Br.of (λhb=>?_) λ_=>rfl
 unfold je
 rw [Ai (Is hb)]
theorem OL:Sound Try.prog 27 mJ:=
 Sound.Hg Ff (Ba BJ Cc) mixed Try.func27 (by kernel_rfl) (by kernel_rfl) λx h=>Akc x.1 x.2.1 h
theorem Ke.sub {g:List (List Int)} {ls:List Int} {L:List (List Int)} {S S':List Int->Prop} {d d':List Int->Int} (hc:lU g ls L) (h:Ke g ls L S d) (h':Ke g ls L S' d') (hS: ∀x∈L,S' x->S x):
  ∀(n:Nat) (x:List Int),x∈L->d' x=n->d x<=n
 |0,x,hx,e=>by
  have:=(h.zero x hx).2 (hS x hx ((h'.zero x hx).1 e))
  omega
 |n+1,x,hx,e=>by
  obtain ⟨l,hl,hd⟩:=h'.down x hx (by omega)
  obtain ⟨b1,b2⟩:=hc.back x hx l hl
  have h1:=Ke.sub hc h h' hS n _ (hc.next x hx l hl) (by omega)
  have h2:=h.step _ (hc.next x hx l hl) _ b1
  rw [b2] at h2
  omega
abbrev tB:Ty:= .slice (.int .u8)
abbrev XS:Ty:= .int .u64
def hN (h:Int):Int:=IntKind.u64.wrap (IntKind.u64.wrap (h*(6364136223846793005:Int))+(1442695040888963407:Int))
def xN (h:Int):Int:=IntKind.i64.wrap (IntKind.u64.wrap (↑(BitVec.ofInt IntKind.u64.bits (h.fdiv ((2:Int)^min (Int.toNat (33:Int)) IntKind.u64.bits))&&&BitVec.ofInt IntKind.u64.bits (16777215:Int)).toNat:Int))
def dI (b:List Int) (i:Int):Int:=if i<(b.length:Int) then i+1 else i
def dR (b:List Int) (i h n:Int):Int:=if i<(b.length:Int) then (xN (hN h)+Cu b i).tmod n else (xN (hN h)).tmod n
structure eV (b:List Int) (i:Int):Prop where
 len:b.length<=4096
 byte: ∀y∈b,0<=y/\y<256
 lo:0<=i
 hi:i<=b.length
def HX:List Int->Int->Int
 | [],h=>h
 |c::r,h=>HX r (IntKind.u64.wrap (IntKind.u64.wrap (IntKind.u64.wrap (h*(1099511628211:Int))+IntKind.u64.wrap c)+(3:Int)))
def px (b:List Int) (s:Int):Int:=HX b (IntKind.u64.wrap (IntKind.u64.wrap (s*(7919:Int))+IntKind.u64.wrap (b.length:Int)))
def a6 (b:List Int) (i h m:Int):Int×Int×Int:=(dI b (dI b i),hN (hN h),if dR b (dI b i) (hN h) 2=0 then-(1+dR b i h m) else 1+dR b i h m)
def wGo (b:List Int) (m:Int):Nat->Int->Int->List Int->Int×Int×List Int
 |0,i,h,w=>(i,h,w)
 |k+1,i,h,w=>wGo b m k (a6 b i h m).1 (a6 b i h m).2.1 (w++ [(a6 b i h m).2.2])
def Vq (b:List Int) (i h m k:Int):Int×Int×List Int:=wGo b m (dR b i h (k+1)).toNat (dI b i) (hN h) []
def gm (b:List Int) (n:Int):Nat->Int->Int->List Int->Int×Int×List Int
 |0,i,h,mv=>(i,h,mv)
 |k+1,i,h,mv=>gm b n k (dI b (dI b i)) (hN (hN h)) ((mv.set (dR b i h n).toNat (Cu mv (dR b (dI b i) (hN h) n))).set (dR b (dI b i) (hN h) n).toNat (Cu mv (dR b i h n)))
def pA (b:List Int) (n i h:Int):Int×Int×List Int:=gm b n (1+dR b i h 3).toNat (dI b i) (hN h) (upto n.toNat)
def aJ (b:List Int) (n:Int):Nat->Int->Int->List (List Int)->Int×Int×List (List Int)
 |0,i,h,ms=>(i,h,ms)
 |k+1,i,h,ms=>aJ b n k (pA b n i h).1 (pA b n i h).2.1 (ms++ [(pA b n i h).2.2])
def Aax:ByteArray:= {data:= #[(65:UInt8),(66:UInt8)]}
def aI (b:List Int) (i h:Int):Int×Int×PP:=((aJ b (3+dR b i h 3) 2 (dI b i) (hN h) []).1,(aJ b (3+dR b i h 3) 2 (dI b i) (hN h) []).2.1,(3+dR b i h 3,Aax,(aJ b (3+dR b i h 3) 2 (dI b i) (hN h) []).2.2,()))
noncomputable abbrev Ak1:MSpec:= {Jy:= [none,none],ins:= [(false, .Gw tB),(false, .Gw XS)],Ij:=false,Iu:= [none,none,none],outs:= [.Gw tB, .Gw tI, .Gw XS],fn:= λ_=>none,rp:=some 75}
noncomputable abbrev pR:MSpec:=oP Ak1 (λx=>List.length x.1<=4096) (λx=>((x.1,0,px x.1 x.2.1,()),()))
noncomputable abbrev Aez:MSpec:= {ptr:=some (75,3),Jy:= [none],ins:= [(false, .Gw tB),(false, .Gw tI),(false, .Gw XS),(false, .Gw tI)],Ij:=false,Iu:= [none],outs:= [.Gw tB, .Gw tI, .Gw XS, .Gw tI],fn:= λ_=>none}
noncomputable abbrev Lw:MSpec:=oP Aez (λx=>eV x.1 x.2.1/\1<=x.2.2.2.1) (λx=>((x.1,dI x.1 x.2.1,hN x.2.2.1,dR x.1 x.2.1 x.2.2.1 x.2.2.2.1,()),()))
noncomputable abbrev eI:MSpec:=mA [none] [(false, .Gw tI)] false [none] [rL] (λx=>0<=x.1/\x.1<=20) (λx=>((upto x.1.toNat,()),()))
noncomputable abbrev bz:MSpec:=mA [none] [(false, .Gw tI)] false [none] [rL] (λx=>1<=x.1/\x.1<=20) (λx=>((upto x.1.toNat,()),()))
noncomputable abbrev Uh:Spec:=Hg (.pair tI .unit) tL false true (λx=>1<=x.1/\x.1<=20) (λx=>upto x.1.toNat)
noncomputable abbrev yf:Spec:=Hg (.pair tB .unit) .bool false true (λ_=>True) (λx=>decide ((List.length x.1:Int)>4096))
noncomputable abbrev Apa:MSpec:= {ptr:=some (75,3),Jy:= [],ins:= [(false, .Gw tB),(false, .Gw tI),(false, .Gw XS)],Ij:=false,Iu:= [some 3],outs:= [.Gw tB, .Gw tI, .Gw XS, .Gw tI, .Gw .str,rLL],fn:= λ_=>none}
noncomputable abbrev yl:MSpec:=oP Apa (λx=>eV x.1 x.2.1) (λx=>((x.1,(aI x.1 x.2.1 x.2.2.1).1,(aI x.1 x.2.1 x.2.2.1).2.1,(aI x.1 x.2.1 x.2.2.1).2.2.1,(aI x.1 x.2.1 x.2.2.1).2.2.2.1,(aI x.1 x.2.1 x.2.2.1).2.2.2.2.1,()),()))
noncomputable abbrev Ap9:MSpec:= {ptr:=some (75,3),Jy:= [none],ins:= [(false, .Gw tB),(false, .Gw tI),(false, .Gw XS),(false, .Gw tI)],Ij:=false,Iu:= [none],outs:= [.Gw tB, .Gw tI, .Gw XS, .Gw tI],fn:= λ_=>none}
noncomputable abbrev yk:MSpec:=oP Ap9 (λx=>eV x.1 x.2.1/\1<=x.2.2.2.1/\x.2.2.2.1<=8) (λx=>((x.1,(a6 x.1 x.2.1 x.2.2.1 x.2.2.2.1).1,(a6 x.1 x.2.1 x.2.2.1 x.2.2.2.1).2.1,(a6 x.1 x.2.1 x.2.2.1 x.2.2.2.1).2.2,()),()))
noncomputable abbrev Apc:MSpec:= {ptr:=some (75,3),Jy:= [none,none],ins:= [(false, .Gw tB),(false, .Gw tI),(false, .Gw XS),(false, .Gw tI),(false, .Gw tI)],Ij:=false,Iu:= [none],outs:= [.Gw tB, .Gw tI, .Gw XS,rL],fn:= λ_=>none}
noncomputable abbrev qV:MSpec:=oP Apc (λx=>eV x.1 x.2.1/\(1<=x.2.2.2.1/\x.2.2.2.1<=8)/\0<=x.2.2.2.2.1/\x.2.2.2.2.1<=20) (λx=>((x.1,(Vq x.1 x.2.1 x.2.2.1 x.2.2.2.1 x.2.2.2.2.1).1,(Vq x.1 x.2.1 x.2.2.1 x.2.2.2.1 x.2.2.2.2.1).2.1,(Vq x.1 x.2.1 x.2.2.1 x.2.2.2.1 x.2.2.2.2.1).2.2,()),()))
theorem Ale (code:List Int) (OD:Int) (P:((List Int×Int×Int×Unit)×Unit)->Prop):(Ea (λ(v3:Int×List Int×Int×Int×PUnit) (k4:Int×List Int×Int×Int×PUnit->Prop)=>Br (decide (v3.1<(↑code.length:Int))) (∃(y5:Int),idx code v3.1=some y5/\k4 (IntKind.i64.wrap (v3.1+(1:Int)),v3.2.1,v3.2.2.1,IntKind.u64.wrap (IntKind.u64.wrap (IntKind.u64.wrap (v3.2.2.2.1*(1099511628211:Int))+IntKind.u64.wrap y5)+(3:Int)),())) (P ((v3.2.1,v3.2.2.1,v3.2.2.2.1,()),()))) ((0:Int),code,Int.ofNat (nat_lit 0),IntKind.u64.wrap (IntKind.u64.wrap (OD*(7919:Int))+IntKind.u64.wrap (↑code.length:Int)),PUnit.unit))=fnMW Uk (look []) pR Try.f11 (code,OD,()) P:=by kernel_rfl
theorem Ag2 (b:List Int) (i h n:Int) (P:((List Int×Int×Int×Int×Unit)×Unit)->Prop):(¬(33:Int)<(0:Int)/\Br (decide (i<(↑b.length:Int))) (∃(y5:Int),idx b i=some y5/\n≠(0:Int)/\P ((b,IntKind.i64.wrap (i+(1:Int)),IntKind.u64.wrap (IntKind.u64.wrap (h*(6364136223846793005:Int))+(1442695040888963407:Int)),(IntKind.i64.wrap (IntKind.i64.wrap (IntKind.u64.wrap (↑(BitVec.ofInt IntKind.u64.bits ((IntKind.u64.wrap (IntKind.u64.wrap (h*(6364136223846793005:Int))+(1442695040888963407:Int))).fdiv ((2:Int)^min (Int.toNat (33:Int)) IntKind.u64.bits))&&&BitVec.ofInt IntKind.u64.bits (16777215:Int)).toNat:Int))+IntKind.i64.wrap y5)).tmod n,()),())) (n≠(0:Int)/\P ((b,i,IntKind.u64.wrap (IntKind.u64.wrap (h*(6364136223846793005:Int))+(1442695040888963407:Int)),(IntKind.i64.wrap (IntKind.u64.wrap (↑(BitVec.ofInt IntKind.u64.bits ((IntKind.u64.wrap (IntKind.u64.wrap (h*(6364136223846793005:Int))+(1442695040888963407:Int))).fdiv ((2:Int)^min (Int.toNat (33:Int)) IntKind.u64.bits))&&&BitVec.ofInt IntKind.u64.bits (16777215:Int)).toNat:Int))).tmod n,()),())))=fnMW Uk (look []) Lw Try.f17 (b,i,h,n,()) P:=by kernel_rfl
theorem Aq4 (code:List Int) (P:Bool->Prop):(P (decide ((↑code.length:Int)>(4096:Int))))=fnW Gz (look []) yf Try.f10 (code,()) P:=by kernel_rfl
theorem Acw (n:Int) (P:((List Int×Unit)×Unit)->Prop):(0=0/\0=([]:List Int).length/\Ea (λ(v2:Int×List Int×PUnit) (k3:Int×List Int×PUnit->Prop)=>Br (decide (v2.1<n)) (0=0/\v2.2.1.length=v2.2.1.length/\v2.2.1.length+(List.take 1 (List.drop 0 [v2.1])).length<=Dt/\0=0/\(v2.2.1++List.take 1 (List.drop 0 [v2.1])).length=(v2.2.1++List.take 1 (List.drop 0 [v2.1])).length/\k3 (IntKind.i64.wrap (v2.1+(1:Int)),v2.2.1++List.take 1 (List.drop 0 [v2.1]),())) (P ((List.take v2.2.1.length (List.drop 0 v2.2.1),()),()))) ((0:Int),[],PUnit.unit))=fnMW Uk (look []) eI Try.f66 (n,()) P:=by kernel_rfl
theorem WY (n:Int) (P:((List Int×Unit)×Unit)->Prop):(∃(y2:Bool),Ct.fn (n,(1:Int),(20:Int),())=some y2/\Br (!y2) (P ((List.take 0 (List.drop 0 []),()),())) (∃(y3:(List Int×PUnit)×PUnit),eI.fn (n,())=some y3/\P ((List.take y3.1.1.length (List.drop 0 y3.1.1),()),())))=fnMW Uk (look [(65,Ct),(66,eI)]) bz Try.f16 (n,()) P:=by kernel_rfl
theorem Ad2 (n:Int) (P:List Int->Prop):(∃(y2:Bool),Ct.fn (n,(1:Int),(20:Int),())=some y2/\Br (!y2) (P (List.take 0 (List.drop 0 []))) (∃(y3:List Int),Dn.fn (n,())=some y3/\P y3))=fnW Gz (look [(65,Ct),(66,Dn)]) Uh Try.f16 (n,()) P:=by kernel_rfl
abbrev Ac2:Type:=Int×Int×ByteArray×Int×ByteArray×List (List Int)×List (List Int)×List Int×List Int×Int×Int×PUnit
abbrev Ac5:Type:=Int×ByteArray×Int×ByteArray×List (List Int)×List (List Int)×List Int×Int×Int×PUnit
abbrev BX:Type:=(List Int×Int×Int×Int×PUnit)×PUnit
theorem Aqa (b:List Int) (i h:Int) (P:((List Int×Int×Int×Int×ByteArray×List (List Int)×Unit)×Unit)->Prop):(∃(y4:BX),Lw.fn (b,i,h,(3:Int),())=some y4/\0=0/\0=([]:List Int).length/\0=0/\0=([]:List Int).length/\Ea (λ(v5:Ac5) (k6:Ac5->Prop)=>Br (decide ((↑v5.2.2.2.2.2.1.length:Int)<(2:Int))) (∃(y7:(List Int×PUnit)×PUnit),bz.fn (v5.2.2.1,())=some y7/\ ∃(y8:BX),Lw.fn (v5.2.2.2.2.2.2.1,v5.2.2.2.2.2.2.2.1,v5.2.2.2.2.2.2.2.2.1,(3:Int),())=some y8/\0=0/\y7.1.1.length=y7.1.1.length/\0=0/\v5.2.2.2.2.1.length=v5.2.2.2.2.1.length/\0=0/\v5.2.2.2.2.2.1.length=v5.2.2.2.2.2.1.length/\Ea (λ(v9:Ac2) (k10:Ac2->Prop)=>Br (decide (v9.1>(0:Int))) (∃(Th:BX),Lw.fn (v9.2.2.2.2.2.2.2.2.1,v9.2.2.2.2.2.2.2.2.2.1,v9.2.2.2.2.2.2.2.2.2.2.1,v9.2.2.2.1,())=some Th/\ ∃(Xp:BX),Lw.fn (Th.1.1,Th.1.2.1,Th.1.2.2.1,v9.2.2.2.1,())=some Xp/\((0:Int)<=Th.1.2.2.2.1/\Th.1.2.2.2.1<(↑v9.2.2.2.2.2.2.2.1.length:Int))/\ ∃(gx:Int),v9.2.2.2.2.2.2.2.1[0+Th.1.2.2.2.1.toNat]?=some gx/\((0:Int)<=Xp.1.2.2.2.1/\Xp.1.2.2.2.1<(↑v9.2.2.2.2.2.2.2.1.length:Int))/\ ∃(Vi:Int),v9.2.2.2.2.2.2.2.1[0+Xp.1.2.2.2.1.toNat]?=some Vi/\((0:Int)<=Th.1.2.2.2.1/\Th.1.2.2.2.1<(↑v9.2.2.2.2.2.2.2.1.length:Int))/\0+Th.1.2.2.2.1.toNat<v9.2.2.2.2.2.2.2.1.length/\((0:Int)<=Xp.1.2.2.2.1/\Xp.1.2.2.2.1<(↑v9.2.2.2.2.2.2.2.1.length:Int))/\0+Xp.1.2.2.2.1.toNat<(v9.2.2.2.2.2.2.2.1.set (0+Th.1.2.2.2.1.toNat) Vi).length/\0=0/\v9.2.2.2.2.2.2.2.1.length=((v9.2.2.2.2.2.2.2.1.set (0+Th.1.2.2.2.1.toNat) Vi).set (0+Xp.1.2.2.2.1.toNat) gx).length/\0=0/\v9.2.2.2.2.2.1.length=v9.2.2.2.2.2.1.length/\0=0/\v9.2.2.2.2.2.2.1.length=v9.2.2.2.2.2.2.1.length/\k10 (IntKind.i64.wrap (v9.1-(1:Int)),v9.2.1,v9.2.2.1,v9.2.2.2.1,v9.2.2.2.2.1,v9.2.2.2.2.2.1,v9.2.2.2.2.2.2.1,(v9.2.2.2.2.2.2.2.1.set (0+Th.1.2.2.2.1.toNat) Vi).set (0+Xp.1.2.2.2.1.toNat) gx,Xp.1.1,Xp.1.2.1,Xp.1.2.2.1,())) (0=0/\v9.2.2.2.2.2.2.1.length=v9.2.2.2.2.2.2.1.length/\v9.2.2.2.2.2.2.1.length+(List.take 1 (List.drop 0 [List.take v9.2.2.2.2.2.2.2.1.length (List.drop 0 v9.2.2.2.2.2.2.2.1)])).length<=Dt/\0=0/\v9.2.2.2.2.2.1.length=v9.2.2.2.2.2.1.length/\0=0/\(v9.2.2.2.2.2.2.1++List.take 1 (List.drop 0 [List.take v9.2.2.2.2.2.2.2.1.length (List.drop 0 v9.2.2.2.2.2.2.2.1)])).length=(v9.2.2.2.2.2.2.1++List.take 1 (List.drop 0 [List.take v9.2.2.2.2.2.2.2.1.length (List.drop 0 v9.2.2.2.2.2.2.2.1)])).length/\k6 (v9.2.1,v9.2.2.1,v9.2.2.2.1,v9.2.2.2.2.1,v9.2.2.2.2.2.1,v9.2.2.2.2.2.2.1++List.take 1 (List.drop 0 [List.take v9.2.2.2.2.2.2.2.1.length (List.drop 0 v9.2.2.2.2.2.2.2.1)]),v9.2.2.2.2.2.2.2.2.1,v9.2.2.2.2.2.2.2.2.2.1,v9.2.2.2.2.2.2.2.2.2.2.1,()))) (IntKind.i64.wrap ((1:Int)+y8.1.2.2.2.1),v5.1,v5.2.1,v5.2.2.1,v5.2.2.2.1,v5.2.2.2.2.1,v5.2.2.2.2.2.1,y7.1.1,y8.1.1,y8.1.2.1,y8.1.2.2.1,PUnit.unit)) (P ((v5.2.2.2.2.2.2.1,v5.2.2.2.2.2.2.2.1,v5.2.2.2.2.2.2.2.2.1,v5.2.2.1,v5.2.2.2.1,List.take v5.2.2.2.2.2.1.length (List.drop 0 v5.2.2.2.2.2.1),()),()))) (Int.ofNat (nat_lit 0), {data:= #[]},IntKind.i64.wrap ((3:Int)+y4.1.2.2.2.1), {data:= #[(65:UInt8),(66:UInt8)]},[],[],y4.1.1,y4.1.2.1,y4.1.2.2.1,PUnit.unit))=fnMW Uk (look [(17,Lw),(16,bz)]) yl Try.f12 (b,i,h,()) P:=by kernel_rfl
abbrev Ac1:Type:=(List Int×Int×Int×Int×PUnit)×PUnit
theorem Aq9 (b:List Int) (i h m:Int) (P:((List Int×Int×Int×Int×Unit)×Unit)->Prop):(∃(y5:Ac1),Lw.fn (b,i,h,m,())=some y5/\ ∃(y6:Ac1),Lw.fn (y5.1.1,y5.1.2.1,y5.1.2.2.1,(2:Int),())=some y6/\Br (y6.1.2.2.2.1==(0:Int)) (P ((y6.1.1,y6.1.2.1,y6.1.2.2.1,IntKind.i64.wrap ((0:Int)-IntKind.i64.wrap ((1:Int)+y5.1.2.2.2.1)),()),())) (P ((y6.1.1,y6.1.2.1,y6.1.2.2.1,IntKind.i64.wrap ((1:Int)+y5.1.2.2.2.1),()),())))=fnMW Uk (look [(17,Lw)]) yk Try.f138 (b,i,h,m,()) P:=by kernel_rfl
abbrev Ac3:Type:=Int×List Int×List Int×Int×Int×PUnit
abbrev Ac6:Type:=(List Int×Int×Int×Int×PUnit)×PUnit
theorem Aqc (b:List Int) (i h m k:Int) (P:((List Int×Int×Int×List Int×Unit)×Unit)->Prop):(∃(y6:Ac6),Lw.fn (b,i,h,IntKind.i64.wrap (k+(1:Int)),())=some y6/\0=0/\0=([]:List Int).length/\Ea (λ(v7:Ac3) (k8:Ac3->Prop)=>Br (decide (v7.1>(0:Int))) (∃(y9:Ac6),yk.fn (v7.2.2.1,v7.2.2.2.1,v7.2.2.2.2.1,m,())=some y9/\0=0/\v7.2.1.length=v7.2.1.length/\v7.2.1.length+(List.take 1 (List.drop 0 [y9.1.2.2.2.1])).length<=Dt/\0=0/\(v7.2.1++List.take 1 (List.drop 0 [y9.1.2.2.2.1])).length=(v7.2.1++List.take 1 (List.drop 0 [y9.1.2.2.2.1])).length/\k8 (IntKind.i64.wrap (v7.1-(1:Int)),v7.2.1++List.take 1 (List.drop 0 [y9.1.2.2.2.1]),y9.1.1,y9.1.2.1,y9.1.2.2.1,())) (P ((v7.2.2.1,v7.2.2.2.1,v7.2.2.2.2.1,List.take v7.2.1.length (List.drop 0 v7.2.1),()),()))) (y6.1.2.2.2.1,[],y6.1.1,y6.1.2.1,y6.1.2.2.1,PUnit.unit))=fnMW Uk (look [(17,Lw),(138,yk)]) qV Try.f62 (b,i,h,m,k,()) P:=by kernel_rfl
theorem Ai5 (h:Int):0<=xN h/\xN h<=16777215:=by
 obtain ⟨a,ha⟩: ∃a,BitVec.ofInt IntKind.u64.bits (h.fdiv ((2:Int)^min (Int.toNat (33:Int)) IntKind.u64.bits))=a:=⟨_,rfl⟩
 have h1:(a&&&BitVec.ofInt IntKind.u64.bits (16777215:Int)).toNat<=16777215:=by
  rw [BitVec.toNat_and]
  exact Nat.and_le_right
 unfold xN
 rw [ha]
 obtain ⟨x,hx⟩: ∃x,(a&&&BitVec.ofInt IntKind.u64.bits (16777215:Int)).toNat=x:=⟨_,rfl⟩
 rw [hx] at h1⊢
 have e:IntKind.u64.wrap (x:Int)=x:=by
  unfold IntKind.wrap
  have e1:IntKind.signed .u64=false:=rfl
  have e2:IntKind.bits .u64=64:=rfl
  rw [e1,e2]
  simp only [Qg,Di,Rt]
  omega
 rw [e,Cj (by omega) (by omega)]
 omega
theorem eV.Cu {b:List Int} {i:Int} (h:eV b i) (hi:i<b.length):0<=Cu b i/\Cu b i<256:=by
 have h0:=h.lo
 have hl:i.toNat<b.length:=by omega
 refine h.byte _ ?_
 unfold Go.Proofs.Ytkkdpknjohcekaa.Cu
 rw [Al,Ad hl]
 exact Am hl
theorem eV.next {b:List Int} {i:Int} (h:eV b i):eV b (dI b i):=by
 have h0:=h.lo
 have h1:=h.hi
 unfold dI
 split
 ·exact ⟨h.len,h.byte,by omega,by omega⟩
 ·exact h
theorem gC {b:List Int} {i n:Int} (h:eV b i) (hn:1<=n) (s:Int):0<=dR b i s n/\dR b i s n<n:=by
 have hx:=Ai5 (hN s)
 unfold dR
 split
 ·rename_i hi
  have:=h.Cu hi
  exact ⟨Int.tmod_nonneg _ (by omega),Int.tmod_lt_of_pos _ (by omega)⟩
 ·exact ⟨Int.tmod_nonneg _ (by omega),Int.tmod_lt_of_pos _ (by omega)⟩
theorem Akj (code:List Int) (OD:Int) (h:code.length<=4096):fnMW Uk (look []) pR Try.f11 (code,OD,()) (λ(z:(List Int×Int×Int×Unit)×Unit)=>z=((code,0,px code OD,()),())):=by
 obtain ⟨R,hR⟩: ∃R,px code OD=R:=⟨_,rfl⟩
 rw [hR]
 unfold px at hR
 refine Eq.mp (Ale code OD _) ?_
 refine Cg code.length (λv=>v.1) (λj v=>v.2.1=code/\v.2.2.1=0/\HX (code.drop j) v.2.2.2.1=R) rfl ⟨rfl,rfl,hR⟩ ?_
 rintro j ⟨jj,c,i,s,⟨⟩⟩ K hj mT ⟨r1,r2,r3⟩ hK
 dsimp only at mT r1 r2 r3⊢
 subst mT r1 r2
 refine Br.dec (λhl=>?_) λhl=>?_
 ·have hl:j<c.length:=by omega
  refine ⟨_,Cf hl,?_⟩
  rw [Cb (by omega)]
  rw [Hp hl,HX] at r3
  exact hK hl _ rfl ⟨rfl,rfl,r3⟩
 ·have:j=c.length:=by omega
  subst this
  rw [Zg,HX] at r3
  rw [r3]
theorem OP:Dx Try.prog 11 pR:=
 Dx.oP Sn Cc mixed Try.func11 (by kernel_rfl) (by kernel_rfl) λx h=>Akj x.1 x.2.1 h
theorem Af8 (b:List Int) (i h n:Int) (hd:eV b i/\1<=n):fnMW Uk (look []) Lw Try.f17 (b,i,h,n,()) (λ(z:(List Int×Int×Int×Int×Unit)×Unit)=>z=((b,dI b i,hN h,dR b i h n,()),())):=by
 obtain ⟨hd,hn⟩:=hd
 have h0:=hd.lo
 have hlen:=hd.len
 have hx:=Ai5 (hN h)
 refine Eq.mp (Ag2 b i h n _) ⟨by omega,Br.dec (λhl=>?_) λhl=>?_⟩
 ·have hg:=hd.Cu hl
  refine ⟨_,Of h0 hl,by omega,?_⟩
  rw [Cj (n:=Cu b i) (by omega) (by omega)]
  show ((b,IntKind.i64.wrap (i+1),hN h,(IntKind.i64.wrap (xN (hN h)+Cu b i)).tmod n,()),())=_
  rw [Cj (by omega) (by omega),Cj (by omega) (by omega)]
  unfold dI dR
  rw [Ab hl,Ab hl]
 ·refine ⟨by omega,?_⟩
  show ((b,i,hN h,(xN (hN h)).tmod n,()),())=_
  unfold dI dR
  rw [Ai hl,Ai hl]
theorem dd:Dx Try.prog 17 Lw:=
 Dx.oP Sn Cc mixed Try.func17 (by kernel_rfl) (by kernel_rfl) λx h=>Af8 x.1 x.2.1 x.2.2.1 x.2.2.2.1 h
theorem Apl (code:List Int) (_:True):fnW Gz (look []) yf Try.f10 (code,()) (λ(z:Bool)=>z=decide ((code.length:Int)>4096)):=Eq.mp (Aq4 code _) rfl
theorem VR:Sound Try.prog 10 yf:=
 Sound.Hg Ff Cc mixed Try.func10 (by kernel_rfl) (by kernel_rfl) λx h=>Apl x.1 h
theorem Apr (b:List Int) (i h m:Int) (hd:eV b i/\1<=m/\m<=8):fnMW Uk (look [(17,Lw)]) yk Try.f138 (b,i,h,m,()) (λ(z:(List Int×Int×Int×Int×Unit)×Unit)=>z=((b,(a6 b i h m).1,(a6 b i h m).2.1,(a6 b i h m).2.2,()),())):=by
 obtain ⟨hd,h1,h8⟩:=hd
 have hr:=gC hd h1 h
 refine Eq.mp (Aq9 b i h m _) ⟨_,Ab ⟨hd,h1⟩,_,Ab ⟨hd.next,by show (1:Int)<=2;decide⟩,Br.of (λhz=>?_) λhz=>?_⟩
 ·have hz:dR b (dI b i) (hN h) 2=0:=by simpa using hz
  show ((b,dI b (dI b i),hN (hN h),IntKind.i64.wrap (0-IntKind.i64.wrap (1+dR b i h m)),()),())=_
  rw [Cj (n:=1+dR b i h m) (by omega) (by omega),Cj (by omega) (by omega)]
  unfold a6
  rw [Ab hz,Int.zero_sub]
 ·have hz: ¬dR b (dI b i) (hN h) 2=0:=by simpa using hz
  show ((b,dI b (dI b i),hN (hN h),IntKind.i64.wrap (1+dR b i h m),()),())=_
  rw [Cj (by omega) (by omega)]
  unfold a6
  rw [Ai hz]
theorem VW:Dx Try.prog 138 yk:=
 Dx.oP Sn (Gy dd Cc) mixed Try.func138 (by kernel_rfl) (by kernel_rfl) λx h=>Apr x.1 x.2.1 x.2.2.1 x.2.2.2.1 h
theorem Ab8 (n:Int) (h:0<=n/\n<=20):fnMW Uk (look []) eI Try.f66 (n,()) (λ(z:(List Int×Unit)×Unit)=>z=((upto n.toNat,()),())):=by
 refine Eq.mp (Acw n _) ⟨rfl,rfl,?_⟩
 refine Cg n.toNat (λv=>v.1) (λj v=>v.2.1=upto j) rfl rfl ?_
 rintro j ⟨i,ys,⟨⟩⟩ K hj hi h1 hK
 dsimp only at hi h1⊢
 subst hi h1
 refine Br.dec (λhl=>?_) λhl=>?_
 ·refine ⟨rfl,rfl,?_,rfl,rfl,?_⟩
  ·show (upto j).length+1<=4294967296
   rw [Nf];omega
  ·rw [Cb (by omega)]
   exact hK (by omega) _ rfl (bC j).symm
 ·have:j=n.toNat:=by omega
  subst this
  rw [Dd]
theorem BD:Dx Try.prog 66 eI:=
 Dx.mA Sn Cc mixed Try.func66 (by kernel_rfl) (by kernel_rfl) λx h=>Ab8 x.1 h
theorem VD (n:Int) (h:1<=n/\n<=20):fnMW Uk (look [(65,Ct),(66,eI)]) bz Try.f16 (n,()) (λ(z:(List Int×Unit)×Unit)=>z=((upto n.toNat,()),())):=by
 refine Eq.mp (WY n _) ⟨true,Ab trivial|>.trans (Dm some (Bp ⟨h.1,h.2⟩)),λhc=>(by cases hc),λ_=>⟨_,Ab ⟨by show 0<=n;omega,h.2⟩,?_⟩⟩
 rw [Dd]
theorem wJ:Dx Try.prog 16 bz:=
 Dx.mA Sn (Ba Qz (Gy BD Cc)) mixed Try.func16 (by kernel_rfl) (by kernel_rfl) λx h=>VD x.1 h
theorem Abe (n:Int) (h:1<=n/\n<=20):fnW Gz (look [(65,Ct),(66,Dn)]) Uh Try.f16 (n,()) (λ(z:List Int)=>z=upto n.toNat):=
 Eq.mp (Ad2 n _) ⟨true,Ab trivial|>.trans (Dm some (Bp ⟨h.1,h.2⟩)),λhc=>(by cases hc),λ_=>⟨_,Ab ⟨by show 0<=n;omega,h.2⟩,rfl⟩⟩
theorem BI:Sound Try.prog 16 Uh:=
 Sound.Hg Ff (Ba Qz (Ba Xc Cc)) mixed Try.func16 (by kernel_rfl) (by kernel_rfl) λx h=>Abe x.1 h
theorem SP {b:List Int} {i:Int} (hd:eV b i) (h m:Int):eV b (a6 b i h m).1:=hd.next.next
theorem Apu (b:List Int) (i h m k:Int) (hd:eV b i/\(1<=m/\m<=8)/\0<=k/\k<=20):fnMW Uk (look [(17,Lw),(138,yk)]) qV Try.f62 (b,i,h,m,k,()) (λ(z:(List Int×Int×Int×List Int×Unit)×Unit)=>z=((b,(Vq b i h m k).1,(Vq b i h m k).2.1,(Vq b i h m k).2.2,()),())):=by
 obtain ⟨hd,hm,si,hk⟩:=hd
 have hr:=gC hd (show 1<=k+1 by omega) h
 obtain ⟨R,hR⟩: ∃R,Vq b i h m k=R:=⟨_,rfl⟩
 rw [hR]
 unfold Vq at hR
 refine Eq.mp (Aqc b i h m k _) ?_
 rw [Cj (by omega) (by omega)]
 refine ⟨_,Ab ⟨hd,by show 1<=k+1;omega⟩,rfl,rfl,?_⟩
 refine Ea.mk (λy=> ∃(f:Nat) (i h:Int) (w:List Int),y=((f:Int),w,b,i,h,())/\eV b i/\f+w.length<=20/\wGo b m f i h w=R) (λy=>y.1.toNat)
  ⟨(dR b i h (k+1)).toNat,dI b i,hN h,[],by rw [Rp hr.1],hd.next,by simp only [Dv];omega,hR⟩ ?_
 rintro y ⟨f,i,h,w,rfl,hd,hl,hv⟩
 dsimp only
 refine Br.dec (λhf=>?_) λhf=>?_
 ·obtain ⟨f,rfl⟩: ∃f',f=f'+1:=⟨f-1,by omega⟩
  refine ⟨_,Ab ⟨hd,hm⟩,rfl,rfl,by show w.length+1<=4294967296;omega,rfl,rfl,?_⟩
  rw [Cj (by omega) (by omega)]
  rw [wGo] at hv
  exact ⟨⟨f,_,_,_,by rw [show ((f+1:Nat):Int)-1=(f:Int) by omega];rfl,SP hd h m,by rw [Ax];show f+(w.length+1)<=20;omega,hv⟩,by show ((((f+1:Nat):Int)-1).toNat)<(((f+1:Nat):Int)).toNat;omega⟩
 ·obtain rfl:f=0:=by omega
  rw [wGo] at hv
  rw [<-hv]
  simp only [Dd]
theorem VZ:Dx Try.prog 62 qV:=
 Dx.oP Sn (Gy dd (Gy VW Cc)) mixed Try.func62 (by kernel_rfl) (by kernel_rfl) λx h=>Apu x.1 x.2.1 x.2.2.1 x.2.2.2.1 x.2.2.2.2.1 h
theorem IS {b:List Int} (n:Int): ∀(k:Nat) (i h:Int) (mv:List Int),eV b i->eV b (gm b n k i h mv).1
 |0,_,_,_,hd=>hd
 |k+1,i,h,mv,hd=>by rw [gm];exact IS n k _ _ _ hd.next.next
theorem u9 {b:List Int} {n i:Int} (hd:eV b i) (h:Int):eV b (pA b n i h).1:=IS n _ _ _ _ hd.next
theorem RW (b:List Int) (n:Int): ∀(k:Nat) (i h:Int) (ms:List (List Int)),(aJ b n k i h ms).2.2.length=k+ms.length
 |0,_,_,ms=>by rw [aJ];show ms.length=0+ms.length;omega
 |k+1,i,h,ms=>by rw [aJ,RW b n k,Ax,Bn];omega
theorem RV {b:List Int} (n:Int): ∀(k:Nat) (i h:Int) (ms:List (List Int)),eV b i->eV b (aJ b n k i h ms).1
 |0,_,_,_,hd=>hd
 |k+1,i,h,ms,hd=>by rw [aJ];exact RV n k _ _ _ (u9 hd h)
theorem Amp {xs:List Int} {y:Int} (h0:0<=y) (h:y<xs.length):xs[0+y.toNat]?=some (Cu xs y):=by
 have hl:y.toNat<xs.length:=by omega
 unfold Cu
 rw [Bk,Al,Ad hl]
 rfl
theorem Aps (b:List Int) (i h:Int) (hd:eV b i):fnMW Uk (look [(17,Lw),(16,bz)]) yl Try.f12 (b,i,h,()) (λ(z:(List Int×Int×Int×Int×ByteArray×List (List Int)×Unit)×Unit)=>z=((b,(aI b i h).1,(aI b i h).2.1,(aI b i h).2.2.1,(aI b i h).2.2.2.1,(aI b i h).2.2.2.2.1,()),())):=by
 have hr:=gC hd (show (1:Int)<=3 by decide) h
 obtain ⟨n,hn⟩: ∃n,3+dR b i h 3=n:=⟨_,rfl⟩
 obtain ⟨R,hR⟩: ∃R,aJ b n 2 (dI b i) (hN h) []=R:=⟨_,rfl⟩
 have hm:aI b i h=(R.1,R.2.1,(n,Aax,R.2.2,())):=by unfold aI;rw [hn,hR]
 rw [hm]
 refine Eq.mp (Aqa b i h _) ⟨_,Ab ⟨hd,by show (1:Int)<=3;decide⟩,rfl,rfl,rfl,rfl,?_⟩
 dsimp only
 rw [Cj (n:=3+dR b i h 3) (by omega) (by omega),hn]
 have hn3:3<=n/\n<=5:=by omega
 refine Ea.mk (λy=> ∃(f:Nat) (i h:Int) (ms:List (List Int)),y=((0:Int), {data:= #[]},n,Aax,[],ms,b,i,h,())/\eV b i/\f+ms.length=2/\aJ b n f i h ms=R) (λy=>2-y.2.2.2.2.2.1.length)
  ⟨2,dI b i,hN h,[],rfl,hd.next,rfl,hR⟩ ?_
 rintro y ⟨f,i,h,ms,rfl,hd,hl,hv⟩
 dsimp only
 refine Br.dec (λhf=>?_) λhf=>?_
 ·obtain ⟨f,rfl⟩: ∃f',f=f'+1:=⟨f-1,by omega⟩
  rw [aJ] at hv
  obtain ⟨M,hM⟩: ∃M,pA b n i h=M:=⟨_,rfl⟩
  have hMd:eV b M.1:=by rw [<-hM];exact u9 hd h
  rw [hM] at hv
  unfold pA at hM
  have hr:=gC hd (show (1:Int)<=3 by decide) h
  refine ⟨_,Ab ⟨by show 1<=n;omega,by show n<=20;omega⟩,_,Ab ⟨hd,by show (1:Int)<=3;decide⟩,rfl,rfl,rfl,rfl,rfl,rfl,?_⟩
  dsimp only
  rw [Cj (n:=1+dR b i h 3) (by omega) (by omega)]
  refine Ea.mk (λz=> ∃(c:Nat) (i h:Int) (mv:List Int),z=((c:Int),(0:Int), {data:= #[]},n,Aax,[],ms,mv,b,i,h,())/\eV b i/\c<=3/\mv.length=n.toNat/\gm b n c i h mv=M) (λz=>z.1.toNat)
   ⟨(1+dR b i h 3).toNat,dI b i,hN h,upto n.toNat,by rw [Rp (by omega)],hd.next,by omega,Nf _,hM⟩ ?_
  rintro z ⟨c,i',h',mv,rfl,JS,hc,j0,hsw⟩
  dsimp only
  refine Br.dec (λkO=>?_) λkO=>?_
  ·obtain ⟨c,rfl⟩: ∃c',c=c'+1:=⟨c-1,by omega⟩
   rw [gm] at hsw
   have r1:=gC JS (show 1<=n by omega) h'
   have r2:=gC JS.next (show 1<=n by omega) (hN h')
   have l1:dR b i' h' n<mv.length:=by omega
   have l2:dR b (dI b i') (hN h') n<mv.length:=by omega
   refine ⟨_,Ab ⟨JS,by show 1<=n;omega⟩,_,Ab ⟨JS.next,by show 1<=n;omega⟩,⟨r1.1,l1⟩,_,Amp r1.1 l1,⟨r2.1,l2⟩,_,Amp r2.1 l2,⟨r1.1,l1⟩,by show 0+(dR b i' h' n).toNat<mv.length;omega,⟨r2.1,l2⟩,
    by rw [Bv];show 0+(dR b (dI b i') (hN h') n).toNat<mv.length;omega,rfl,by simp only [Bv],rfl,rfl,rfl,rfl,?_⟩
   dsimp only
   rw [Cj (by omega) (by omega),Bk,Bk]
   exact ⟨⟨c,_,_,_,by rw [show ((c+1:Nat):Int)-1=(c:Int) by omega],JS.next.next,by omega,by simp only [Bv];exact j0,hsw⟩,by show ((((c+1:Nat):Int)-1).toNat)<(((c+1:Nat):Int)).toNat;omega⟩
  ·obtain rfl:c=0:=by omega
   rw [gm] at hsw
   subst hsw
   refine ⟨rfl,rfl,by show ms.length+1<=4294967296;omega,rfl,rfl,rfl,rfl,?_⟩
   rw [Dd]
   exact ⟨⟨f,_,_,_,rfl,hMd,by rw [Ax];show f+(ms.length+1)=2;omega,hv⟩,by show 2-(ms++ [mv]).length<2-ms.length;rw [Ax,Bn];omega⟩
 ·obtain rfl:f=0:=by omega
  rw [aJ] at hv
  rw [<-hv]
  simp only [Dd]
theorem VX:Dx Try.prog 12 yl:=
 Dx.oP Sn (Gy dd (Gy wJ Cc)) mixed Try.func12 (by kernel_rfl) (by kernel_rfl) λx h=>Aps x.1 x.2.1 x.2.2.1 h
end Go.Proofs.Ytkkdpknjohcekaa
