/-
  Part 44 of the proof that the statement FnExactSolveTwoPhaseWithin holds.
-/
import Derived.Test.YtfgfigkbgecfnaaCSolveTwoPhaseWithin42
namespace Go.Proofs.Ytfgfigkbgecfnaa
open Go.RowKit
noncomputable abbrev Tj:Spec:=Ho (.pair tU (.pair tU .unit)) (.pair tU (.pair tU .unit)) true true (λx=>x.1=1/\0<=x.2.1/\x.2.1<=100000) (λx=>(0,x.2.1,()))
noncomputable abbrev fh:MSpec:=cW [none,none] [(false, .Ia tL),(false, .Ia tI)] false [none] [rL] (λx=>(∃v,x.1= [v])/\1<=x.2.1/\x.2.1<=100000) (λx=>((List.replicate x.2.1.toNat (x.1.getD 0 0),()),()))
theorem Ahb (x y:Int) (P:(Int×Int×Unit)->Prop):(¬(32:Int)<(0:Int)/\ ¬(32:Int)<(0:Int)/\ ¬(32:Int)<(0:Int)/\ ¬(32:Int)<(0:Int)/\ ¬(32:Int)<(0:Int)/\P (IntKind.u64.wrap (IntKind.u64.wrap (IntKind.u64.wrap (x.fdiv ((2:Int)^min (Int.toNat (32:Int)) IntKind.u64.bits)*y.fdiv ((2:Int)^min (Int.toNat (32:Int)) IntKind.u64.bits))+(IntKind.u64.wrap (IntKind.u64.wrap (x.fdiv ((2:Int)^min (Int.toNat (32:Int)) IntKind.u64.bits)*IntKind.u64.wrap (↑(BitVec.ofInt IntKind.u64.bits y&&&BitVec.ofInt IntKind.u64.bits (4294967295:Int)).toNat:Int))+(IntKind.u64.wrap (IntKind.u64.wrap (↑(BitVec.ofInt IntKind.u64.bits x&&&BitVec.ofInt IntKind.u64.bits (4294967295:Int)).toNat:Int)*IntKind.u64.wrap (↑(BitVec.ofInt IntKind.u64.bits y&&&BitVec.ofInt IntKind.u64.bits (4294967295:Int)).toNat:Int))).fdiv ((2:Int)^min (Int.toNat (32:Int)) IntKind.u64.bits))).fdiv ((2:Int)^min (Int.toNat (32:Int)) IntKind.u64.bits))+(IntKind.u64.wrap (IntKind.u64.wrap (↑(BitVec.ofInt IntKind.u64.bits (IntKind.u64.wrap (IntKind.u64.wrap (x.fdiv ((2:Int)^min (Int.toNat (32:Int)) IntKind.u64.bits)*IntKind.u64.wrap (↑(BitVec.ofInt IntKind.u64.bits y&&&BitVec.ofInt IntKind.u64.bits (4294967295:Int)).toNat:Int))+(IntKind.u64.wrap (IntKind.u64.wrap (↑(BitVec.ofInt IntKind.u64.bits x&&&BitVec.ofInt IntKind.u64.bits (4294967295:Int)).toNat:Int)*IntKind.u64.wrap (↑(BitVec.ofInt IntKind.u64.bits y&&&BitVec.ofInt IntKind.u64.bits (4294967295:Int)).toNat:Int))).fdiv ((2:Int)^min (Int.toNat (32:Int)) IntKind.u64.bits)))&&&BitVec.ofInt IntKind.u64.bits (4294967295:Int)).toNat:Int)+IntKind.u64.wrap (IntKind.u64.wrap (↑(BitVec.ofInt IntKind.u64.bits x&&&BitVec.ofInt IntKind.u64.bits (4294967295:Int)).toNat:Int)*y.fdiv ((2:Int)^min (Int.toNat (32:Int)) IntKind.u64.bits)))).fdiv ((2:Int)^min (Int.toNat (32:Int)) IntKind.u64.bits)),IntKind.u64.wrap (x*y),()))=fnW lg (look []) Tj Try.f126 (x,y,()) P:=by kernel_rfl
theorem Amt (x y:Int) (P:(Int×Int×Unit)->Prop):(∃(y3:Int×Int×PUnit),Tj.fn (x,y,())=some y3/\P (y3.1,y3.2.1,()))=fnW lg (look [(126,Tj)]) Tj Try.f104 (x,y,()) P:=by kernel_rfl
theorem Adx (xs:List Int) (n:Int) (P:((List Int×Unit)×Unit)->Prop):(Br (decide (n<(0:Int))) False (∃(y3:Int×Int×PUnit),Tj.fn (IntKind.u64.wrap (↑xs.length:Int),IntKind.u64.wrap n,())=some y3/\Br (decide (y3.1>(0:Int))) False (Br (decide (y3.2.1>(9223372036854775807:Int))) False (((0:Int)<=IntKind.i64.wrap y3.2.1/\IntKind.i64.wrap y3.2.1<(↑Db:Int)+(1:Int))/\IntKind.i64.wrap y3.2.1=IntKind.i64.wrap y3.2.1/\0=0/\(List.replicate (IntKind.i64.wrap y3.2.1).toNat (Int.ofNat (nat_lit 0))).length=(Du (List.replicate (IntKind.i64.wrap y3.2.1).toNat (Int.ofNat (nat_lit 0))) 0 (List.take (List.replicate (IntKind.i64.wrap y3.2.1).toNat (Int.ofNat (nat_lit 0))).length xs)).length/\Dh (λ(v4:Int×List Int×PUnit) (k5:Int×List Int×PUnit->Prop)=>Br (decide (v4.1<(↑v4.2.1.length:Int))) (((0:Int)<=v4.1/\v4.1<=(↑v4.2.1.length:Int)/\(↑v4.2.1.length:Int)<=(↑v4.2.1.length:Int))/\((0:Int)<=(0:Int)/\(0:Int)<=v4.1/\v4.1<=(↑v4.2.1.length:Int))/\0=0/\v4.2.1.length=(Du v4.2.1 (0+v4.1.toNat) (List.take ((↑v4.2.1.length:Int).toNat-v4.1.toNat) (List.take (v4.1.toNat-Int.toNat (0:Int)) (List.drop (0+Int.toNat (0:Int)) v4.2.1)))).length/\k5 (IntKind.i64.wrap (v4.1+(↑(min ((↑v4.2.1.length:Int).toNat-v4.1.toNat) (List.take (v4.1.toNat-Int.toNat (0:Int)) (List.drop (0+Int.toNat (0:Int)) v4.2.1)).length):Int)),Du v4.2.1 (0+v4.1.toNat) (List.take ((↑v4.2.1.length:Int).toNat-v4.1.toNat) (List.take (v4.1.toNat-Int.toNat (0:Int)) (List.drop (0+Int.toNat (0:Int)) v4.2.1))),())) (P ((List.take v4.2.1.length (List.drop 0 v4.2.1),()),()))) ((↑(min (List.replicate (IntKind.i64.wrap y3.2.1).toNat (Int.ofNat (nat_lit 0))).length xs.length):Int),Du (List.replicate (IntKind.i64.wrap y3.2.1).toNat (Int.ofNat (nat_lit 0))) 0 (List.take (List.replicate (IntKind.i64.wrap y3.2.1).toNat (Int.ofNat (nat_lit 0))).length xs),PUnit.unit)))))=fnMW lg (look [(104,Tj)]) fh Try.f78 (xs,n,()) P:=by kernel_rfl
theorem ZM {y:Int} (h0:0<=y) (h:y<4294967296):(((BitVec.ofInt IntKind.u64.bits y)&&&(BitVec.ofInt IntKind.u64.bits 4294967295)).toNat:Int)=y:=by
 obtain ⟨n,rfl⟩:=Ba h0;show ((((BitVec.ofInt 64 (n:Int))&&&(BitVec.ofInt 64 4294967295)).toNat:Nat):Int)=(n:Int)
 have e1:(BitVec.ofInt 64 (n:Int)).toNat=n:=by rw [BitVec.toNat_ofInt];omega
 have e2:(BitVec.ofInt 64 4294967295).toNat=2^32-1:=by decide
 rw [BitVec.toNat_and,e1,e2,Nat.and_two_pow_sub_one_eq_mod];omega
theorem KY {n:Int} (h1:0<=n) (h2:n<18446744073709551616):IntKind.u64.wrap n=n:=by rw [IntKind.wrap_u64];omega
theorem Agi (x y:Int) (h:x=1/\0<=y/\y<=100000):fnW lg (look []) Tj Try.f126 (x,y,()) (λ(z:Int×Int×Unit)=>z=(0,y,())):=by
 obtain ⟨rfl,h1,h2⟩:=h
 have e32:(2:Int)^min (Int.toNat (32:Int)) IntKind.u64.bits=4294967296:=by decide
 have e1:(1:Int).fdiv 4294967296=0:=by decide
 have e0:(0:Int).fdiv 4294967296=0:=by decide
 have ey:y.fdiv 4294967296=0:=by rw [Int.fdiv_eq_ediv_of_nonneg _ (by omega)];omega
 refine Eq.mp (Ahb 1 y _) ⟨by omega,by omega,by omega,by omega,by omega,?_⟩;rw [e32]
 simp only [e1,ey,e0,ZM h1 (show y<4294967296 by omega),ZM (show (0:Int)<=1 by omega) (show (1:Int)<4294967296 by omega),ZM (show (0:Int)<=0 by omega) (show (0:Int)<4294967296 by omega),Int.zero_mul,Int.mul_zero,Int.one_mul,Int.zero_add,Int.add_zero,
  KY h1 (show y<18446744073709551616 by omega),KY (show (0:Int)<=0 by omega) (show (0:Int)<18446744073709551616 by omega),KY (show (0:Int)<=1 by omega) (show (1:Int)<18446744073709551616 by omega)]
theorem JJ:Sound Try.prog 126 Tj:=
 Sound.Ho QL Ce mixed Try.func126 (by kernel_rfl) (by kernel_rfl) λx h=>Agi x.1 x.2.1 h
theorem Alx (x y:Int) (h:x=1/\0<=y/\y<=100000):fnW lg (look [(126,Tj)]) Tj Try.f104 (x,y,()) (λ(z:Int×Int×Unit)=>z=(0,y,())):=
 Eq.mp (Amt x y _) ⟨_,Ac h,rfl⟩
theorem QA:Sound Try.prog 104 Tj:=
 Sound.Ho QL (Bf JJ Ce) mixed Try.func104 (by kernel_rfl) (by kernel_rfl) λx h=>Alx x.1 x.2.1 h
theorem rK {α:Type} (a b:α) {k m j:Nat} (h1:k+j<=m):Du (List.replicate k a++List.replicate (m-k) b) k (List.replicate j a)=List.replicate (k+j) a++List.replicate (m-(k+j)) b:=by
 unfold Du;have e1:(List.replicate k a++List.replicate (m-k) b).take k=List.replicate k a:=List.take_left' (by simp)
 have e2:(List.replicate k a++List.replicate (m-k) b).drop (k+(List.replicate j a).length)=List.replicate (m-(k+j)) b:=by
  rw [Ei,List.drop_append,Ei,List.drop_replicate,List.drop_replicate,show k-(k+j)=0 by omega,show m-k-(k+j-k)=m-(k+j) by omega];rfl
 rw [e1,e2,<-List.replicate_append_replicate (n:=k) (m:=j)]
theorem Ac8 (xs:List Int) (n:Int) (h:(∃v,xs= [v])/\1<=n/\n<=100000):fnMW lg (look [(104,Tj)]) fh Try.f78 (xs,n,()) (λ(z:(List Int×Unit)×Unit)=>z=((List.replicate n.toNat (xs.getD 0 0),()),())):=by
 obtain ⟨⟨v,rfl⟩,h1,h2⟩:=h;obtain ⟨m,rfl⟩:=Ba (show 0<=n by omega);have e1:IntKind.u64.wrap (([v]:List Int).length:Int)=1:=KY (by simp) (by simp);have e2:IntKind.u64.wrap (m:Int)=(m:Int):=KY (by omega) (by omega);have e3:IntKind.i64.wrap (m:Int)=(m:Int):=Co (by omega) (by omega)
 have hmul:Tj.fn (IntKind.u64.wrap (([v]:List Int).length:Int),IntKind.u64.wrap (m:Int),())=some (0,(m:Int),()):=by
  rw [e1,e2];exact Ac ⟨rfl,by show (0:Int)<=m;omega,by show (m:Int)<=100000;omega⟩
 refine Eq.mp (Adx [v] m _) (Br.dec (λhb=>absurd hb (by omega)) λ_=>⟨_,hmul,Br.dec (λhb=>absurd hb (by show ¬(0:Int)>0;omega)) λ_=>Br.dec (λhb=>absurd hb (by show ¬(m:Int)>9223372036854775807;omega)) λ_=>?_⟩);dsimp only;rw [e3]
 have Awj:Du (List.replicate (m:Int).toNat (Int.ofNat 0)) 0 (List.take (List.replicate (m:Int).toNat (Int.ofNat 0)).length [v])=List.replicate 1 v++List.replicate (m-1) 0:=by
  rw [Ab,Ei,Jh (by simp;omega)];have:=rK v (0:Int) (k:=0) (m:=m) (j:=1) (by omega);simpa using this
 rw [Awj];refine ⟨⟨by omega,by show (m:Int)<(4294967296:Int)+1;omega⟩,rfl,rfl,by simp;omega,?_⟩;refine Dh.mk (λw=> ∃k:Nat,1<=k/\k<=m/\w=((k:Int),List.replicate k v++List.replicate (m-k) 0,())) (λw=>m-w.1.toNat) ⟨1,Ap _,by omega,?_⟩ ?_
 ·have:min (List.replicate (m:Int).toNat (Int.ofNat 0)).length ([v]:List Int).length=1:=by simp;omega
  rw [this]
  first|rfl|skip
 rintro w ⟨k,k1,k2,rfl⟩;dsimp only
 have hlen:(List.replicate k v++List.replicate (m-k) (0:Int)).length=m:=by simp;omega
 rw [hlen];refine Br.dec (λhl=>?_) λhl=>?_
 ·have hl:k<m:=by omega
  obtain ⟨j,hj⟩: ∃j,min (m-k) k=j:=⟨_,rfl⟩
  have ht0:List.take (((k:Int)).toNat-Int.toNat (0:Int)) (List.drop (0+Int.toNat (0:Int)) (List.replicate k v++List.replicate (m-k) (0:Int)))=List.replicate k v:=by
   have e0:Int.toNat (0:Int)=0:=rfl;rw [e0,Ab,El,Nat.sub_zero,Cw,List.take_left' (by simp)]
  have ht:List.take ((m:Int).toNat-((k:Int)).toNat) (List.replicate k v)=List.replicate j v:=by
   rw [Ab,Ab,List.take_replicate,hj]
  have Ape:min ((m:Int).toNat-((k:Int)).toNat) (List.replicate k v).length=j:=by rw [Ei,Ab,Ab];exact hj
  rw [ht0,ht,Ape,Ab,Bl,rK v (0:Int) (by omega)];refine ⟨⟨by omega,by omega,by omega⟩,⟨by omega,by omega,by omega⟩,rfl,by simp;omega,⟨k+j,by omega,by omega,?_⟩,?_⟩
  ·rw [Co (by omega) (by omega)];rfl
  ·rw [Co (by omega) (by omega)];omega
 ·have:k=m:=by omega
  subst this;rw [Nat.sub_self,List.replicate_zero,iQ,Cw,Jh (by simp),Ab];rfl
theorem CI:Ds Try.prog 78 fh:=
 Ds.cW QL (Bf QA Ce) mixed Try.func78 (by kernel_rfl) (by kernel_rfl) λx h=>Ac8 x.1 x.2.1 h
def oz (g:List (List Int)) (L:List (List Int)) (x:List Int):List Int:=(Aq g.length).map λl=>((L.idxOf (Am x (Ax g l)):Nat):Int)
theorem bB {g:List (List Int)} {k:Int} {x:List Int} {d:Int} : ∀(ls:List Int) (s:EX) (row:List Int),∃A,(cT g k x d ls s row).1.1=s.1++A
 | [],s,row=>⟨[],by simp [cT]⟩
 |l::ls,s,row=>by
  simp only [cT];split
  ·exact bB ls s _
  ·obtain ⟨A,h⟩:=bB (g:=g) (k:=k) (x:=x) (d:=d) ls (s.1++ [Am x (Ax g l)],s.2.1++ [d+1],s.2.2.1++ [k],s.2.2.2++ [l]) (row++ [(s.1.length:Int)]);exact ⟨_::A,by rw [h,Bn];rfl⟩
theorem NL {L A:List (List Int)} {y:List Int} (h:y∈L):(L++A).idxOf y=L.idxOf y:=by rw [List.idxOf_append,Ac h]
theorem VB {L A:List (List Int)} {y:List Int} (h:y∉L):(L++y::A).idxOf y=L.length:=by
 rw [List.idxOf_append,Ai h,List.idxOf_cons_self];simp
theorem pE {g:List (List Int)} {k:Int} {x:List Int} {d:Int} : ∀(ls:List Int) (s:EX) (row:List Int) (A:List (List Int)),
  (cT g k x d ls s row).2=row++ls.map λl=>((((cT g k x d ls s row).1.1++A).idxOf (Am x (Ax g l)):Nat):Int)
 | [],s,row,A=>by simp [cT]
 |l::ls,s,row,A=>by
  simp only [cT];split
  ·rename_i hm;obtain ⟨B,hB⟩:=bB (g:=g) (k:=k) (x:=x) (d:=d) ls s (row++ [(s.1.idxOf (Am x (Ax g l)):Int)]);rw [pE ls s _ A,Bn,Cb,hB,Bn,NL hm];rfl
  ·rename_i hm;obtain ⟨B,hB⟩:=bB (g:=g) (k:=k) (x:=x) (d:=d) ls (s.1++ [Am x (Ax g l)],s.2.1++ [d+1],s.2.2.1++ [k],s.2.2.2++ [l]) (row++ [(s.1.length:Int)]);rw [pE ls _ _ A,Bn,Cb,hB];dsimp only;rw [Bn,Bn,List.singleton_append,Ka,VB hm]
   try rfl
theorem xP {g:List (List Int)} {ls:List Int} : ∀(f k:Nat) (s:EX) (N:List (List Int)),∃A,(dQ g ls f k s N).1.1=s.1++A
 |0,k,s,N=>⟨[],by simp [dQ]⟩
 |f+1,k,s,N=>by
  simp only [dQ];split
  ·obtain ⟨A,hA⟩:=bB (g:=g) (k:=(k:Int)) (x:=s.1.getD k []) (d:=s.2.1.getD k 0) ls s [];obtain ⟨B,hB⟩:=xP (g:=g) (ls:=ls) f (k+1) (cT g (k:Int) (s.1.getD k []) (s.2.1.getD k 0) ls s []).1 (N++ [(cT g (k:Int) (s.1.getD k []) (s.2.1.getD k 0) ls s []).2]);exact ⟨A++B,by rw [hB,hA,Bn]⟩
  ·exact ⟨[],by simp⟩
theorem xQ {g:List (List Int)} : ∀(f k:Nat) (s:EX) (N:List (List Int)),(dQ g (Aq g.length) f k s N).1.1.length<=f+k->
  (dQ g (Aq g.length) f k s N).2=N++((dQ g (Aq g.length) f k s N).1.1.drop k).map (oz g (dQ g (Aq g.length) f k s N).1.1)
 |0,k,s,N,h=>by
  simp only [dQ] at h⊢;rw [List.drop_of_length_le (by omega)];simp
 |f+1,k,s,N,h=>by
  simp only [dQ] at h⊢;split
  ·rename_i hk;rw [Ac hk] at h;obtain ⟨A,hA⟩:=bB (g:=g) (k:=(k:Int)) (x:=s.1.getD k []) (d:=s.2.1.getD k 0) (Aq g.length) s [];obtain ⟨B,hB⟩:=xP (g:=g) (ls:=Aq g.length) f (k+1) (cT g (k:Int) (s.1.getD k []) (s.2.1.getD k 0) (Aq g.length) s []).1 (N++ [(cT g (k:Int) (s.1.getD k []) (s.2.1.getD k 0) (Aq g.length) s []).2]);have Qd:=pE (g:=g) (k:=(k:Int)) (x:=s.1.getD k []) (d:=s.2.1.getD k 0) (Aq g.length) s [] B;rw [<-hB,Om] at Qd;rw [xQ f (k+1) _ _ (by omega),Bn]
   congr 1
   generalize hR:dQ g (Aq g.length) f (k+1) _ _=R at*
   have hkR:k<R.1.1.length:=by rw [hB,hA,Av,Av];omega
   rw [Ft hkR,Cb,List.singleton_append]
   congr 1
   have e:R.1.1[k]=s.1.getD k []:=by
    rw [<-Bw (d:= []) hkR,hB,hA,Bn,Ju hk]
   rw [Qd,e];rfl
  ·rename_i hk;rw [List.drop_of_length_le (by show s.1.length<=k;omega)];simp
theorem UK {p:PP} (hw:Dc p=true):(Gr p).2.2.2.2.2.2.1=(Ae p).map (oz p.2.2.1 (Ae p)):=by
 have h1:=(bh hw).1;have h2:=Xn (Dl hw).1
 have h3:=xQ (g:=p.2.2.1) 3001 0 ([upto p.1.toNat],[0],[0],[0]) [] (by
  show (Gr p).2.1.length<=3001+0
  rw [h1];omega)
 have h4:(dQ p.2.2.1 (Aq p.2.2.1.length) 3001 0 ([upto p.1.toNat],[0],[0],[0]) []).1.1=Ae p:=h1;rw [h4,Om,Cw] at h3;exact h3
noncomputable def Cv (p:PP) (i:Nat):List Int:=oz p.2.2.1 (Ae p) ((Ae p).getD i [])
theorem Mw {p:PP} (hw:Dc p=true):mf p.2.2.1 (Aq p.2.2.1.length) (Ae p):=by
 obtain ⟨hv,hb⟩:=Dl hw;have hV:=valid hv;have hn:=hV.n;exact wP hV (cH hv) (tt hv (by rw [Uv];omega) (λy hy=>by have:=Nd.1 hy;omega) hb)
theorem yV {p:PP} (hw:Dc p=true):sT p.2.2.1 (Aq p.2.2.1.length) (Ae p) (Bj p):=by
 obtain ⟨hv,hb⟩:=Dl hw;have hn:=(valid hv).n;exact tt hv (by rw [Uv];omega) (λy hy=>by have:=Nd.1 hy;omega) hb
theorem OG {p:PP} (hw:Dc p=true) {i:Nat} (hi:i<(Ae p).length) {l:Int} (hl:l∈Aq p.2.2.1.length):
  (Ae p).idxOf (Am ((Ae p).getD i []) (Ax p.2.2.1 l))<(Ae p).length/\
  (Ae p).getD ((Ae p).idxOf (Am ((Ae p).getD i []) (Ax p.2.2.1 l))) []=Am ((Ae p).getD i []) (Ax p.2.2.1 l):=by
 have hm:=(Mw hw).next _ (Oc hi) l hl;have h1:=Ga hm;exact ⟨h1,by rw [Bw h1];exact Ug h1⟩
theorem Tg {p:PP} (hw:Dc p=true):RowsOK (Cv p) (Ae p).length:= λi hi t ht=>by
 obtain ⟨l,hl,rfl⟩:=Bh.1 ht;have:=(OG hw hi hl).1;omega
theorem CM {p:PP} (hw:Dc p=true) (Q:List Int->Prop) (hQ: ∀x∈Ae p,Q x-> ∀l∈Aq p.2.2.1.length,Q (Am x (Ax p.2.2.1 l))) {x:List Int} (hx:x∈Ae p) (hq:Q x):
  ∀y∈Ae p,Q y:=by
 have hc:=Mw hw;have hL:=yV hw
 have up: ∀(j:Nat),j<(Ae p).length->Q ((Ae p).getD j [])->Q ((Ae p).getD 0 []):=by
  intro j
  induction j using Nat.strongRecOn with
  |_ j ih=>
   intro hj hqj
   by_cases e:j=0
   ·subst e;exact hqj
   ·obtain ⟨i,l,h1,h2,h3,_⟩:=hL.par j (by omega) hj
    have hi:i<(Ae p).length:=by omega
    obtain ⟨b1,b2⟩:=hc.back _ (Oc hi) l h2;refine ih i h1 hi ?_;have:=hQ _ (Oc hj) hqj _ b1
    rwa [h3,b2] at this
 have down:Q ((Ae p).getD 0 [])-> ∀(j:Nat),j<(Ae p).length->Q ((Ae p).getD j []):=by
  intro h0 j
  induction j using Nat.strongRecOn with
  |_ j ih=>
   intro hj
   by_cases e:j=0
   ·subst e;exact h0
   ·obtain ⟨i,l,h1,h2,h3,_⟩:=hL.par j (by omega) hj
    have hi:i<(Ae p).length:=by omega
    rw [h3];exact hQ _ (Oc hi) (ih i h1 hi) l h2
 obtain ⟨j,hj,rfl⟩:=Bg.1 hx;rw [<-Bw (d:= []) hj] at hq;intro y hy;obtain ⟨k,hk,rfl⟩:=Bg.1 hy;rw [<-Bw (d:= []) hk];exact down (up j hj hq) k hk
theorem Af6 {p:PP} (hw:Dc p=true) (S:Nat->Bool) {i0:Nat} (hi0:i0<(Ae p).length) (hS:S i0=true):
  Kp p.2.2.1 (Aq p.2.2.1.length) (Ae p) (λx=>S ((Ae p).idxOf x)=true) (λx=>(iI (Cv p) S (Ae p).length).getD ((Ae p).idxOf x) 0):=by
 have hd:=Aho (S:=S) (Tg hw);have sd:=(JQ hw).nodup;have hc:=Mw hw
 have ix: ∀ {x:List Int},x∈Ae p->(Ae p).idxOf x<(Ae p).length/\(Ae p).getD ((Ae p).idxOf x) []=x:= λ {x} hx=>by
  have h1:=Ga hx;exact ⟨h1,by rw [Bw h1];exact Ug h1⟩
 have st: ∀x∈Ae p,0<=(iI (Cv p) S (Ae p).length).getD ((Ae p).idxOf x) 0-> ∀l∈Aq p.2.2.1.length,
   0<=(iI (Cv p) S (Ae p).length).getD ((Ae p).idxOf (Am x (Ax p.2.2.1 l))) 0/\
   (iI (Cv p) S (Ae p).length).getD ((Ae p).idxOf (Am x (Ax p.2.2.1 l))) 0<=(iI (Cv p) S (Ae p).length).getD ((Ae p).idxOf x) 0+1:= λx hx h0 l hl=>by
  obtain ⟨i1,i2⟩:=ix hx;have:=hd.done _ i1 h0 (by simp) (λh=>h) (((Ae p).idxOf (Am x (Ax p.2.2.1 l)):Nat):Int) (Bh.2 ⟨l,hl,by rw [i2]⟩)
  rwa [Ab] at this
 have nn: ∀x∈Ae p,0<=(iI (Cv p) S (Ae p).length).getD ((Ae p).idxOf x) 0:=by
  refine CM hw _ (λx hx h0 l hl=>(st x hx h0 l hl).1) (Oc hi0) ?_;rw [Qe sd hi0,hd.src i0 hi0 hS];exact Ku _
 refine ⟨nn,λx hx=>⟨λh0=>hd.Acu _ (ix hx).1 h0,λhs=>hd.src _ (ix hx).1 hs⟩,λx hx l hl=>(st x hx (nn x hx) l hl).2,λx hx h0=>?_⟩;obtain ⟨j,j1,j2,j3⟩:=hd.par _ (ix hx).1 h0;obtain ⟨l,hl,YS⟩:=Bh.1 j2;obtain ⟨n1,n2⟩:=OG hw j1 hl
 have e:(Ae p).idxOf (Am ((Ae p).getD j []) (Ax p.2.2.1 l))=(Ae p).idxOf x:=by omega
 obtain ⟨b1,b2⟩:=hc.back _ (Oc j1) l hl;rw [e,(ix hx).2] at n2;refine ⟨-l,b1,?_⟩;have e5:Am x (Ax p.2.2.1 (-l))=(Ae p).getD j []:=(Dz (λz=>Am z (Ax p.2.2.1 (-l))) n2).trans b2;rw [e5,Qe sd j1,j3]
noncomputable def HH (e:Option XP) (S:Nat->Bool):List Int:=match e with|some e=>iI (Cv e.1) S (Ae e.1).length|none=> []
def dc (N:Nat->List Int) (ls d:List Int):Nat->Int->List Int->List Int×Int
 |0,i,w=>(w,i)
 |f+1,i,w=>if 0<Ef d i then dc N ls d f ((N i.toNat).getD (Ik (λy=>decide (Ef d y<Ef d i)) (N i.toNat) 0).toNat 0) (w++ [ls.getD (Ik (λy=>decide (Ef d y<Ef d i)) (N i.toNat) 0).toNat 0]) else (w,i)
noncomputable def Yw (p:PP) (d:List Int) (i:Int):List Int×Int×Bool×Unit:=
 if Ef d i>200 then ([],0,false,()) else ((dc (Cv p) (Aq p.2.2.1.length) d (Ef d i).toNat i []).1,(dc (Cv p) (Aq p.2.2.1.length) d (Ef d i).toNat i []).2,true,())
structure ZC (p:PP) (d:List Int):Prop where
 len:d.length=(Ae p).length
 nn: ∀i,i<d.length->0<=d.getD i 0
 dn: ∀i,i<d.length->0<d.getD i 0-> ∃t∈Cv p i,d.getD t.toNat 0<d.getD i 0
theorem Aoe {e:XP} (h:nu e):e.2.1=Ae e.1:=(Dz (λz:XP=>z.2.1) h.2).trans (bh h.1).1
theorem Aa1 {e:XP} (h:nu e):e.2.2.1=Bj e.1:=(Dz (λz:XP=>z.2.2.1) h.2).trans (bh h.1).2
theorem Af7 {e:XP} (h:nu e):e.2.2.2.2.2.2.1=(Ae e.1).map (oz e.1.2.2.1 (Ae e.1)):=(Dz (λz:XP=>z.2.2.2.2.2.2.1) h.2).trans (UK h.1)
theorem Aa2 {e:XP} (h:nu e) {i:Nat} (hi:i<(Ae e.1).length):idx e.2.2.2.2.2.2.1 (i:Int)=some (Cv e.1 i):=by
 rw [Af7 h,Bu (by rw [Ct];exact hi),Ps];unfold Cv;rw [Bw hi]
theorem Sv (p:PP) (i:Nat):(Cv p i).length=(Aq p.2.2.1.length).length:=by unfold Cv oz;rw [Ct]
theorem Sn {p:PP} (hV:Valid p):(Aq p.2.2.1.length).length<=16:=by rw [Ov];have:=hV.eK;omega
def YL (S:Nat->Bool) (i:Nat):List Int:=((List.range i).filter S).map λ(k:Nat)=>(k:Int)
theorem nK (S:Nat->Bool) (i:Nat):YL S (i+1)=if S i=true then YL S i++ [(i:Int)] else YL S i:=by
 unfold YL;rw [Gc,List.filter_append]
 by_cases h:S i=true
 ·rw [Ac h];simp [h]
 ·rw [Ai h];simp [h]
theorem RM (S:Nat->Bool) (i:Nat):(YL S i).length<=i:=by
 unfold YL;rw [Ct];exact Gz (List.length_filter_le _ _) (by simp)
theorem BV {xs:List Int} {i:Nat} {v:Int} {m:Nat} (hl:xs.length=m) (hi:i<m) {f g:Nat->Int} (h: ∀k,k<m->xs.getD k 0=f k) (hg:g i=v) (Ii: ∀k,k≠i->g k=f k): ∀k,k<m->(xs.set i v).getD k 0=g k:= λk hk=>by
 rw [kE (by omega)]
 by_cases e:i=k
 ·subst e;rw [Ac rfl,hg]
 ·rw [Ai e,h k hk,Ii k λe'=>e e'.symm]
theorem yk {xs ys:List Int} (h1:xs.length=ys.length) (h: ∀k,k<xs.length->xs.getD k 0=ys.getD k 0):xs=ys:=
 List.ext_getElem h1 λk h2 h3=>by have:=h k h2;rwa [Bw h2,Bw h3] at this
theorem UQ {xs:List Int} {k:Nat} (h:k<xs.length):xs[0+((k:Nat):Int).toNat]?=some (xs.getD k 0):=by
 rw [Bl,Ab,Ad h,Bw h]
theorem kI {α:Type} {P:α->Bool} : ∀(l:List α) (i:Nat),l.any P=true-> ∃k,∃h:k<l.length,Ik P l (i:Int)=((i+k:Nat):Int)/\P l[k]=true/\ ∀j (h:j<k),P (l[j]'(by omega))=false
 | [],i,h=>by simp at h
 |y::r,i,h=>by
  simp only [Ik]
  by_cases hy:P y=true
  ·rw [Ac hy];exact ⟨0,by simp,rfl,hy,λj hj=>absurd hj (Ea _)⟩
  ·rw [Ai hy]
   have hr:r.any P=true:=by
    rw [List.any_cons,Kx] at h;exact h.resolve_left hy
   obtain ⟨k,hk,h1,h2,h3⟩:=kI r (i+1) hr;refine ⟨k+1,by simpa using hk,?_,h2,λj hj=>?_⟩
   ·rw [show ((i:Int)+1)=((i+1:Nat):Int) by push_cast;rfl,h1]
    congr 1
    omega
   ·cases j with
    |zero=>exact Gb _|>.mp hy
    |succ j=>exact h3 j (by omega)
theorem Af5 {p:PP} (hw:Dc p=true) {d:List Int} (h:ZC p d) {i:Nat} (hi:i<d.length) (hp:0<d.getD i 0):
  ∃k,∃(h1:k<(Aq p.2.2.1.length).length) (h2:k<(Cv p i).length),Ik (λy=>decide (Ef d y<Ef d (i:Int))) (Cv p i) 0=(k:Int)/\
   ∃t:Nat,(Cv p i)[k]=(t:Int)/\t<d.length/\d.getD t 0<d.getD i 0:=by
 obtain ⟨t,ht,htl⟩:=h.dn i hi hp;have jn:(Cv p i).any (λy=>decide (Ef d y<Ef d (i:Int)))=true:=Eu.2 ⟨t,ht,Ci htl⟩;obtain ⟨k,hk,h1,h2,_⟩:=kI (Cv p i) 0 jn;have hl:=h.len;obtain ⟨r1,r2⟩:=Tg hw i (by omega) _ (Ah hk);obtain ⟨tn,htn⟩:=Ba r1;refine ⟨k,by rw [<-Sv];exact hk,hk,by rw [Bl] at h1;exact h1,tn,htn,by omega,?_⟩;have h2:=Cx h2;unfold Ef at h2;rw [htn,Ab,Ab] at h2;exact h2
theorem qO {p:PP} (hv:Da p=true):(Ae p).getD 0 []=upto p.1.toNat/\upto p.1.toNat∈Ae p:=by
 obtain ⟨A,h⟩:=(cy hv).first;have h:Ae p=upto p.1.toNat::A:=h;rw [h];exact ⟨rfl,by simp⟩
theorem Kp.congr {g:List (List Int)} {ls:List Int} {L:List (List Int)} {S S':List Int->Prop} {d:List Int->Int} (h:Kp g ls L S d) (e: ∀x∈L,S x↔S' x):Kp g ls L S' d:=
 ⟨h.nn,λx hx=>(h.zero x hx).trans (e x hx),h.step,h.down⟩
theorem Af3 {p:PP} (hw:Dc p=true) {S:List Int->Prop} {d:List Int} (hl:d.length=(Ae p).length) (h:Kp p.2.2.1 (Aq p.2.2.1.length) (Ae p) S (λx=>d.getD ((Ae p).idxOf x) 0)):ZC p d:=by
 have sd:=(JQ hw).nodup;refine ⟨hl,λi hi=>?_,λi hi h0=>?_⟩
 ·have:=h.nn _ (Oc (show i<(Ae p).length by omega))
  rwa [Qe sd (by omega)] at this
 ·have cO:i<(Ae p).length:=by omega
  obtain ⟨l,h1,h2⟩:=h.down _ (Oc cO) (by rw [Qe sd cO];exact h0);rw [Qe sd cO] at h2;refine ⟨_,Bh.2 ⟨l,h1,rfl⟩,?_⟩;rw [Ab,h2];omega
def cG (g:List (List Int)) (dep:List Int->Int) (ls:List Int):Nat->List Int->List Int->List Int×List Int
 |0,x,w=>(w,x)
 |n+1,x,w=>match ls.find? (λl=>decide (dep (Am x (Ax g l))=n)) with
  |some l=>cG g dep ls n (Am x (Ax g l)) (w++ [l])
  |none=>cG g dep ls n x w
theorem RP {α:Type} {P:α->Bool} : ∀(l:List α) (k:Nat) (h:k<l.length),P l[k]=true->(∀j (hj:j<k),P (l[j]'(by omega))=false)->l.find? P=some l[k]
 | [],k,h,_,_=>by simp at h
 |y::r,0,_,h1,_=>by rw [List.find?_cons_of_pos (show P y=true from h1)];rfl
 |y::r,k+1,h,h1,h2=>by
  rw [List.find?_cons_of_neg (by have:=h2 0 (by omega);simp at this;simp [this])];exact RP r k (by simpa using h) h1 λj hj=>h2 (j+1) (by omega)
theorem MM {p:PP} (hw:Dc p=true) {S:List Int->Prop} {d:List Int} (hdn:ZC p d) (hd:Kp p.2.2.1 (Aq p.2.2.1.length) (Ae p) S (λx=>d.getD ((Ae p).idxOf x) 0))
  {see:List Int->List Int} {dep:List Int->Int} (hs: ∀x∈Ae p,∀l∈Aq p.2.2.1.length,see (Am x (Ax p.2.2.1 l))=Am (see x) (Ax p.2.2.1 l))
  (he: ∀x∈Ae p,d.getD ((Ae p).idxOf x) 0=dep (see x)):
  ∀(n i:Nat) (w:List Int),i<(Ae p).length->d.getD i 0=n->
   (dc (Cv p) (Aq p.2.2.1.length) d n (i:Int) w).1=(cG p.2.2.1 dep (Aq p.2.2.1.length) n (see ((Ae p).getD i [])) w).1/\
   (dc (Cv p) (Aq p.2.2.1.length) d n (i:Int) w).1.length=w.length+n/\
   ∃j:Nat,(dc (Cv p) (Aq p.2.2.1.length) d n (i:Int) w).2=(j:Int)/\j<(Ae p).length/\d.getD j 0=0/\see ((Ae p).getD j [])=(cG p.2.2.1 dep (Aq p.2.2.1.length) n (see ((Ae p).getD i [])) w).2
 |0,i,w,hi,e=>⟨rfl,rfl,i,rfl,hi,e,rfl⟩
 |n+1,i,w,hi,e=>by
  have sd:=(JQ hw).nodup;have hl:=hdn.len
  have mH:0<d.getD i 0:=by omega
  have hg:Ef d (i:Int)=d.getD i 0:=by unfold Ef;rw [Ab]
  obtain ⟨t0,ht0,htl⟩:=hdn.dn i (by omega) mH;have jn:(Cv p i).any (λy=>decide (Ef d y<Ef d (i:Int)))=true:=Eu.2 ⟨t0,ht0,Ci htl⟩;obtain ⟨k,hk,k1,k2,k3⟩:=kI (Cv p i) 0 jn
  have k1:Ik (λy=>decide (Ef d y<Ef d (i:Int))) (Cv p i) 0=(k:Int):=by rw [Bl] at k1;exact k1
  have Ml:k<(Aq p.2.2.1.length).length:=by rw [<-Sv p i];exact hk
  have hx:=Oc (L:=Ae p) hi
  have hat: ∀j (hj:j<(Aq p.2.2.1.length).length),∃h2:j<(Cv p i).length,(Cv p i)[j]=(((Ae p).idxOf (Am ((Ae p).getD i []) (Ax p.2.2.1 (Aq p.2.2.1.length)[j])):Nat):Int):= λj hj=>
   ⟨by rw [Sv];exact hj,by simp only [Cv,oz,Ps]⟩
  have mI: ∀j (hj:j<(Aq p.2.2.1.length).length) (h2:j<(Cv p i).length),decide (Ef d (Cv p i)[j]<Ef d (i:Int))=decide (dep (Am (see ((Ae p).getD i [])) (Ax p.2.2.1 (Aq p.2.2.1.length)[j]))=n):= λj hj h2=>by
   obtain ⟨_,h3⟩:=hat j hj;have sF:=Ah hj;have h4:=hd.VQ (Mw hw) hx sF;rw [Qe sd hi] at h4;have h5:=he _ ((Mw hw).next _ hx _ sF);rw [hs _ hx _ sF] at h5;rw [h3,hg,<-h5];unfold Ef;rw [Ab,Bool.eq_iff_iff,Ji,Ji];omega
  have xW:(Aq p.2.2.1.length).find? (λl=>decide (dep (Am (see ((Ae p).getD i [])) (Ax p.2.2.1 l))=n))=some (Aq p.2.2.1.length)[k]:=by
   refine RP _ k Ml ?_ λj hj=>?_
   ·rw [<-mI k Ml hk];exact k2
   ·rw [<-mI j (by omega) (by omega)];exact k3 j hj
  obtain ⟨_,pe⟩:=hat k Ml;have sF:=Ah Ml;obtain ⟨n1,n2⟩:=OG hw hi sF
  have l7:Ef d (i:Int)>0:=by rw [hg];exact mH
  simp only [dc,cG];rw [Ac l7,Ab,k1,Ab,Bw hk,pe,Bw Ml,xW];dsimp only
  have hdk:d.getD ((Ae p).idxOf (Am ((Ae p).getD i []) (Ax p.2.2.1 (Aq p.2.2.1.length)[k]))) 0=n:=by
   have h6:=Cx ((mI k Ml hk).symm.trans k2);rw [he _ ((Mw hw).next _ hx _ sF),hs _ hx _ sF];exact h6
  obtain ⟨r1,r2,r3⟩:=MM hw hdn hd hs he n _ (w++ [(Aq p.2.2.1.length)[k]]) n1 hdk;rw [n2,hs _ hx _ sF] at r1 r3;refine ⟨r1,?_,r3⟩;rw [r2,Av,Bp];omega
noncomputable abbrev Wf:Spec:=Ho (.pair Qn (.pair tL .unit)) tI false true (λx=>Gp (List.length x.2.1) x.1.1 x.1.2.2.1/\List.length x.1.2.1=List.length x.1.1) (λx=>Jc x.1.1 x.1.2.1 x.2.1)
def TA (w:List Int):List Int×Bool×Unit:=if w.length>200 then ([],false,()) else (w,true,())
theorem XR (f:List (List Int)×List Int×List Int×Bool×Unit) (s:List Int) (P:Int->Prop):(∃(y3:Int),Ge.fn ((f.1,f.2.1,f.2.2.1,f.2.2.2.1,()),s,())=some y3/\Br (decide (y3<(0:Int))) (P (-1:Int)) (∃(y4:Int),idx f.2.1 y3=some y4/\P y4))=fnW Hf (look [(40,Ge)]) Wf Try.f100 (f,s,()) P:=by kernel_rfl
theorem VY (f:SS) (s:List Int) (h:Gp (List.length s) f.1 f.2.2.1/\List.length f.2.1=List.length f.1):fnW Hf (look [(40,Ge)]) Wf Try.f100 (f,s,()) (λ(z:Int)=>z=Jc f.1 f.2.1 s):=by
 obtain ⟨h1,h2⟩:=h;refine Eq.mp (XR f s _) ⟨_,Ac h1,?_⟩;show Br (decide (Nr f.1 s<0)) _ _;unfold Nr Jc
 by_cases hm:s∈f.1
 ·have hl:=Ga hm;rw [Ac hm,Ac hm];refine Br.dec (λhn=>absurd hn (by omega)) λ_=>?_
  have cU:List.idxOf s f.1<f.2.1.length:=by omega
  refine ⟨f.2.1[List.idxOf s f.1],?_,by rw [Bw cU]⟩;show idx f.2.1 (if s∈f.1 then ((List.idxOf s f.1:Nat):Int) else-1)=_;rw [Ac hm];exact Bu cU
 ·rw [Ai hm,Ai hm];exact ⟨λ_=>rfl,λhn=>by simp at hn⟩
theorem xe:Sound Try.prog 100 Wf:=
 Sound.Ho Ez (Bf Qm Ce) mixed Try.func100 (by kernel_rfl) (by kernel_rfl) λx h=>VY x.1 x.2.1 h
def cq (ls N d:List Int) (i:Int):List Int×List Int:=(((ls.zip N).filter (λq=>decide (Ef d q.2<Ef d i))).map Prod.fst,((ls.zip N).filter (λq=>decide (Ef d q.2<Ef d i))).map Prod.snd)
noncomputable def SZ (e:Option XP) (i:Int):(List Int×List Int×Unit)×Unit:=match e with|some e=>(((cq (Aq e.1.2.2.1.length) (Cv e.1 i.toNat) (Bj e.1) i).1,(cq (Aq e.1.2.2.1.length) (Cv e.1 i.toNat) (Bj e.1) i).2,()),())|none=>(([],[],()),())
noncomputable abbrev az:MSpec:=cW [none,none] [(false, .Ia (.optr kf)),(false, .Ia tI)] true [none,none] [rL,rL]
 (λx=> ∃e':XP,x.1=some e'/\nu e'/\0<=x.2.1/\x.2.1<(Ae e'.1).length) (λx=>SZ x.1 x.2.1)
noncomputable def Yz (p:PP) (i:Int):List Int×Bool×Unit:=((Yw p (Bj p) i).1,(Yw p (Bj p) i).2.2.1,())
noncomputable def Abm (e:Option XP) (i:Int):(List Int×Bool×Unit)×Unit:=match e with|some e=>(Yz e.1 i,())|none=>(([],false,()),())
noncomputable abbrev jT:MSpec:=cW [none,none] [(false, .Ia (.optr kf)),(false, .Ia tI)] true [none,none] [rL, .Ia .bool]
 (λx=> ∃e':XP,x.1=some e'/\nu e'/\0<=x.2.1/\x.2.1<(Ae e'.1).length) (λx=>Abm x.1 x.2.1)
def aK (t:List Int) (l:Int):Int:=if l>0 then Ef t (l-1)+1 else-(Ef t (-l-1)+1)
noncomputable def kN (p:PP) (t s:List Int):List Int×Bool×Unit:=if s∈Ae (Bc p t) then ((Yz (Bc p t) (Ir (Bc p t) s).1).1.map (aK t),(Yz (Bc p t) (Ir (Bc p t) s).1).2.1,()) else ([],false,())
noncomputable def HI (h:Option HP) (i:Int):(List Int×Bool×Unit)×Unit:=match h with
 |some (some e,t,_)=>(kN e.1 t ((Ae e.1).getD i.toNat []),())
 |_=>(([],false,()),())
noncomputable abbrev dB:MSpec:=cW [none,none] [(false, .Ia (.optr dF)),(false, .Ia tI)] true [none,none] [rL, .Ia .bool]
 (λx=> ∃p t,Ks p t=true/\x.1=some (Eo p t)/\0<=x.2.1/\x.2.1<(Ae p).length) (λx=>HI x.1 x.2.1)
noncomputable def cr (p:PP) (s:List Int):List Int:=(cG p.2.2.1 (Jc (Ae p) (Bj p)) (Aq p.2.2.1.length) (Jc (Ae p) (Bj p) s).toNat s []).1
noncomputable abbrev gD:MSpec:=cW [some 3,some 4,none] [(false, .Ia tI),(false, .Ia .str),(false, .Ia kh),(false, .Ia kh),(false, .Ia tL),(false, .Ia tL),(false, .Ia .bool),(false, .Ia tL)] false [none] [rL]
 (λx=>Dc (x.1,x.2.1,x.2.2.1,())=true/\(x.2.2.2.1,x.2.2.2.2.1,x.2.2.2.2.2.1,x.2.2.2.2.2.2.1,())=Bq x.2.2.1 (upto x.1.toNat)/\x.2.2.2.2.2.2.2.1∈Ae (x.1,x.2.1,x.2.2.1,())) (λx=>((cr (x.1,x.2.1,x.2.2.1,()) x.2.2.2.2.2.2.2.1,()),()))
noncomputable def Me (p:PP) (t s:List Int):List Int:=(cr (Bc p t) s).map (aK t)
noncomputable abbrev kS:Spec:=Ho (.pair Gi (.pair tL (.pair tI .unit))) tL false false (λx=>Da x.1=true/\List.length x.2.1<=20/\(∀y∈x.2.1,0<=y/\y<x.1.1)/\Ie (List.length x.1.2.2.1) x.2.2.1) (λx=>Am x.2.1 (Ax x.1.2.2.1 x.2.2.1))
abbrev kY:Type:=(Int×ByteArray×List (List Int)×PUnit)×List (List Int)×List Int×(ByteArray->Option Int)×List Int×List Int×List (List Int)×PUnit
theorem Adq (e:Option XP) (i:Int) (P:((List Int×List Int×Unit)×Unit)->Prop):(∃(y3:kY),e=some y3/\ ∃(y4:List Int),Ki.fn ((↑y3.1.2.2.1.length:Int),())=some y4/\ ∃(y5:kY),e=some y5/\ ∃(y6:List Int),idx y5.2.2.2.2.2.2.1 i=some y6/\0=0/\0=([]:List Int).length/\0=0/\0=([]:List Int).length/\Dh (λ(v7:Int×List Int×List Int×PUnit) (k8:Int×List Int×List Int×PUnit->Prop)=>Br (decide (v7.1<(↑y6.length:Int))) (∃(y9:Int),idx y6 v7.1=some y9/\ ∃(No:kY),e=some No/\ ∃(Np:Int),idx No.2.2.1 y9=some Np/\ ∃(gU:kY),e=some gU/\ ∃(Wq:Int),idx gU.2.2.1 i=some Wq/\Br (decide (Np<Wq)) (∃(Ry:Int),idx y4 v7.1=some Ry/\0=0/\v7.2.1.length=v7.2.1.length/\v7.2.1.length+(List.take 1 (List.drop 0 [Ry])).length<=Db/\0=0/\v7.2.2.1.length=v7.2.2.1.length/\v7.2.2.1.length+(List.take 1 (List.drop 0 [y9])).length<=Db/\0=0/\(v7.2.1++List.take 1 (List.drop 0 [Ry])).length=(v7.2.1++List.take 1 (List.drop 0 [Ry])).length/\0=0/\(v7.2.2.1++List.take 1 (List.drop 0 [y9])).length=(v7.2.2.1++List.take 1 (List.drop 0 [y9])).length/\k8 (IntKind.i64.wrap (v7.1+(1:Int)),v7.2.1++List.take 1 (List.drop 0 [Ry]),v7.2.2.1++List.take 1 (List.drop 0 [y9]),())) (0=0/\v7.2.1.length=v7.2.1.length/\0=0/\v7.2.2.1.length=v7.2.2.1.length/\k8 (IntKind.i64.wrap (v7.1+(1:Int)),v7.2.1,v7.2.2.1,()))) (P ((List.take v7.2.1.length (List.drop 0 v7.2.1),List.take v7.2.2.1.length (List.drop 0 v7.2.2.1),()),()))) ((0:Int),[],[],PUnit.unit))=fnMW Rw (look [(26,Ki)]) az Try.f105 (e,i,()) P:=by kernel_rfl
abbrev TV:Type:=(Int×ByteArray×List (List Int)×PUnit)×List (List Int)×List Int×(ByteArray->Option Int)×List Int×List Int×List (List Int)×PUnit
theorem Amu (e:Option XP) (i:Int) (P:((List Int×Bool×Unit)×Unit)->Prop):(∃(y3:TV),e=some y3/\ ∃(y4:Int),idx y3.2.2.1 i=some y4/\Br (decide (y4>(200:Int))) (P ((List.take 0 (List.drop 0 []),false,()),())) (0=0/\0=([]:List Int).length/\Dh (λ(v5:Int×List Int×PUnit) (k6:Int×List Int×PUnit->Prop)=> ∃(y7:TV),e=some y7/\ ∃(y8:Int),idx y7.2.2.1 v5.1=some y8/\Br (decide (y8>(0:Int))) (∃(y9:(List Int×List Int×PUnit)×PUnit),az.fn (e,v5.1,())=some y9/\((0:Int)<=(0:Int)/\(0:Int)<(↑y9.1.1.length:Int))/\ ∃(No:Int),y9.1.1[0+Int.toNat (0:Int)]?=some No/\0=0/\v5.2.1.length=v5.2.1.length/\v5.2.1.length+(List.take 1 (List.drop 0 [No])).length<=Db/\((0:Int)<=(0:Int)/\(0:Int)<(↑y9.1.2.1.length:Int))/\ ∃(Np:Int),y9.1.2.1[0+Int.toNat (0:Int)]?=some Np/\0=0/\(v5.2.1++List.take 1 (List.drop 0 [No])).length=(v5.2.1++List.take 1 (List.drop 0 [No])).length/\k6 (Np,v5.2.1++List.take 1 (List.drop 0 [No]),())) (P ((List.take v5.2.1.length (List.drop 0 v5.2.1),true,()),()))) (i,[],PUnit.unit)))=fnMW Rw (look [(105,az)]) jT Try.f81 (e,i,()) P:=by kernel_rfl
abbrev ke:Type:=Option ((Int×ByteArray×List (List Int)×PUnit)×List (List Int)×List Int×(ByteArray->Option Int)×List Int×List Int×List (List Int)×PUnit)×List Int×Option ((Int×ByteArray×List (List Int)×PUnit)×List (List Int)×List Int×(ByteArray->Option Int)×List Int×List Int×List (List Int)×PUnit)×PUnit
theorem Ahe (h:Option HP) (i:Int) (P:((List Int×Bool×Unit)×Unit)->Prop):(∃(y3:ke),h=some y3/\ ∃(y4:ke),h=some y4/\ ∃(y5:(Int×ByteArray×List (List Int)×PUnit)×List (List Int)×List Int×(ByteArray->Option Int)×List Int×List Int×List (List Int)×PUnit),y4.1=some y5/\ ∃(y6:List Int),idx y5.2.1 i=some y6/\ ∃(y7:Int×Bool×PUnit),Sx.fn (y3.2.2.1,y6,())=some y7/\Br (!y7.2.1) (P ((List.take 0 (List.drop 0 []),false,()),())) (∃(y8:ke),h=some y8/\ ∃(y9:(List Int×Bool×PUnit)×PUnit),jT.fn (y8.2.2.1,y7.1,())=some y9/\Br (!y9.1.2.1) (P ((List.take 0 (List.drop 0 []),false,()),())) (0=0/\y9.1.1.length=y9.1.1.length/\0=0/\y9.1.1.length=y9.1.1.length/\Dh (λ(v10:Int×List Int×PUnit) (k11:Int×List Int×PUnit->Prop)=>Br (decide (v10.1<(↑y9.1.1.length:Int))) (((0:Int)<=v10.1/\v10.1<(↑v10.2.1.length:Int))/\ ∃(gU:Int),v10.2.1[0+v10.1.toNat]?=some gU/\Br (decide (gU>(0:Int))) (∃(Wq:ke),h=some Wq/\ ∃(Ry:Int),idx Wq.2.1 (IntKind.i64.wrap (gU-(1:Int)))=some Ry/\((0:Int)<=v10.1/\v10.1<(↑v10.2.1.length:Int))/\0+v10.1.toNat<v10.2.1.length/\0=0/\v10.2.1.length=(v10.2.1.set (0+v10.1.toNat) (IntKind.i64.wrap (Ry+(1:Int)))).length/\0=0/\v10.2.1.length=(v10.2.1.set (0+v10.1.toNat) (IntKind.i64.wrap (Ry+(1:Int)))).length/\k11 (IntKind.i64.wrap (v10.1+(1:Int)),v10.2.1.set (0+v10.1.toNat) (IntKind.i64.wrap (Ry+(1:Int))),())) (∃(Wq:ke),h=some Wq/\ ∃(Ry:Int),idx Wq.2.1 (IntKind.i64.wrap (IntKind.i64.wrap ((0:Int)-gU)-(1:Int)))=some Ry/\((0:Int)<=v10.1/\v10.1<(↑v10.2.1.length:Int))/\0+v10.1.toNat<v10.2.1.length/\0=0/\v10.2.1.length=(v10.2.1.set (0+v10.1.toNat) (IntKind.i64.wrap ((0:Int)-IntKind.i64.wrap (Ry+(1:Int))))).length/\0=0/\v10.2.1.length=(v10.2.1.set (0+v10.1.toNat) (IntKind.i64.wrap ((0:Int)-IntKind.i64.wrap (Ry+(1:Int))))).length/\k11 (IntKind.i64.wrap (v10.1+(1:Int)),v10.2.1.set (0+v10.1.toNat) (IntKind.i64.wrap ((0:Int)-IntKind.i64.wrap (Ry+(1:Int)))),()))) (P ((List.take v10.2.1.length (List.drop 0 v10.2.1),true,()),()))) ((0:Int),y9.1.1,PUnit.unit))))=fnMW Rw (look [(52,Sx),(81,jT)]) dB Try.f54 (h,i,()) P:=by kernel_rfl
abbrev sN:Type:=List Int×Int×Int×ByteArray×List (List Int)×List (List Int)×List Int×List Int×Bool×List Int×PUnit
theorem Amo (n:Int) (str:ByteArray) (g L:List (List Int)) (D La:List Int) (b:Bool) (s:List Int) (P:((List Int×Unit)×Unit)->Prop):(∃(y9:List Int),Hb.fn ((n,str,g,()),())=some y9/\ ∃(No:Int),Wf.fn ((L,D,La,b,()),s,())=some No/\0=0/\0=([]:List Int).length/\Dh (λ(v11:sN) (k12:sN->Prop)=>Br (decide (v11.2.1>(0:Int))) (0=0/\v11.2.2.2.2.2.2.2.2.2.1.length=v11.2.2.2.2.2.2.2.2.2.1.length/\Dh (λ(Lj:sN) (k14:sN->Prop)=>Br (decide (Lj.2.1<(↑y9.length:Int))) (∃(Rv:Int),idx y9 Lj.2.1=some Rv/\ ∃(Pc:List Int),kS.fn ((Lj.2.2.1,Lj.2.2.2.1,Lj.2.2.2.2.1,()),Lj.1,Rv,())=some Pc/\ ∃(dK:Int),Wf.fn ((Lj.2.2.2.2.2.1,Lj.2.2.2.2.2.2.1,Lj.2.2.2.2.2.2.2.1,Lj.2.2.2.2.2.2.2.2.1,()),Pc,())=some dK/\Br (dK==IntKind.i64.wrap (v11.2.1-(1:Int))) (∃(dL:Int),idx y9 Lj.2.1=some dL/\0=0/\Lj.2.2.2.2.2.2.2.2.2.1.length=Lj.2.2.2.2.2.2.2.2.2.1.length/\Lj.2.2.2.2.2.2.2.2.2.1.length+(List.take 1 (List.drop 0 [dL])).length<=Db/\0=0/\(Lj.2.2.2.2.2.2.2.2.2.1++List.take 1 (List.drop 0 [dL])).length=(Lj.2.2.2.2.2.2.2.2.2.1++List.take 1 (List.drop 0 [dL])).length/\k12 (Pc,IntKind.i64.wrap (v11.2.1-(1:Int)),Lj.2.2.1,Lj.2.2.2.1,Lj.2.2.2.2.1,Lj.2.2.2.2.2.1,Lj.2.2.2.2.2.2.1,Lj.2.2.2.2.2.2.2.1,Lj.2.2.2.2.2.2.2.2.1,Lj.2.2.2.2.2.2.2.2.2.1++List.take 1 (List.drop 0 [dL]),())) (0=0/\Lj.2.2.2.2.2.2.2.2.2.1.length=Lj.2.2.2.2.2.2.2.2.2.1.length/\k14 (Lj.1,IntKind.i64.wrap (Lj.2.1+(1:Int)),Lj.2.2.1,Lj.2.2.2.1,Lj.2.2.2.2.1,Lj.2.2.2.2.2.1,Lj.2.2.2.2.2.2.1,Lj.2.2.2.2.2.2.2.1,Lj.2.2.2.2.2.2.2.2.1,Lj.2.2.2.2.2.2.2.2.2.1,()))) (0=0/\Lj.2.2.2.2.2.2.2.2.2.1.length=Lj.2.2.2.2.2.2.2.2.2.1.length/\k12 (Lj.1,IntKind.i64.wrap (v11.2.1-(1:Int)),Lj.2.2.1,Lj.2.2.2.1,Lj.2.2.2.2.1,Lj.2.2.2.2.2.1,Lj.2.2.2.2.2.2.1,Lj.2.2.2.2.2.2.2.1,Lj.2.2.2.2.2.2.2.2.1,Lj.2.2.2.2.2.2.2.2.2.1,()))) (v11.1,(0:Int),v11.2.2.1,v11.2.2.2.1,v11.2.2.2.2.1,v11.2.2.2.2.2.1,v11.2.2.2.2.2.2.1,v11.2.2.2.2.2.2.2.1,v11.2.2.2.2.2.2.2.2.1,v11.2.2.2.2.2.2.2.2.2.1,PUnit.unit)) (P ((List.take v11.2.2.2.2.2.2.2.2.2.1.length (List.drop 0 v11.2.2.2.2.2.2.2.2.2.1),()),()))) (s,No,n,str,g,L,D,La,b,[],PUnit.unit))=fnMW Rw (look [(44,Hb),(100,Wf),(75,kS)]) gD Try.f76 (n,str,g,L,D,La,b,s,()) P:=by kernel_rfl
abbrev gN:Type:=Int×Int×ByteArray×List (List Int)×Int×ByteArray×Int×ByteArray×List (List Int)×List (List Int)×PUnit
abbrev Th (v5:gN) (Np:(List Int×PUnit)×PUnit) (y9:(List Int×PUnit)×PUnit) (t:List Int) (y7:Int) (No:List Int) (y8:List Int):Prop:=0=0/\v5.2.2.2.2.2.2.2.2.2.1.length=v5.2.2.2.2.2.2.2.2.2.1.length/\v5.2.2.2.2.2.2.2.2.2.1.length+(List.take 1 (List.drop 0 [List.take Np.1.1.length (List.drop 0 Np.1.1)])).length<=Db/\ [(0,(v5.2.2.2.2.2.2.2.2.2.1++List.take 1 (List.drop 0 [List.take Np.1.1.length (List.drop 0 Np.1.1)])).length),(0,v5.2.2.2.2.2.2.2.2.1.length),(0,(v5.2.2.2.2.2.2.2.2.2.1++List.take 1 (List.drop 0 [List.take Np.1.1.length (List.drop 0 Np.1.1)])).length)]= [(0,(v5.2.2.2.2.2.2.2.2.2.1++List.take 1 (List.drop 0 [List.take y9.1.1.length (List.drop 0 y9.1.1)])).length),(0,v5.2.2.2.2.2.2.2.2.1.length),(0,(v5.2.2.2.2.2.2.2.2.2.1++List.take 1 (List.drop 0 [List.take y9.1.1.length (List.drop 0 y9.1.1)])).length)]/\(t,v5.1,y7,v5.1,t,(↑t.length:Int),decide (v5.1<(↑t.length:Int)),t,v5.1,y7,y7,v5.2.2.2.2.2.2.2.1,v5.2.2.1,y7,y7,IntKind.i64.wrap (y7+(1:Int)),v5.2.2.1.extract y7.toNat (IntKind.i64.wrap (y7+(1:Int))).toNat,v5.2.2.2.2.2.2.2.1++v5.2.2.1.extract y7.toNat (IntKind.i64.wrap (y7+(1:Int))).toNat,v5.2.2.2.1,y7,No,No,List.take Np.1.1.length (List.drop 0 Np.1.1),List.take 1 (List.drop 0 [List.take Np.1.1.length (List.drop 0 Np.1.1)]),v5.2.1,v5.2.2.1,v5.2.2.2.1,v5.2.2.2.2.1,v5.2.2.2.2.2.1,v5.2.2.2.2.2.2.1,v5.2.2.2.2.2.2.2.1++v5.2.2.1.extract y7.toNat (IntKind.i64.wrap (y7+(1:Int))).toNat,v5.2.2.2.2.2.2.2.2.1,v5.2.2.2.2.2.2.2.2.2.1++List.take 1 (List.drop 0 [List.take Np.1.1.length (List.drop 0 Np.1.1)]),())=(t,v5.1,y7,v5.1,t,(↑t.length:Int),decide (v5.1<(↑t.length:Int)),t,v5.1,y7,y7,v5.2.2.2.2.2.2.2.1,v5.2.2.1,y7,y7,IntKind.i64.wrap (y7+(1:Int)),v5.2.2.1.extract y7.toNat (IntKind.i64.wrap (y7+(1:Int))).toNat,v5.2.2.2.2.2.2.2.1++v5.2.2.1.extract y7.toNat (IntKind.i64.wrap (y7+(1:Int))).toNat,v5.2.2.2.1,y7,y8,y8,List.take y9.1.1.length (List.drop 0 y9.1.1),List.take 1 (List.drop 0 [List.take y9.1.1.length (List.drop 0 y9.1.1)]),v5.2.1,v5.2.2.1,v5.2.2.2.1,v5.2.2.2.2.1,v5.2.2.2.2.2.1,v5.2.2.2.2.2.2.1,v5.2.2.2.2.2.2.2.1++v5.2.2.1.extract y7.toNat (IntKind.i64.wrap (y7+(1:Int))).toNat,v5.2.2.2.2.2.2.2.2.1,v5.2.2.2.2.2.2.2.2.2.1++List.take 1 (List.drop 0 [List.take y9.1.1.length (List.drop 0 y9.1.1)]),PUnit.unit)
theorem KQ (n:Int) (str:ByteArray) (g:List (List Int)) (t:List Int) (P:((Int×ByteArray×List (List Int)×Unit)×Unit)->Prop):(0=0/\0=([]:List Int).length/\0=0/\0=([]:List Int).length/\Dh (λ(v5:gN) (k6:gN->Prop)=>Br (decide (v5.1<(↑t.length:Int))) (∃(y7:Int),idx t v5.1=some y7/\((0:Int)<=y7/\y7<=IntKind.i64.wrap (y7+(1:Int))/\IntKind.i64.wrap (y7+(1:Int))<=(↑v5.2.2.1.size:Int))/\v5.2.2.2.2.2.2.2.1.size+(v5.2.2.1.extract y7.toNat (IntKind.i64.wrap (y7+(1:Int))).toNat).size<=4294967296/\ ∃(y8:List Int),idx v5.2.2.2.1 y7=some y8/\ ∃(y9:(List Int×PUnit)×PUnit),Kn.fn (y8,())=some y9/\0=0/\v5.2.2.2.2.2.2.2.2.2.1.length=v5.2.2.2.2.2.2.2.2.2.1.length/\v5.2.2.2.2.2.2.2.2.2.1.length+(List.take 1 (List.drop 0 [List.take y9.1.1.length (List.drop 0 y9.1.1)])).length<=Db/\(0=0/\v5.2.2.2.2.2.2.2.2.1.length=v5.2.2.2.2.2.2.2.2.1.length/\0=0/\(v5.2.2.2.2.2.2.2.2.2.1++List.take 1 (List.drop 0 [List.take y9.1.1.length (List.drop 0 y9.1.1)])).length=(v5.2.2.2.2.2.2.2.2.2.1++List.take 1 (List.drop 0 [List.take y9.1.1.length (List.drop 0 y9.1.1)])).length/\k6 (IntKind.i64.wrap (v5.1+(1:Int)),v5.2.1,v5.2.2.1,v5.2.2.2.1,v5.2.2.2.2.1,v5.2.2.2.2.2.1,v5.2.2.2.2.2.2.1,v5.2.2.2.2.2.2.2.1++v5.2.2.1.extract y7.toNat (IntKind.i64.wrap (y7+(1:Int))).toNat,v5.2.2.2.2.2.2.2.2.1,v5.2.2.2.2.2.2.2.2.2.1++List.take 1 (List.drop 0 [List.take y9.1.1.length (List.drop 0 y9.1.1)]),()))/\(∃(No:List Int),idx v5.2.2.2.1 y7=some No/\ ∃(Np:(List Int×PUnit)×PUnit),Kn.fn (No,())=some Np/\(Th v5 Np y9 t y7 No y8))/\(∃(No:List Int),idx v5.2.2.2.1 y7=some No/\ ∃(Np:(List Int×PUnit)×PUnit),Kn.fn (No,())=some Np/\(Th v5 Np y9 t y7 No y8))/\ ∃(No:List Int),idx v5.2.2.2.1 y7=some No/\(∃(Np:(List Int×PUnit)×PUnit),Kn.fn (No,())=some Np/\(Th v5 Np y9 t y7 No y8))/\(∃(Np:(List Int×PUnit)×PUnit),Kn.fn (No,())=some Np/\(Th v5 Np y9 t y7 No y8))/\ ∃(Np:(List Int×PUnit)×PUnit),Kn.fn (No,())=some Np/\((Th v5 Np y9 t y7 No y8))/\(Th v5 Np y9 t y7 No y8)) (P ((v5.2.2.2.2.2.2.1,v5.2.2.2.2.2.2.2.1,List.take v5.2.2.2.2.2.2.2.2.2.1.length (List.drop 0 v5.2.2.2.2.2.2.2.2.2.1),()),()))) ((0:Int),n,str,g,Int.ofNat (nat_lit 0), {data:= #[]},n, {data:= #[]},[],[],PUnit.unit))=fnMW Rw (look [(92,Kn)]) Mp Try.f72 (n,str,g,t,()) P:=by kernel_rfl
theorem xc:Sound Try.prog 75 kS:=br.loose
theorem bV {p:PP} (hw:Dc p=true):Kp p.2.2.1 (Aq p.2.2.1.length) (Ae p) (λx=>x=(Ae p).getD 0 []) (Jc (Ae p) (Bj p)):=
 GZ (valid (Dl hw).1) (cH (Dl hw).1) (yV hw)
theorem dO {p:PP} {x:List Int} (hx:x∈Ae p):(Bj p).getD ((Ae p).idxOf x) 0=Jc (Ae p) (Bj p) x:=by unfold Jc;rw [Ac hx]
theorem mA {p:PP} (hw:Dc p=true):Kp p.2.2.1 (Aq p.2.2.1.length) (Ae p) (λx=>x=(Ae p).getD 0 []) (λx=>(Bj p).getD ((Ae p).idxOf x) 0):=by
 have h:=bV hw;have hc:=Mw hw
 exact ⟨λx hx=>by rw [dO hx];exact h.nn x hx,λx hx=>by rw [dO hx];exact h.zero x hx,λx hx l hl=>by rw [dO hx,dO (hc.next x hx l hl)];exact h.step x hx l hl,
  fun x hx h0=>by
   rw [dO hx] at h0⊢;obtain ⟨l,hl,e⟩:=h.down x hx h0
   exact ⟨l,hl,by rw [dO (hc.next x hx l hl)];exact e⟩⟩
theorem bX {p:PP} (hw:Dc p=true):(Bj p).length=(Ae p).length:=(cH (Dl hw).1).len
theorem zv {p:PP} (hw:Dc p=true):ZC p (Bj p):=Af3 hw (bX hw) (mA hw)
theorem Ae7 {α β:Type} (P:α×β->Bool) (xs:List α) (ys:List β) {j:Nat} (h1:j<xs.length) (h2:j<ys.length):((xs.zip ys).take (j+1)).filter P=if P (xs[j],ys[j])=true then ((xs.zip ys).take j).filter P++ [(xs[j],ys[j])] else ((xs.zip ys).take j).filter P:=by
 have hz:j<(xs.zip ys).length:=by rw [List.length_zip];omega
 rw [Iu,Ad hz,Ui,List.filter_append,List.getElem_zip]
 by_cases h:P (xs[j],ys[j])=true
 ·rw [Ac h,List.filter_cons_of_pos h];rfl
 ·rw [Ai h,List.filter_cons_of_neg h];simp
theorem Ac1 (e:Option XP) (i:Int) (h: ∃e':XP,e=some e'/\nu e'/\0<=i/\i<(Ae e'.1).length):fnMW Rw (look [(26,Ki)]) az Try.f105 (e,i,()) (λ(z:(List Int×List Int×Unit)×Unit)=>z=SZ e i):=by
 obtain ⟨e',rfl,hx,h1,h2⟩:=h;obtain ⟨i0,rfl⟩:=Ba h1
 have hi0:i0<(Ae e'.1).length:=by omega
 have hwv:=Dl hx.1;have hV:=valid hwv.1;have hf:=hV.eK;have hdl:=bX hx.1;have MY:=Aa1 hx
 obtain ⟨ls,bD⟩: ∃ls,Aq e'.1.2.2.1.length=ls:=⟨_,rfl⟩
 have hlf:=Sn hV
 obtain ⟨N,hN⟩: ∃N,Cv e'.1 i0=N:=⟨_,rfl⟩
 have hNl:N.length=ls.length:=by rw [<-hN,<-bD,Sv]
 have hNr: ∀t∈N,0<=t/\t<(Bj e'.1).length:= λt ht=>by have:=Tg hx.1 i0 hi0 t (by rw [hN];exact ht);omega
 show fnMW _ _ az _ _ (λz=>z=(((cq (Aq e'.1.2.2.1.length) (Cv e'.1 ((i0:Nat):Int).toNat) (Bj e'.1) (i0:Int)).1,(cq (Aq e'.1.2.2.1.length) (Cv e'.1 ((i0:Nat):Int).toNat) (Bj e'.1) (i0:Int)).2,()),()));rw [Ab,bD,hN];rw [bD] at hlf;refine Eq.mp (Adq _ _ _) ⟨e',rfl,ls,(Ac ⟨by show (0:Int)<=((e'.1.2.2.1.length:Nat):Int);omega,by show ((e'.1.2.2.1.length:Nat):Int)<=8;omega⟩).trans (Dz some (by show Aq (((e'.1.2.2.1.length:Nat):Int)).toNat=_;rw [Ab];exact bD)),e',rfl,N,by rw [<-hN];exact Aa2 hx hi0,rfl,rfl,rfl,rfl,?_⟩
 refine Bt N.length (λv=>v.1) (λj v=>v.2.1=(((ls.zip N).take j).filter (λq=>decide (Ef (Bj e'.1) q.2<Ef (Bj e'.1) (i0:Int)))).map Prod.fst/\v.2.2.1=(((ls.zip N).take j).filter (λq=>decide (Ef (Bj e'.1) q.2<Ef (Bj e'.1) (i0:Int)))).map Prod.snd/\v.2.1.length<=j/\v.2.2.1.length<=j) rfl ⟨rfl,rfl,Ap _,Ap _⟩ ?_;rintro j ⟨jj,a,b,⟨⟩⟩ K hj nt ⟨r1,r2,r3,r4⟩ hK;dsimp only at nt r1 r2 r3 r4⊢;subst nt;refine Br.dec (λhl=>?_) λhl=>?_
 ·have hl:j<N.length:=by omega
  have hjl:j<ls.length:=by omega
  have ht:=hNr _ (Ah hl);have hzt:=Ae7 (λq=>decide (Ef (Bj e'.1) q.2<Ef (Bj e'.1) (i0:Int))) ls N hjl hl;refine ⟨_,Bu hl,e',rfl,_,by rw [MY];exact Uq ht.1 ht.2,e',rfl,_,by rw [MY];exact Uq (y:=(i0:Int)) (by omega) (by omega),Br.dec (λhb=>?_) λhb=>?_⟩
  ·rw [Ac (Ci hb)] at hzt;refine ⟨_,Bu hjl,rfl,rfl,?_,rfl,rfl,?_,rfl,rfl,rfl,rfl,?_⟩
   ·show a.length+1<=4294967296;omega
   ·show b.length+1<=4294967296;omega
   ·rw [Bm (by omega)];refine hK hl _ rfl ⟨?_,?_,?_,?_⟩
    ·show a++ [ls[j]]=_;rw [hzt,Hj,r1];rfl
    ·show b++ [N[j]]=_;rw [hzt,Hj,r2];rfl
    ·show (a++ [ls[j]]).length<=j+1;rw [Av,Bp];omega
    ·show (b++ [N[j]]).length<=j+1;rw [Av,Bp];omega
  ·rw [Ai (by simpa using hb)] at hzt;refine ⟨rfl,rfl,rfl,rfl,?_⟩;rw [Bm (by omega)];refine hK hl _ rfl ⟨?_,?_,by show a.length<=j+1;omega,by show b.length<=j+1;omega⟩
   ·rw [hzt];exact r1
   ·rw [hzt];exact r2
 ·have:j=N.length:=by omega
  subst this;rw [Jh (by rw [List.length_zip];omega)] at r1 r2;rw [Cl,Cl,r1,r2];rfl
theorem CB:Ds Try.prog 105 az:=
 Ds.cW Qo (Bf aa Ce) mixed Try.func105 (by kernel_rfl) (by kernel_rfl) λx h=>Ac1 x.1 x.2.1 h
theorem nW {α:Type} {P:α->Bool} : ∀(l:List α) (k:Nat) (h:k<l.length),P l[k]=true->(∀j (hj:j<k),P (l[j]'(by omega))=false)-> ∃r,l.filter P=l[k]::r
 | [],k,h,_,_=>by simp at h
 |y::r,0,_,h1,_=>⟨_,List.filter_cons_of_pos (show P y=true from h1)⟩
 |y::r,k+1,h,h1,h2=>by
  rw [List.filter_cons_of_neg (by have:=h2 0 (by omega);simp at this;simp [this])];exact nW r k (by simpa using h) h1 λj hj=>h2 (j+1) (by omega)
theorem Aly (e:Option XP) (i:Int) (h: ∃e':XP,e=some e'/\nu e'/\0<=i/\i<(Ae e'.1).length):fnMW Rw (look [(105,az)]) jT Try.f81 (e,i,()) (λ(z:(List Int×Bool×Unit)×Unit)=>z=Abm e i):=by
 obtain ⟨e',rfl,hx,h1,h2⟩:=h;have hwv:=Dl hx.1;have hV:=valid hwv.1;have hdl:=bX hx.1;have MY:=Aa1 hx;have hd:=zv hx.1;show fnMW _ _ jT _ _ (λz=>z=(Yz e'.1 i,()));unfold Yz Yw;refine Eq.mp (Amu _ _ _) ⟨e',rfl,Ef (Bj e'.1) i,by rw [MY];exact Uq h1 (by omega),Br.dec (λhb=>by rw [Ac hb];rfl) λhb=>⟨rfl,rfl,?_⟩⟩;rw [Ai hb]
 have hnn: ∀k:Nat,k<(Bj e'.1).length->0<=Ef (Bj e'.1) (k:Int):= λk hk=>by unfold Ef;rw [Ab];exact hd.nn k hk
 obtain ⟨R,hRR⟩: ∃R,dc (Cv e'.1) (Aq e'.1.2.2.1.length) (Bj e'.1) (Ef (Bj e'.1) i).toNat i []=R:=⟨_,rfl⟩
 rw [hRR];obtain ⟨i0,rfl⟩:=Ba h1
 refine Dh.mk (λv=> ∃(k:Nat) (w:List Int) (f:Nat),v=((k:Int),w,())/\k<(Bj e'.1).length/\Ef (Bj e'.1) (k:Int)<=f/\w.length+f<=200/\dc (Cv e'.1) (Aq e'.1.2.2.1.length) (Bj e'.1) f (k:Int) w=R) (λv=>(Ef (Bj e'.1) v.1).toNat)
  ⟨i0,[],(Ef (Bj e'.1) (i0:Int)).toNat,rfl,by omega,by omega,by have:=hnn i0 (by omega);simp only [Ex];omega,hRR⟩ ?_
 rintro v ⟨k,w,f,rfl,k1,k2,k3,k4⟩;dsimp only;refine ⟨e',rfl,Ef (Bj e'.1) (k:Int),by rw [MY];exact Uq (by omega) (by omega),Br.dec (λhl=>?_) λhl=>?_⟩
 ·have Mr:0<(Bj e'.1).getD k 0:=by unfold Ef at hl;rwa [Ab] at hl
  obtain ⟨f,rfl⟩: ∃f',f=f'+1:=⟨f-1,by omega⟩
  obtain ⟨t0,ht0,htl⟩:=hd.dn k (by omega) Mr
  have l7:Ef (Bj e'.1) (k:Int)=(Bj e'.1).getD k 0:=by unfold Ef;rw [Ab]
  have jn:(Cv e'.1 k).any (λy=>decide (Ef (Bj e'.1) y<Ef (Bj e'.1) (k:Int)))=true:=Eu.2 ⟨t0,ht0,Ci (by rw [l7];exact htl)⟩;obtain ⟨n,n2,n3,q1,q2⟩:=kI (Cv e'.1 k) 0 jn
  have n3:Ik (λy=>decide (Ef (Bj e'.1) y<Ef (Bj e'.1) (k:Int))) (Cv e'.1 k) 0=(n:Int):=by rw [Bl] at n3;exact n3
  have n1:n<(Aq e'.1.2.2.1.length).length:=by rw [<-Sv e'.1 k];exact n2
  obtain ⟨r1,r2⟩:=Tg hx.1 k (by omega) _ (Ah n2);obtain ⟨t,n4⟩:=Ba r1
  have n6:Ef (Bj e'.1) (t:Int)<Ef (Bj e'.1) (k:Int):=by have:=Cx q1;rwa [n4] at this
  simp only [dc] at k4;rw [Ac hl,Ab,n3,Ab,Bw n2,n4,Bw n1] at k4
  have hz:n<((Aq e'.1.2.2.1.length).zip (Cv e'.1 k)).length:=by rw [List.length_zip];omega
  obtain ⟨rest,cb⟩:=nW (P:= λq:Int×Int=>decide (Ef (Bj e'.1) q.2<Ef (Bj e'.1) (k:Int))) ((Aq e'.1.2.2.1.length).zip (Cv e'.1 k)) n hz (by rw [List.getElem_zip];exact q1) λj hj=>by rw [List.getElem_zip];exact q2 j hj
  rw [List.getElem_zip,n4] at cb
  have Ra:az.fn (some e',(k:Int),())=some (((Aq e'.1.2.2.1.length)[n]::rest.map Prod.fst,(t:Int)::rest.map Prod.snd,()),()):=by
   refine (Ac ⟨e',rfl,hx,by show (0:Int)<=(k:Int);omega,by show (k:Int)<((Ae e'.1).length:Int);omega⟩).trans (Dz some ?_);show (((cq (Aq e'.1.2.2.1.length) (Cv e'.1 ((k:Nat):Int).toNat) (Bj e'.1) (k:Int)).1,(cq (Aq e'.1.2.2.1.length) (Cv e'.1 ((k:Nat):Int).toNat) (Bj e'.1) (k:Int)).2,()),())=_;rw [Ab];unfold cq;rw [cb];rfl
  have h0:=hnn t (by omega);refine ⟨_,Ra,⟨by omega,by simp only [Aw];omega⟩,(Aq e'.1.2.2.1.length)[n],rfl,rfl,rfl,?_,⟨by omega,by simp only [Aw];omega⟩,(t:Int),rfl,rfl,rfl,⟨t,w++ [(Aq e'.1.2.2.1.length)[n]],f,rfl,by omega,by omega,by rw [Av,Bp];omega,k4⟩,?_⟩
  ·show w.length+1<=4294967296;omega
  ·show (Ef (Bj e'.1) (t:Int)).toNat<(Ef (Bj e'.1) (k:Int)).toNat;omega
 ·rw [Cl]
  have:dc (Cv e'.1) (Aq e'.1.2.2.1.length) (Bj e'.1) f (k:Int) w=(w,(k:Int)):=by
   cases f with
   |zero=>rfl
   |succ f=>simp only [dc];rw [Ai (by omega)]
  rw [this] at k4;subst k4;rfl
theorem QB:Ds Try.prog 81 jT:=
 Ds.cW Qo (Ic CB Ce) mixed Try.func81 (by kernel_rfl) (by kernel_rfl) λx h=>Aly x.1 x.2.1 h
theorem Abx {p:PP} {i:Int} (hw:Dc p=true) (h1:0<=i) (h2:i<(Ae p).length):(Yz p i).1.length<=200:=by
 unfold Yz Yw;split
 ·simp
 ·rename_i hb;obtain ⟨i0,rfl⟩:=Ba h1;have hd:=zv hw
  have hg:Ef (Bj p) (i0:Int)=(Bj p).getD i0 0:=by unfold Ef;rw [Ab]
  have hnn:=hd.nn i0 (by rw [bX hw];omega);obtain ⟨_,r2,_⟩:=MM hw hd (mA hw) (see:= λx=>x) (dep:=Jc (Ae p) (Bj p)) (λ_ _ _ _=>rfl) (λx hx=>dO hx) (Ef (Bj p) (i0:Int)).toNat i0 [] (by omega) (by rw [<-hg];omega);rw [r2];simp only [Ex];omega
theorem lr {p:PP} (hw:Dc p=true) {d:List Int} (hd:ZC p d): ∀(f:Nat) (i:Nat) (w:List Int),i<d.length->(∀l∈w,l∈Aq p.2.2.1.length)-> ∀l∈(dc (Cv p) (Aq p.2.2.1.length) d f (i:Int) w).1,l∈Aq p.2.2.1.length
 |0,i,w,_,h=>h
 |f+1,i,w,hi,h=>by
  simp only [dc];split
  ·rename_i hl
   have Mr:0<d.getD i 0:=by unfold Ef at hl;rwa [Ab] at hl
   obtain ⟨n,n1,n2,n3,t,n4,n5,n6⟩:=Af5 hw hd hi Mr;rw [Ab,n3,Ab,Bw n2,n4,Bw n1];refine lr hw hd f t _ n5 λl cU=>?_;rcases Be.1 cU with h2|h2
   ·exact h l h2
   ·rw [Af.1 h2];exact Ah n1
  ·exact h
theorem AU {p:PP} {i:Int} (hw:Dc p=true) (h1:0<=i) (h2:i<(Ae p).length): ∀l∈(Yz p i).1,Ie (List.length p.2.2.1) l:=by
 unfold Yz Yw;split
 ·intro l hl;cases hl
 ·obtain ⟨i0,rfl⟩:=Ba h1;intro l hl;exact Jw (lr hw (zv hw) _ i0 [] (by rw [bX hw];omega) (λl hl=>by cases hl) l hl)
theorem TP {p:PP} {t:List Int} (hs:Dg p t=true) {l:Int} (hl:Ie (List.length (Bc p t).2.2.1) l):
  (l>0->0<=l-1/\l-1<t.length/\0<=Ef t (l-1)/\Ef t (l-1)<8)/\(¬l>0->0<= -l-1/\ -l-1<t.length/\0<=Ef t (-l-1)/\Ef t (-l-1)<8):=by
 have Oy:=cK hs;have hlen:List.length (Bc p t).2.2.1=t.length:=Ct _;rw [hlen] at hl;have h8:=Oy.g8
 have key: ∀k:Int,0<=k->k<t.length->0<=Ef t k/\Ef t k<8:= λk k1 k2=>by
  obtain ⟨kn,rfl⟩:=Ba k1
  have hk:kn<t.length:=by omega
  obtain ⟨j,e,hj⟩:=Oy.Sb hk
  have:Ef t (kn:Int)=(j:Int):=by unfold Ef;rw [Ab,Bw hk,e]
  rw [this];omega
 obtain ⟨l1,l2,l3⟩:=hl;exact ⟨λh=>⟨by omega,by omega,key _ (by omega) (by omega)⟩,λh=>⟨by omega,by omega,key _ (by omega) (by omega)⟩⟩
theorem p7 {f:Int->Int} {w ys:List Int} {j:Nat} (hj:j<w.length) (hl:ys.length=w.length) (h1:ys.take j=(w.take j).map f) (h2:ys.drop j=w.drop j):
  (ys.set j (f w[j])).take (j+1)=(w.take (j+1)).map f/\(ys.set j (f w[j])).drop (j+1)=w.drop (j+1)/\ys.getD j 0=w[j]:=by
 have hjy:j<ys.length:=by omega
 refine ⟨?_,?_,?_⟩
 ·rw [Iu,List.take_set_of_le (by omega),h1,aQ hjy,Iu,Ad hj,Hj];rfl
 ·rw [List.drop_set_of_lt (by omega)];have:=Dz (List.drop 1) h2
  rwa [List.drop_drop,List.drop_drop] at this
 ·have:=Dz (λz=>z[0]?) h2;simp only [Cp,El] at this;rw [Ad hjy,Ad hj] at this;rw [Bw hjy];exact Bi this
theorem Agl (h:Option HP) (i:Int) (hh: ∃p t,Ks p t=true/\h=some (Eo p t)/\0<=i/\i<(Ae p).length):fnMW Rw (look [(52,Sx),(81,jT)]) dB Try.f54 (h,i,()) (λ(z:(List Int×Bool×Unit)×Unit)=>z=HI h i):=by
 obtain ⟨p,t,hw,rfl,h1,h2⟩:=hh;obtain ⟨k,rfl⟩:=Ba h1
 have hk:k<(Ae p).length:=by omega
 obtain ⟨Pd,hm⟩:=Lq.1 hw;have Sd:=(bh Pd).1;have cd:=Rj Pd hm
 obtain ⟨s,hs⟩: ∃s,(Ae p)[k]=s:=⟨_,rfl⟩
 have hfd:Sx.fn (some (Gr (Bc p t)),s,())=some (Ir (Bc p t) s):=Ac ⟨⟨Gr (Bc p t),rfl,cd,rfl⟩,by rw [<-hs];exact uP (fo (Dl Pd).1 (Ah hk))⟩;show fnMW _ _ dB _ _ (λz=>z=(kN p t ((Ae p).getD ((k:Nat):Int).toNat []),()));rw [Ab,Bw hk,hs];unfold kN;refine Eq.mp (Ahe _ _ _) ⟨Eo p t,rfl,Eo p t,rfl,Gr p,rfl,s,by rw [Sd,<-hs];exact Bu hk,_,hfd,?_⟩;rw [SR];refine Br.of (λhb=>?_) λhb=>?_
 ·have hn:s∉Ae (Bc p t):=by simpa using hb
  rw [Ai hn];rfl
 have Jq:s∈Ae (Bc p t):=by simpa using hb
 rw [Ac Jq];obtain ⟨i1,i2,_⟩:=GM Jq;have qZ:jT.fn (some (Gr (Bc p t)),(Ir (Bc p t) s).1,())=some (Yz (Bc p t) (Ir (Bc p t) s).1,()):=Ac ⟨Gr (Bc p t),rfl,⟨cd,rfl⟩,i1,i2⟩;have eQ:=Abx cd i1 i2;have Kr:=AU cd i1 i2;have Awl:=(cK hm).eK;have Awm:=(cK hm).g8;refine ⟨Eo p t,rfl,_,qZ,?_⟩;generalize hO:Yz (Bc p t) (Ir (Bc p t) s).1=O at*;obtain ⟨w,ok,⟨⟩⟩:=O;dsimp only at eQ Kr⊢
 cases ok with
 |false=>
  refine ⟨λ_=>?_,λhb=>by simp at hb⟩
  have:w= []:=by
   unfold Yz Yw at hO;split at hO
   ·simp only [Ag] at hO;exact hO.1.symm
   ·simp only [Ag] at hO;exact absurd hO.2.1 (by simp)
  subst this;rfl
 |true=>
  refine ⟨λhb=>by simp at hb,λ_=>⟨rfl,rfl,rfl,rfl,?_⟩⟩;refine Bt w.length (λv=>v.1) (λj v=>v.2.1.length=w.length/\v.2.1.take j=(w.take j).map (aK t)/\v.2.1.drop j=w.drop j) rfl ⟨rfl,rfl,rfl⟩ ?_;rintro j ⟨jj,ys,⟨⟩⟩ K hj nt ⟨g1,g2,g3⟩ hK;dsimp only at nt g1 g2 g3⊢;subst nt;refine Br.dec (λhl=>?_) λhl=>?_
  ·have hl:j<w.length:=by omega
   obtain ⟨e1,e2,e3⟩:=p7 (f:=aK t) hl g1 g2 g3;obtain ⟨b1,b2⟩:=TP hm (Kr _ (Ah hl));refine ⟨⟨by omega,by omega⟩,w[j],by rw [UQ (by omega),e3],Br.dec (λhp=>?_) λhp=>?_⟩
   ·obtain ⟨c1,c2,c3,c4⟩:=b1 hp;have SM:aK t w[j]=Ef t (w[j]-1)+1:=Ac hp;refine ⟨Eo p t,rfl,Ef t (w[j]-1),by rw [Co (n:=w[j]-1) (by omega) (by omega)];exact Uq c1 c2,⟨by omega,by omega⟩,by rw [Ab];omega,rfl,by rw [Bb],rfl,by rw [Bb],?_⟩;rw [Bm (by omega),Ab,Bl,Co (n:=Ef t (w[j]-1)+1) (by omega) (by omega),<-SM];exact hK hl _ rfl ⟨by rw [Bb];exact g1,e1,e2⟩
   ·obtain ⟨c1,c2,c3,c4⟩:=b2 hp;have SM:aK t w[j]= -(Ef t (-w[j]-1)+1):=Ai hp
    have e5:IntKind.i64.wrap (IntKind.i64.wrap (0-w[j])-1)= -w[j]-1:=by rw [Co (n:=0-w[j]) (by omega) (by omega),Co (by omega) (by omega)];omega
    have e6:IntKind.i64.wrap (0-IntKind.i64.wrap (Ef t (-w[j]-1)+1))=aK t w[j]:=by rw [Co (n:=Ef t (-w[j]-1)+1) (by omega) (by omega),Co (by omega) (by omega),SM];omega
    refine ⟨Eo p t,rfl,Ef t (-w[j]-1),by rw [e5];exact Uq c1 c2,⟨by omega,by omega⟩,by rw [Ab];omega,rfl,by rw [Bb],rfl,by rw [Bb],?_⟩;rw [Bm (by omega),Ab,Bl,e6];exact hK hl _ rfl ⟨by rw [Bb];exact g1,e1,e2⟩
  ·have:j=w.length:=by omega
   subst this;rw [Cl];rw [<-g1,Az,g1,Az] at g2;rw [g2]
theorem JM:Ds Try.prog 54 dB:=
 Ds.cW Qo (Bf gH (Ic QB Ce)) mixed Try.func54 (by kernel_rfl) (by kernel_rfl) λx h=>Agl x.1 x.2.1 h
theorem IN (n:Int) (str:ByteArray) (g:List (List Int)) (t:List Int) (h:Fo (n,str,g,())/\Dg (n,str,g,()) t=true):
  fnMW Rw (look [(92,Kn)]) Mp Try.f72 (n,str,g,t,()) (λ(z:(Int×ByteArray×List (List Int)×Unit)×Unit)=>z=(((Bc (n,str,g,()) t).1,(Bc (n,str,g,()) t).2.1,(Bc (n,str,g,()) t).2.2.1,()),())):=by
 obtain ⟨hp,Oy⟩:=h;have hs:=cK Oy;have Aqa:=hs.size;dsimp only at Aqa;refine Eq.mp (KQ n str g t _) ⟨rfl,rfl,rfl,rfl,?_⟩;refine Bt t.length (λv=>v.1) (λj v=>v=((j:Int),n,str,g,0,ByteArray.empty,n,Vp str (t.take j),[],(t.take j).map λk=>g.getD k.toNat [],())) rfl rfl ?_;rintro j v K hj hi hR hK;subst hR;dsimp only;have hlen:=hs.eK;have hg8:=hs.g8;dsimp only at hlen hg8;refine Br.dec (λhl=>?_) λhl=>?_
 ·have hl:j<t.length:=by omega
  obtain ⟨kn,hk,pe⟩:=hs.Sb hl;dsimp only at pe
  have hkb:kn<str.size:=by omega
  have hw:IntKind.i64.wrap ((kn:Int)+1)=(kn:Int)+1:=Co (by omega) (by omega);have Uj:=fq (b:=str) (t.take j) λk lJ=>hs.in' k (Gl lJ)
  have hex:(str.extract kn (kn+1)).size=1:=by rw [ByteArray.size_extract];omega
  have sG:short g[kn]:=hp.2.2 _ (Ah pe);have Afn:idx g (kn:Int)=some g[kn]:=Bu pe;have Ra:Kn.fn (g[kn],())=some ((g[kn],()),()):=Ac sG
  have Apd:((t.take j).map λk=>g.getD k.toNat []).length+(List.take 1 (List.drop 0 [List.take (g[kn]).length (List.drop 0 g[kn])])).length<=4294967296:=by
   show ((t.take j).map _).length+1<=4294967296
   rw [Ct];have:=gW j t;omega
  refine ⟨_,Bu hl,?_⟩;rw [hk,hw];refine ⟨⟨by omega,by omega,by omega⟩,by rw [show ((kn:Int)+1).toNat=kn+1 by omega,Ab,hex,Uj];have:=gW j t;omega,_,Afn,_,Ra,rfl,rfl,Apd,⟨rfl,rfl,rfl,rfl,?_⟩,?_⟩
  ·rw [Bm (by omega),show ((kn:Int)+1).toNat=kn+1 by omega,Ab];refine hK hl _ rfl ?_;rw [qx _ hl,map_take _ hl,hk,Ab,show ((kn:Int)+1).toNat=kn+1 by omega,Bw pe,Cl];rfl
  ·repeat' (first|exact ⟨rfl,rfl⟩|exact rfl|exact Apd|refine ⟨_,Afn,?_⟩|refine ⟨_,Ra,?_⟩|refine ⟨?_,?_⟩)
 ·have:j=t.length:=by omega
  subst this;rw [Az,Cl];rfl
theorem sr:Ds Try.prog 72 Mp:=
 Ds.cW Qo (Ic sk Ce) mixed Try.func72 (by kernel_rfl) (by kernel_rfl) λx h=>IN x.1 x.2.1 x.2.2.1 x.2.2.2.1 h
theorem Ym {p:PP} (hw:Dc p=true) {x:List Int} (hx:x∈Ae p):0<=Jc (Ae p) (Bj p) x/\Jc (Ae p) (Bj p) x<=3000:=by
 have jr:=cH (Dl hw).1;have wF:=jr.ok.eK;refine ⟨(bV hw).nn x hx,?_⟩;obtain ⟨i,hi,rfl⟩:=Bg.1 hx
 have hiD:i<(Bj p).length:=by rw [jr.len];exact hi
 have h1:=jr.dep i hiD
 have h2:Jc (Ae p) (Bj p) ((Ae p)[i])=(Bj p).getD i 0:=by
  rw [<-Bw (d:= []) hi];exact mz jr.ok.nodup hi
 rw [h2,Bw hiD];omega
theorem Alr (n0:Int) (str:ByteArray) (g L:List (List Int)) (D La:List Int) (b:Bool) (s:List Int) (h:Dc (n0,str,g,())=true/\(L,D,La,b,())=Bq g (upto n0.toNat)/\s∈Ae (n0,str,g,())):
  fnMW Rw (look [(44,Hb),(100,Wf),(75,kS)]) gD Try.f76 (n0,str,g,L,D,La,b,s,()) (λ(z:(List Int×Unit)×Unit)=>z=((cr (n0,str,g,()) s,()),())):=by
 obtain ⟨hw,hse,hs⟩:=h
 obtain ⟨p,wJ⟩: ∃p:PP,(n0,str,g,())=p:=⟨_,rfl⟩
 have e1:n0=p.1:=by rw [<-wJ]
 have e2:str=p.2.1:=by rw [<-wJ]
 have e3:g=p.2.2.1:=by rw [<-wJ]
 rw [wJ] at hw hs
 have hL:L=(Bq p.2.2.1 (upto p.1.toNat)).1:=by rw [<-e3,<-e1,<-hse]
 have hD:D=(Bq p.2.2.1 (upto p.1.toNat)).2.1:=by rw [<-e3,<-e1,<-hse]
 have hS:La=(Bq p.2.2.1 (upto p.1.toNat)).2.2.1:=by rw [<-e3,<-e1,<-hse]
 have hB:b=(Bq p.2.2.1 (upto p.1.toNat)).2.2.2.1:=by rw [<-e3,<-e1,<-hse]
 refine Eq.mp (Amo n0 str g L D La b s _) ?_;rw [wJ,e1,e2,e3,hL,hD,hS,hB];clear hse hL hD hS hB wJ e1 e2 e3;have hv:=(Dl hw).1;have hV:=valid hv;have hn:=hV.n;have jr:=cH hv;have wF:=jr.ok.eK;have hc:=Mw hw;have hd:=bV hw
 obtain ⟨ls,bD⟩: ∃ls,Aq p.2.2.1.length=ls:=⟨_,rfl⟩
 have jq: ∀l∈ls,Ie (List.length p.2.2.1) l:= λl hl=>Jw (bD▸hl);have YO: ∀x,Jc (Ae p) (Bj p) x=Jc (Ae p) (Bj p) x:= λx=>rfl;rw [bD] at hc hd
 have hdo: ∀x:List Int,x.length=p.1.toNat->Wf.fn (((Bq p.2.2.1 (upto p.1.toNat)).1,(Bq p.2.2.1 (upto p.1.toNat)).2.1,(Bq p.2.2.1 (upto p.1.toNat)).2.2.1,(Bq p.2.2.1 (upto p.1.toNat)).2.2.2.1,()),x,())=some (Jc (Ae p) (Bj p) x):= λx hx=>
  Ac ⟨by show Gp x.length (Ae p) (aC (Ae p));rw [hx];exact jr.ok,jr.len⟩
 have hlf:=Sn hV;rw [bD] at hlf;have SM:=(fo hv hs).1;have hd0:0<=Jc (Ae p) (Bj p) s/\Jc (Ae p) (Bj p) s<=3000:=Ym hw hs;unfold cr;rw [bD];refine ⟨ls,(Ac hV.eK.2).trans (Dz some bD),_,hdo _ SM,rfl,rfl,?_⟩
 obtain ⟨R,hR⟩: ∃R,cG p.2.2.1 (Jc (Ae p) (Bj p)) ls (Jc (Ae p) (Bj p) s).toNat s []=R:=⟨_,rfl⟩
 rw [hR];obtain ⟨n0,YU⟩:=Ba hd0.1;rw [YU] at hR hd0⊢;rw [Ab] at hR
 refine Dh.mk (λv=> ∃(x:List Int) (n:Nat) (w:List Int),v=(x,(n:Int),p.1,p.2.1,p.2.2.1,(Bq p.2.2.1 (upto p.1.toNat)).1,(Bq p.2.2.1 (upto p.1.toNat)).2.1,(Bq p.2.2.1 (upto p.1.toNat)).2.2.1,(Bq p.2.2.1 (upto p.1.toNat)).2.2.2.1,w,())/\x∈Ae p/\Jc (Ae p) (Bj p) x=n/\w.length+n<=3000/\cG p.2.2.1 (Jc (Ae p) (Bj p)) ls n x w=R) (λv=>v.2.1.toNat)
  ⟨s,n0,[],rfl,hs,YU,by simp only [Ex];omega,hR⟩ ?_
 rintro v ⟨x,n,w,rfl,g1,g2,g3,g4⟩;dsimp only;refine Br.dec (λhl=>⟨rfl,rfl,?_⟩) λhl=>?_
 ·obtain ⟨n,rfl⟩: ∃n',n=n'+1:=⟨n-1,by omega⟩
  simp only [cG] at g4;have hxl:x.length=p.1.toNat:=(fo hv g1).1;have hxr: ∀y∈x,0<=y/\y<p.1:=jr.row x g1
  have hwr:IntKind.i64.wrap (((n+1:Nat):Int)-1)=(n:Int):=by rw [Co (by omega) (by omega)];omega
  rw [hwr]
  refine Bt ls.length (λv=>v.2.1) (λi v=>v=(x,(i:Int),p.1,p.2.1,p.2.2.1,(Bq p.2.2.1 (upto p.1.toNat)).1,(Bq p.2.2.1 (upto p.1.toNat)).2.1,(Bq p.2.2.1 (upto p.1.toNat)).2.2.1,(Bq p.2.2.1 (upto p.1.toNat)).2.2.2.1,w,())/\
   (ls.drop i).find? (λl=>decide (Jc (Ae p) (Bj p) (Am x (Ax p.2.2.1 l))=n))=ls.find? (λl=>decide (Jc (Ae p) (Bj p) (Am x (Ax p.2.2.1 l))=n))) rfl ⟨rfl,by rw [Cw]⟩ ?_
  rintro i v K hi hii ⟨rfl,hf⟩ hK;dsimp only;refine Br.dec (λhil=>?_) λhil=>?_
  ·have hil:i<ls.length:=by omega
   have sF:=Ah hil;have uc:=jq _ sF;obtain ⟨nl,nr⟩:=sK hV hxr uc;have hnx:=hc.next x g1 _ sF;rw [Ft hil] at hf;refine ⟨_,Bu hil,_,Ac ⟨hv,by show x.length<=20;omega,hxr,uc⟩,_,hdo _ (by rw [<-hxl];exact nl),Br.of (λhb=>?_) λhb=>?_⟩
   ·have hb:Jc (Ae p) (Bj p) (Am x (Ax p.2.2.1 ls[i]))=n:=by simpa using hb
    rw [List.find?_cons_of_pos (by simpa using hb)] at hf;rw [<-hf] at g4;refine ⟨_,Bu hil,rfl,rfl,?_,rfl,rfl,⟨_,n,w++ [ls[i]],rfl,hnx,hb,by rw [Av,Bp];omega,g4⟩,?_⟩
    ·show w.length+1<=4294967296;omega
    ·show ((n:Int)).toNat<(((n+1:Nat):Int)).toNat;omega
   ·have hb: ¬Jc (Ae p) (Bj p) (Am x (Ax p.2.2.1 ls[i]))=n:=by simpa using hb
    rw [List.find?_cons_of_neg (by simpa using hb)] at hf;refine ⟨rfl,rfl,?_⟩;rw [Bm (by omega)];exact hK hil _ rfl ⟨rfl,hf⟩
  ·have:i=ls.length:=by omega
   subst this;rw [Zr,List.find?_nil] at hf;obtain ⟨l,sF,hle⟩:=hd.down x g1 (by rw [YO,g2];omega);have:=List.find?_eq_none.1 hf.symm l sF;rw [YO,YO,g2] at hle;exact absurd (Ci (by rw [hle];omega)) this
 ·rw [Cl]
  have:n=0:=by omega
  subst this;rw [<-g4];rfl
theorem PX:Ds Try.prog 76 gD:=
 Ds.cW Qo (Bf Qw (Bf xe (Bf xc Ce))) mixed Try.func76 (by kernel_rfl) (by kernel_rfl) λx h=>Alr x.1 x.2.1 x.2.2.1 x.2.2.2.1 x.2.2.2.2.1 x.2.2.2.2.2.1 x.2.2.2.2.2.2.1 x.2.2.2.2.2.2.2.1 h
theorem gK {g:List (List Int)} {dep:List Int->Int} {ls:List Int} : ∀(n:Nat) (x w:List Int),(∀l∈w,l∈ls)-> ∀l∈(cG g dep ls n x w).1,l∈ls
 |0,x,w,h=>h
 |n+1,x,w,h=>by
  simp only [cG];split
  ·rename_i l hf;refine gK n _ _ λl' hl=>?_;rcases Be.1 hl with h2|h2
   ·exact h l' h2
   ·rw [Af.1 h2];exact List.mem_of_find?_eq_some hf
  ·exact gK n x w h
theorem QH {g:List (List Int)} {dep:List Int->Int} {ls:List Int} : ∀(n:Nat) (x w:List Int),(cG g dep ls n x w).1.length<=w.length+n
 |0,x,w=>Ap _
 |n+1,x,w=>by
  simp only [cG];split
  ·rename_i l hf;have:=QH (g:=g) (dep:=dep) (ls:=ls) n (Am x (Ax g l)) (w++ [l]);rw [Av,Bp] at this;omega
  ·have:=QH (g:=g) (dep:=dep) (ls:=ls) n x w;omega
theorem FF {p:PP} (hw:Dc p=true) {s:List Int} (hs:s∈Ae p):(cr p s).length<=3000:=by
 have h1:=QH (g:=p.2.2.1) (dep:=Jc (Ae p) (Bj p)) (ls:=Aq p.2.2.1.length) (Jc (Ae p) (Bj p) s).toNat s [];have h2:=Ym hw hs;unfold cr;simp only [Ex] at h1;omega
theorem dup3 {A:Prop} (h:A):(A/\A)/\A:=⟨⟨h,h⟩,h⟩
theorem Amm {p:PP} {t s:List Int} (Pd:Dc p=true) (hm:Dg p t=true) (Jq:s∈Ae (Bc p t)):kN p t s=TA (Me p t s):=by
 have cd:=Rj Pd hm;have hi:=Ga Jq;have hb:=Ym cd Jq
 have LD:(Ir (Bc p t) s).1=(((Ae (Bc p t)).idxOf s:Nat):Int):=by unfold Ir;rw [Ac Jq]
 have hg:Ef (Bj (Bc p t)) (Ir (Bc p t) s).1=Jc (Ae (Bc p t)) (Bj (Bc p t)) s:=by
  rw [LD];unfold Ef;rw [Ab];exact dO Jq
 have hsi:(Ae (Bc p t)).getD ((Ae (Bc p t)).idxOf s) []=s:=by rw [Bw hi];exact Ug hi
 obtain ⟨r1,r2,_⟩:=MM cd (zv cd) (mA cd) (see:= λx=>x) (dep:=Jc (Ae (Bc p t)) (Bj (Bc p t))) (λ_ _ _ _=>rfl) (λx hx=>dO hx)
  (Jc (Ae (Bc p t)) (Bj (Bc p t)) s).toNat ((Ae (Bc p t)).idxOf s) [] hi (by rw [dO Jq];omega)
 rw [hsi] at r1;have r1:_=cr (Bc p t) s:=r1;rw [r1] at r2;simp only [Ex,Bl] at r2;unfold kN Yz Yw TA Me;rw [Ac Jq,hg,Ct]
 by_cases h:Jc (Ae (Bc p t)) (Bj (Bc p t)) s>200
 ·rw [Ac h,Ac (by omega)];rfl
 ·rw [Ai h,Ai (by omega)];dsimp only;rw [LD,r1]
structure Part (n k:Nat) (s:Fw×Fw):Prop where
 l1:s.1.length=n
 l2:s.2.length=n
 pg:PG n k (s.1.getD k [])
 row:Xz n k (s.1.getD k []) (s.2.getD k [])
 comp:l4 n (n-(k+1)) (k+1) s
 gb:GBf (n-(k+1)) (k+1) s
 sub: ∀g,some g∈s.1.getD (k+1) []->Gn n (s.1.getD k []) g
def Hd (n k:Nat) (s:Fw×Fw) (q:List Int):Prop:= ∃t,(s.2.getD k []).getD (ap q k) none=some t/\Of s.2 (n-(k+1)) (k+1) (Am q (Cc t))=true
structure xG (n k:Nat) (s s':Fw×Fw):Prop where
 grow:bN k s s'
 same:s'.1.getD k []=s.1.getD k []
 part:Part n k s'
 Gd: ∀q,Pm n q->Fx k q->Hd n k s q->Hd n k s' q
 new: ∀y t,(s'.2.getD k []).getD y none=some t->(s.2.getD k []).getD y none=some t\/ ∀g,some g∈s.1.getD k []->Hd n k s' (Am t g)
theorem xG.refl {n k:Nat} {s:Fw×Fw} (h:Part n k s):xG n k s s:=⟨bN.refl _ _,rfl,h,λ_ _ _ h=>h,λ_ _ h=> .inl h⟩
theorem Part.tg {n k:Nat} {s:Fw×Fw} (h:Part n k s) (hk:k<n) {y:Nat} {t g:List Int} (ht:(s.2.getD k []).getD y none=some t) (hg:some g∈s.1.getD k []):Pm n (Am t g)/\Fx k (Am t g)/\ap (Am t g) k=ap g y:=by
 obtain ⟨t1,t2,t3,t4⟩:=h.row.rt _ _ ht;obtain ⟨g',e,g1,g2⟩:=h.pg _ hg;cases e;exact ⟨t1.comp g1,Fx.comp t1 g1 t2 g2 (by omega),by rw [Kf t1 g1 hk,t3]⟩
theorem xG.trans {n k:Nat} {a b c:Fw×Fw} (hk:k<n) (h:xG n k a b) (h':xG n k b c):xG n k a c:=by
 refine ⟨h.grow.trans h'.grow (Ap _),h'.same.trans h.same,h'.part,λq h1 h2 h3=>h'.Gd q h1 h2 (h.Gd q h1 h2 h3),λy t e=>?_⟩;rcases h'.new y t e with e1|e1
 ·rcases h.new y t e1 with e2|e2
  ·exact .inl e2
  ·refine .inr λg hg=>?_;obtain ⟨p1,p2,_⟩:=h.part.tg hk e1 (by rw [h.same];exact hg);exact h'.Gd _ p1 p2 (e2 g hg)
 ·exact .inr λg hg=>e1 g (by rw [h.same];exact hg)
theorem Part.v {n k:Nat} {s:Fw×Fw} (h:Part n k s):V n (n-(k+1)) (k+1) s:=⟨h.l1,h.l2,h.comp,h.gb⟩
noncomputable def Ns (p:PP) (t:List Int):List Int:=iI (Cv p) (λi=>decide ((Ae p).getD i []∈Ae (Bc p t))) (Ae p).length
noncomputable abbrev rG:Spec:=Ho (.pair Gi (.pair Qn (.pair Qn .unit))) tL false true (λx=> ∃t,Ks x.1 t=true/\x.2.1=Bq x.1.2.2.1 (upto x.1.1.toNat)/\x.2.2.1=Bq (Bc x.1 t).2.2.1 (upto x.1.1.toNat))
 (λx=>iI (Cv x.1) (λi=>decide ((Ae x.1).getD i []∈x.2.2.1.1)) (Ae x.1).length)
noncomputable def Nc (p:PP) (d:List Int) (x:List Int):Int:=d.getD ((Ae p).idxOf x) 0
noncomputable def dZ (p:PP) (d s:List Int):List Int:=(cG p.2.2.1 (Nc p d) (Aq p.2.2.1.length) (Nc p d s).toNat s []).1
def Ao8 (p:PP) (d:List Int):Prop:=d.length=(Ae p).length/\(∀i,i<d.length->d.getD i 0<=3000)/\ ∃S,Kp p.2.2.1 (Aq p.2.2.1.length) (Ae p) S (λx=>d.getD ((Ae p).idxOf x) 0)
abbrev CV:Type:=Int×Int×ByteArray×List (List Int)×List (List Int)×List Int×List Int×Bool×List Int×List Int×PUnit
abbrev Ad4:Type:=Int×Int×ByteArray×List (List Int)×List (List Int)×List Int×List Int×Bool×List (List Int)×List Int×List Int×Bool×List Int×List Int×PUnit
theorem Arv (p:Int×ByteArray×List (List Int)×Unit) (f g:List (List Int)×List Int×List Int×Bool×Unit) (P:List Int->Prop):(((0:Int)<=(↑f.1.length:Int)/\(↑f.1.length:Int)<(↑Db:Int)+(1:Int))/\(↑f.1.length:Int)=(↑f.1.length:Int)/\0=0/\(List.replicate (↑f.1.length:Int).toNat (Int.ofNat (nat_lit 0))).length=(List.replicate (↑f.1.length:Int).toNat (Int.ofNat (nat_lit 0))).length/\0=0/\0=([]:List Int).length/\Dh (λ(v4:Ad4) (k5:Ad4->Prop)=>Br (decide (v4.1<(↑v4.2.2.2.2.2.2.2.2.2.2.2.2.1.length:Int))) (((0:Int)<=v4.1/\v4.1<(↑v4.2.2.2.2.2.2.2.2.2.2.2.2.1.length:Int))/\0+v4.1.toNat<v4.2.2.2.2.2.2.2.2.2.2.2.2.1.length/\ ∃(y6:List Int),idx v4.2.2.2.2.1 v4.1=some y6/\ ∃(y7:Int),Ge.fn ((v4.2.2.2.2.2.2.2.2.1,v4.2.2.2.2.2.2.2.2.2.1,v4.2.2.2.2.2.2.2.2.2.2.1,v4.2.2.2.2.2.2.2.2.2.2.2.1,()),y6,())=some y7/\Br (decide (y7>=(0:Int))) (((0:Int)<=v4.1/\v4.1<(↑v4.2.2.2.2.2.2.2.2.2.2.2.2.1.length:Int))/\0+v4.1.toNat<(v4.2.2.2.2.2.2.2.2.2.2.2.2.1.set (0+v4.1.toNat) (-1:Int)).length/\0=0/\v4.2.2.2.2.2.2.2.2.2.2.2.2.2.1.length=v4.2.2.2.2.2.2.2.2.2.2.2.2.2.1.length/\v4.2.2.2.2.2.2.2.2.2.2.2.2.2.1.length+(List.take 1 (List.drop 0 [v4.1])).length<=Db/\0=0/\v4.2.2.2.2.2.2.2.2.2.2.2.2.1.length=((v4.2.2.2.2.2.2.2.2.2.2.2.2.1.set (0+v4.1.toNat) (-1:Int)).set (0+v4.1.toNat) (0:Int)).length/\0=0/\(v4.2.2.2.2.2.2.2.2.2.2.2.2.2.1++List.take 1 (List.drop 0 [v4.1])).length=(v4.2.2.2.2.2.2.2.2.2.2.2.2.2.1++List.take 1 (List.drop 0 [v4.1])).length/\k5 (IntKind.i64.wrap (v4.1+(1:Int)),v4.2.1,v4.2.2.1,v4.2.2.2.1,v4.2.2.2.2.1,v4.2.2.2.2.2.1,v4.2.2.2.2.2.2.1,v4.2.2.2.2.2.2.2.1,v4.2.2.2.2.2.2.2.2.1,v4.2.2.2.2.2.2.2.2.2.1,v4.2.2.2.2.2.2.2.2.2.2.1,v4.2.2.2.2.2.2.2.2.2.2.2.1,(v4.2.2.2.2.2.2.2.2.2.2.2.2.1.set (0+v4.1.toNat) (-1:Int)).set (0+v4.1.toNat) (0:Int),v4.2.2.2.2.2.2.2.2.2.2.2.2.2.1++List.take 1 (List.drop 0 [v4.1]),())) (0=0/\v4.2.2.2.2.2.2.2.2.2.2.2.2.1.length=(v4.2.2.2.2.2.2.2.2.2.2.2.2.1.set (0+v4.1.toNat) (-1:Int)).length/\0=0/\v4.2.2.2.2.2.2.2.2.2.2.2.2.2.1.length=v4.2.2.2.2.2.2.2.2.2.2.2.2.2.1.length/\k5 (IntKind.i64.wrap (v4.1+(1:Int)),v4.2.1,v4.2.2.1,v4.2.2.2.1,v4.2.2.2.2.1,v4.2.2.2.2.2.1,v4.2.2.2.2.2.2.1,v4.2.2.2.2.2.2.2.1,v4.2.2.2.2.2.2.2.2.1,v4.2.2.2.2.2.2.2.2.2.1,v4.2.2.2.2.2.2.2.2.2.2.1,v4.2.2.2.2.2.2.2.2.2.2.2.1,v4.2.2.2.2.2.2.2.2.2.2.2.2.1.set (0+v4.1.toNat) (-1:Int),v4.2.2.2.2.2.2.2.2.2.2.2.2.2.1,()))) (∃(y6:List Int),Hb.fn ((v4.2.1,v4.2.2.1,v4.2.2.2.1,()),())=some y6/\0=0/\v4.2.2.2.2.2.2.2.2.2.2.2.2.1.length=v4.2.2.2.2.2.2.2.2.2.2.2.2.1.length/\0=0/\v4.2.2.2.2.2.2.2.2.2.2.2.2.2.1.length=v4.2.2.2.2.2.2.2.2.2.2.2.2.2.1.length/\Dh (λ(v7:CV) (k8:CV->Prop)=>Br (decide (v7.1<(↑v7.2.2.2.2.2.2.2.2.2.1.length:Int))) (0=0/\v7.2.2.2.2.2.2.2.2.1.length=v7.2.2.2.2.2.2.2.2.1.length/\0=0/\v7.2.2.2.2.2.2.2.2.2.1.length=v7.2.2.2.2.2.2.2.2.2.1.length/\Dh (λ(v9:CV) (k10:CV->Prop)=>Br (decide (v9.1<(↑y6.length:Int))) (((0:Int)<=v7.1/\v7.1<(↑v9.2.2.2.2.2.2.2.2.2.1.length:Int))/\ ∃(Np:Int),v9.2.2.2.2.2.2.2.2.2.1[0+v7.1.toNat]?=some Np/\ ∃(gU:List Int),idx v9.2.2.2.2.1 Np=some gU/\ ∃(Wq:Int),idx y6 v9.1=some Wq/\ ∃(Ry:List Int),Qu.fn ((v9.2.1,v9.2.2.1,v9.2.2.2.1,()),gU,Wq,())=some Ry/\ ∃(Rv:Int),Ge.fn ((v9.2.2.2.2.1,v9.2.2.2.2.2.1,v9.2.2.2.2.2.2.1,v9.2.2.2.2.2.2.2.1,()),Ry,())=some Rv/\((0:Int)<=Rv/\Rv<(↑v9.2.2.2.2.2.2.2.2.1.length:Int))/\ ∃(Pc:Int),v9.2.2.2.2.2.2.2.2.1[0+Rv.toNat]?=some Pc/\Br (decide (Pc<(0:Int))) (((0:Int)<=v7.1/\v7.1<(↑v9.2.2.2.2.2.2.2.2.2.1.length:Int))/\ ∃(dK:Int),v9.2.2.2.2.2.2.2.2.2.1[0+v7.1.toNat]?=some dK/\((0:Int)<=dK/\dK<(↑v9.2.2.2.2.2.2.2.2.1.length:Int))/\ ∃(dL:Int),v9.2.2.2.2.2.2.2.2.1[0+dK.toNat]?=some dL/\((0:Int)<=Rv/\Rv<(↑v9.2.2.2.2.2.2.2.2.1.length:Int))/\0+Rv.toNat<v9.2.2.2.2.2.2.2.2.1.length/\0=0/\v9.2.2.2.2.2.2.2.2.2.1.length=v9.2.2.2.2.2.2.2.2.2.1.length/\v9.2.2.2.2.2.2.2.2.2.1.length+(List.take 1 (List.drop 0 [Rv])).length<=Db/\0=0/\v9.2.2.2.2.2.2.2.2.1.length=(v9.2.2.2.2.2.2.2.2.1.set (0+Rv.toNat) (IntKind.i64.wrap (dL+(1:Int)))).length/\0=0/\(v9.2.2.2.2.2.2.2.2.2.1++List.take 1 (List.drop 0 [Rv])).length=(v9.2.2.2.2.2.2.2.2.2.1++List.take 1 (List.drop 0 [Rv])).length/\k10 (IntKind.i64.wrap (v9.1+(1:Int)),v9.2.1,v9.2.2.1,v9.2.2.2.1,v9.2.2.2.2.1,v9.2.2.2.2.2.1,v9.2.2.2.2.2.2.1,v9.2.2.2.2.2.2.2.1,v9.2.2.2.2.2.2.2.2.1.set (0+Rv.toNat) (IntKind.i64.wrap (dL+(1:Int))),v9.2.2.2.2.2.2.2.2.2.1++List.take 1 (List.drop 0 [Rv]),())) (0=0/\v9.2.2.2.2.2.2.2.2.1.length=v9.2.2.2.2.2.2.2.2.1.length/\0=0/\v9.2.2.2.2.2.2.2.2.2.1.length=v9.2.2.2.2.2.2.2.2.2.1.length/\k10 (IntKind.i64.wrap (v9.1+(1:Int)),v9.2.1,v9.2.2.1,v9.2.2.2.1,v9.2.2.2.2.1,v9.2.2.2.2.2.1,v9.2.2.2.2.2.2.1,v9.2.2.2.2.2.2.2.1,v9.2.2.2.2.2.2.2.2.1,v9.2.2.2.2.2.2.2.2.2.1,()))) (0=0/\v9.2.2.2.2.2.2.2.2.1.length=v9.2.2.2.2.2.2.2.2.1.length/\0=0/\v9.2.2.2.2.2.2.2.2.2.1.length=v9.2.2.2.2.2.2.2.2.2.1.length/\k8 (IntKind.i64.wrap (v7.1+(1:Int)),v9.2.1,v9.2.2.1,v9.2.2.2.1,v9.2.2.2.2.1,v9.2.2.2.2.2.1,v9.2.2.2.2.2.2.1,v9.2.2.2.2.2.2.2.1,v9.2.2.2.2.2.2.2.2.1,v9.2.2.2.2.2.2.2.2.2.1,()))) ((0:Int),v7.2.1,v7.2.2.1,v7.2.2.2.1,v7.2.2.2.2.1,v7.2.2.2.2.2.1,v7.2.2.2.2.2.2.1,v7.2.2.2.2.2.2.2.1,v7.2.2.2.2.2.2.2.2.1,v7.2.2.2.2.2.2.2.2.2.1,PUnit.unit)) (P (List.take v7.2.2.2.2.2.2.2.2.1.length (List.drop 0 v7.2.2.2.2.2.2.2.2.1)))) ((0:Int),v4.2.1,v4.2.2.1,v4.2.2.2.1,v4.2.2.2.2.1,v4.2.2.2.2.2.1,v4.2.2.2.2.2.2.1,v4.2.2.2.2.2.2.2.1,v4.2.2.2.2.2.2.2.2.2.2.2.2.1,v4.2.2.2.2.2.2.2.2.2.2.2.2.2.1,PUnit.unit))) ((0:Int),p.1,p.2.1,p.2.2.1,f.1,f.2.1,f.2.2.1,f.2.2.2.1,g.1,g.2.1,g.2.2.1,g.2.2.2.1,List.replicate (↑f.1.length:Int).toNat (Int.ofNat (nat_lit 0)),[],PUnit.unit))=fnW Hf (look [(40,Ge),(44,Hb),(75,Qu)]) rG Try.f41 (p,f,g,()) P:=by kernel_rfl
theorem sIx {p:PP} (hv:Da p=true) {x:List Int} (hx:x.length=p.1.toNat):Ge.fn (((Bq p.2.2.1 (upto p.1.toNat)).1,(Bq p.2.2.1 (upto p.1.toNat)).2.1,(Bq p.2.2.1 (upto p.1.toNat)).2.2.1,(Bq p.2.2.1 (upto p.1.toNat)).2.2.2.1,()),x,())=some (Nr (Ae p) x):=
 Ac (by show Gp x.length (Ae p) (aC (Ae p));rw [hx];exact (cH hv).ok)
theorem Acg {p:PP} {x:List Int} (hx:x∈Ae p):Nr (Ae p) x=(((Ae p).idxOf x:Nat):Int):=Ac hx
theorem Ara (p:PP) (f g:SS) (h: ∃t,Ks p t=true/\f=Bq p.2.2.1 (upto p.1.toNat)/\g=Bq (Bc p t).2.2.1 (upto p.1.toNat)):
  fnW Hf (look [(40,Ge),(44,Hb),(75,Qu)]) rG Try.f41 (p,f,g,()) (λ(z:List Int)=>z=iI (Cv p) (λi=>decide ((Ae p).getD i []∈g.1)) (Ae p).length):=by
 obtain ⟨t,hw,rfl,rfl⟩:=h;obtain ⟨Pd,zO⟩:=Lq.1 hw;have hv:=(Dl Pd).1;have hV:=valid hv;have hn:=hV.n;have hvs:=nj zO;have YT:=Xn hv;have hR:=Tg Pd;have hc:=Mw Pd
 obtain ⟨m,hm⟩: ∃m,(Ae p).length=m:=⟨_,rfl⟩
 obtain ⟨S,hS⟩: ∃S:Nat->Bool,(λ(i:Nat)=>decide ((Ae p).getD i []∈Ae (Bc p t)))=S:=⟨_,rfl⟩
 have hSi: ∀i:Nat,decide ((Ae p).getD i []∈Ae (Bc p t))=S i:= λi=>congrFun hS i;show fnW _ _ rG _ _ (λz=>z=iI (Cv p) (λi=>decide ((Ae p).getD i []∈Ae (Bc p t))) (Ae p).length);rw [hS]
 obtain ⟨ls,bD⟩: ∃ls,Aq p.2.2.1.length=ls:=⟨_,rfl⟩
 have hlf:=Sn hV;rw [bD] at hlf hc;have jq: ∀l∈ls,Ie (List.length p.2.2.1) l:= λl hl=>Jw (bD▸hl);rw [hm] at YT hR⊢;have hL:(Bq p.2.2.1 (upto p.1.toNat)).1.length=m:=hm;refine Eq.mp (Arv p _ _ _) ?_;rw [hL,Ab];refine ⟨⟨by omega,by show (m:Int)<(4294967296:Int)+1;omega⟩,rfl,rfl,rfl,rfl,rfl,?_⟩
 refine Bt m (λv=>v.1) (λj v=> ∃out q:List Int,v=((j:Int),p.1,p.2.1,p.2.2.1,(Bq p.2.2.1 (upto p.1.toNat)).1,(Bq p.2.2.1 (upto p.1.toNat)).2.1,(Bq p.2.2.1 (upto p.1.toNat)).2.2.1,(Bq p.2.2.1 (upto p.1.toNat)).2.2.2.1,
   (Bq (Bc p t).2.2.1 (upto p.1.toNat)).1,(Bq (Bc p t).2.2.1 (upto p.1.toNat)).2.1,(Bq (Bc p t).2.2.1 (upto p.1.toNat)).2.2.1,(Bq (Bc p t).2.2.1 (upto p.1.toNat)).2.2.2.1,out,q,())/\
   q=YL S j/\out.length=m/\ ∀k,k<m->out.getD k 0=if k<j then (if S k=true then 0 else-1) else 0) rfl ⟨_,_,rfl,rfl,by simp,λk hk=>?_⟩ ?_
 ·rw [Ai (by omega),Bw (by simpa using hk),List.getElem_replicate];rfl
 rintro j v K hj hi ⟨out,q,rfl,rfl,h2,h3⟩ hK;dsimp only;have hql:=RM S j;rw [h2];refine Br.dec (λhl=>?_) λhl=>?_
 ·have hl:j<m:=by omega
  have hjm:j<(Ae p).length:=by omega
  have hx:=Oc (L:=Ae p) hjm;refine ⟨⟨by omega,by omega⟩,by rw [Ab];omega,(Ae p).getD j [],by rw [Bw hjm];exact Bu hjm,Nr (Ae (Bc p t)) ((Ae p).getD j []),sIx (p:=Bc p t) hvs (fo hv hx).1,?_⟩
  have hS1: ∀k,k<m->((out.set j (-1)).getD k 0=if k<j+1 then (if k<j/\S k=true then 0 else-1) else 0):=BV h2 hl h3 (by rw [Ac (by omega),Ai (by omega)]) λk hk=>by
   by_cases ua:k<j
   ·rw [Ac (by omega),Ac ua]
    by_cases hs:S k=true
    ·rw [Ac hs,Ac ⟨ua,hs⟩]
    ·rw [Ai hs,Ai λh=>hs h.2]
   ·rw [Ai (by omega),Ai ua]
  have mH:(Nr (Ae (Bc p t)) ((Ae p).getD j [])>=0)↔S j=true:=by
   rw [<-hSi j,Ji];unfold Nr;split
   ·rename_i Jq;exact ⟨λ_=>Jq,λ_=>by omega⟩
   ·rename_i Jq;exact ⟨λh=>absurd h (by omega),λh=>absurd h Jq⟩
  refine Br.dec (λhb=>?_) λhb=>?_
  ·have hs:=mH.1 hb;refine ⟨⟨by omega,by omega⟩,by rw [Ab,Bb];omega,rfl,rfl,by show (YL S j).length+1<=4294967296;omega,rfl,by rw [Bb,Bb,h2],rfl,rfl,?_⟩;rw [Bm (by omega),Ab,Bl];refine hK hl _ rfl ⟨_,_,rfl,?_,by rw [Bb,Bb];exact h2,?_⟩
   ·rw [nK,Ac hs];rfl
   ·refine BV (by rw [Bb];exact h2) hl hS1 (by rw [Ac (by omega),Ac hs]) λk hk=>?_
    by_cases ua:k<j
    ·rw [Ac (show k<j+1 by omega),Ac (show k<j+1 by omega)]
     by_cases hs:S k=true
     ·rw [Ac hs,Ac ⟨ua,hs⟩]
     ·rw [Ai hs,Ai λh=>hs h.2]
    ·rw [Ai (show ¬k<j+1 by omega),Ai (show ¬k<j+1 by omega)]
  ·have hs: ¬S j=true:= λh=>hb (mH.2 h);refine ⟨rfl,by rw [Bb,h2],rfl,rfl,?_⟩;rw [Bm (by omega),Ab,Bl];refine hK hl _ rfl ⟨_,_,rfl,?_,by rw [Bb];exact h2,λk hk=>?_⟩
   ·rw [nK,Ai hs]
   ·rw [hS1 k hk]
    by_cases ua:k<j+1
    ·rw [Ac ua,Ac ua]
     by_cases GC:k<j/\S k=true
     ·rw [Ac GC,Ac GC.2]
     ·rw [Ai GC,Ai λh=>GC ⟨by
       by_cases e:k=j
       ·subst e;exact absurd h hs
       ·omega,h⟩]
    ·rw [Ai ua,Ai ua]
 ·have:j=m:=by omega
  subst this
  have uf:out=MO S j:=yk (by rw [h2];simp [MO]) λk hk=>by
   rw [h3 k (by omega),Wt (by omega),Ac (by omega)]
  subst uf;refine ⟨ls,(Ac hV.eK.2).trans (Dz some bD),rfl,rfl,rfl,rfl,?_⟩
  refine Dh.mk (λv=> ∃(pre q out:List Int) (f:Nat),v=((pre.length:Int),p.1,p.2.1,p.2.2.1,(Bq p.2.2.1 (upto p.1.toNat)).1,(Bq p.2.2.1 (upto p.1.toNat)).2.1,(Bq p.2.2.1 (upto p.1.toNat)).2.2.1,(Bq p.2.2.1 (upto p.1.toNat)).2.2.2.1,out,pre++q,())/\
    DQ (Cv p) S j out q/\q.length+bo out<f/\s5 (Cv p) f out q=iI (Cv p) S j/\pre.length+(q.length+bo out)<=j/\ ∀i,i<j->out.getD i 0<=pre.length) (λv=>j-v.1.toNat)
   ⟨[],dq0 S j,MO S j,j+1,rfl,nJ _ _ _,by rw [yq];omega,rfl,by rw [yq];simp,λi hi=>by rw [Wt hi];simp only [Ex];split<;>omega⟩ ?_
  rintro v ⟨pre,q,out,f,rfl,g1,g2,g3,g4,g5⟩;dsimp only;have hol:=g1.base.len;refine Br.dec (λhl=>?_) λhl=>?_
  ·obtain ⟨x,q',rfl⟩: ∃x q',q=x::q':=by
    cases q with
    |nil=>simp at hl
    |cons x q'=>exact ⟨x,q',rfl⟩
   obtain ⟨x1,x2,x3⟩:=g1.base.inq x (by simp);obtain ⟨xn,rfl⟩:=Ba x1
   have DW:xn<j:=by omega
   have zR:xn<(Ae p).length:=by omega
   rw [Ab] at x3
   obtain ⟨f,rfl⟩: ∃f',f=f'+1:=⟨f-1,by omega⟩
   simp only [s5,Ab] at g3;simp only [Aw] at g2 g4;refine ⟨rfl,rfl,rfl,rfl,?_⟩;obtain ⟨o1,o2⟩:=aR.1 g1.base.ord;simp only [Ab] at o1
   have hX0:DX (Cv p) S j xn (out.getD xn 0) out q':=by
    refine ⟨⟨g1.base.len,g1.base.ge,λy hy=>g1.base.inq y (At _ hy),g1.base.src,g1.base.Acu,g1.base.par,λi hi h0 hn hw=>g1.base.done i hi h0 (λhm=>?_) (λh=>h),o2⟩,DW,rfl,x3,o1,?_⟩
    ·rcases Bd.1 hm with e|hm
     ·exact hw (by omega)
     ·exact hn hm
    ·have:=g1.hi (xn:Int) q' rfl
     rwa [Ab] at this
   have hnl:(Cv p xn).length=ls.length:=by rw [Sv,bD]
   obtain ⟨d,hd⟩: ∃d,out.getD xn 0=d:=⟨_,rfl⟩
   rw [hd] at hX0
   have hdT:d<=pre.length:=by rw [<-hd];exact g5 xn DW
   have hxs:=Oc (L:=Ae p) zR;have Aql:=fo hv hxs
   refine Bt ls.length (λv=>v.1) (λk v=> ∃(qq o:List Int),v=((k:Int),p.1,p.2.1,p.2.2.1,(Bq p.2.2.1 (upto p.1.toNat)).1,(Bq p.2.2.1 (upto p.1.toNat)).2.1,(Bq p.2.2.1 (upto p.1.toNat)).2.2.1,(Bq p.2.2.1 (upto p.1.toNat)).2.2.2.1,o,pre++(xn:Int)::qq,())/\
     DX (Cv p) S j xn d o qq/\qq.length+bo o=q'.length+bo out/\Xu (xn:Int) ((Cv p xn).drop k) (o,qq)=Xu (xn:Int) (Cv p xn) (out,q')) rfl ⟨q',out,rfl,hX0,rfl,by rw [Cw]⟩ ?_
   rintro k v K2 hk hki ⟨qq,o,rfl,hX,hcn,Jq⟩ DT;dsimp only;have hXb:=hX.base.len
   have hgx:(pre++(xn:Int)::qq)[0+((pre.length:Nat):Int).toNat]?=some (xn:Int):=by
    rw [Ab,Bl,As (Ap _),Nat.sub_self];rfl
   have js:((pre.length:Nat):Int)<((pre++(xn:Int)::qq).length:Int):=by rw [Av,Aw];omega
   refine Br.dec (λMl=>?_) λMl=>?_
   ·have Ml:k<ls.length:=by omega
    have hkN:k<(Cv p xn).length:=by omega
    have sF:=Ah Ml;have uc:=jq _ sF;have hy:=hc.next _ hxs _ sF
    have htv:(Cv p xn)[k]=Nr (Ae p) (Am ((Ae p).getD xn []) (Ax p.2.2.1 ls[k])):=by
     rw [Acg hy];simp only [Cv,oz,Ps,bD]
    have htm:=hR xn DW _ (Ah hkN);have Aiw:=Ah hkN;rw [Ft hkN] at Jq;rw [htv] at htm Jq Aiw;generalize Xv:Nr (Ae p) (Am ((Ae p).getD xn []) (Ax p.2.2.1 ls[k]))=ty at*;obtain ⟨tn,rfl⟩:=Ba htm.1
    have htj:tn<j:=by omega
    simp only [Xu] at Jq;rw [Ab] at Jq
    have hox:o.getD ((xn:Nat):Int).toNat 0=d:=by rw [Ab];exact hX.Sb
    refine ⟨⟨by omega,js⟩,(xn:Int),hgx,(Ae p).getD xn [],by rw [Bw zR];exact Bu zR,_,Bu Ml,_,Ac ⟨hv,Acf Aql,IS hV Aql,uc⟩,(tn:Int),(sIx hv (fo hv hy).1).trans (Dz some Xv),⟨by omega,by omega⟩,o.getD tn 0,UQ (by omega),Br.dec (λiD=>?_) λiD=>?_⟩
    ·rw [Ac iD,hox] at Jq;have Na:=zx hR hX Aiw htm (by rw [Ab];exact iD);rw [Ab] at Na;have hng:=uE (xs:=o) (i:=tn) (v:=d+1) (by omega) iD (by have:=hX.d0;omega);have hd0:=hX.d0;refine ⟨⟨by omega,js⟩,(xn:Int),hgx,⟨by omega,by omega⟩,d,by rw [UQ (by omega),<-hX.Sb],⟨by omega,by omega⟩,by rw [Ab];omega,rfl,rfl,?_,rfl,by rw [Bb],rfl,rfl,?_⟩
     ·show (pre++(xn:Int)::qq).length+1<=4294967296;rw [Av,Aw];omega
     ·rw [Bm (by omega),Ab,Bl,Co (n:=d+1) (by omega) (by omega)];refine DT Ml _ rfl ⟨qq++ [(tn:Int)],o.set tn (d+1),?_,Na,?_,Jq⟩
      ·rw [Bn];rfl
      ·rw [Av,Bp];omega
    ·rw [Ai iD] at Jq;refine ⟨rfl,rfl,rfl,rfl,?_⟩;rw [Bm (by omega)];exact DT Ml _ rfl ⟨qq,o,rfl,hX,hcn,Jq⟩
   ·have Ml:k=ls.length:=by omega
    subst Ml;rw [List.drop_of_length_le (by omega),Xu] at Jq;rw [<-Jq] at g3;have Aau:=(ML hR g1).1;rw [Ab,<-Jq] at Aau;rw [Bm (by omega)];refine ⟨rfl,rfl,rfl,rfl,⟨pre++ [(xn:Int)],qq,o,f,?_,Aau,by omega,g3,by rw [Av,Bp];omega,λi hi=>?_⟩,?_⟩
    ·rw [Av,Bn];rfl
    ·have:=hX.hi i hi;rw [Av,Bp]
     push_cast
     omega
    ·show j-(((pre.length+1:Nat):Int)).toNat<j-((pre.length:Nat):Int).toNat;omega
  ·have:q= []:=by
    cases q with
    |nil=>rfl
    |cons x q'=>exact absurd (show ((pre.length:Nat):Int)<((pre++x::q').length:Int) by rw [Av,Aw];omega) hl
   subst this;rw [Cl]
   cases f with
   |zero=>exact g3
   |succ f=>exact g3
theorem XC:Sound Try.prog 41 rG:=
 Sound.Ho Ez (Bf Qm (Bf Qw (Bf br Ce))) mixed Try.func41 (by kernel_rfl) (by kernel_rfl) λx h=>Ara x.1 x.2.1 x.2.2.1 h
theorem yX {p:PP} {t:List Int} (hw:Dc p=true) (hm:Dg p t=true):(Ae p).getD 0 []∈Ae (Bc p t):=by
 rw [(qO (Dl hw).1).1];exact (qO (nj hm)).2
theorem BH {p:PP} {t:List Int} (hw:Dc p=true) (hm:Dg p t=true):
  Ao8 p (Ns p t)/\Kp p.2.2.1 (Aq p.2.2.1.length) (Ae p) (λx=>x∈Ae (Bc p t)) (λx=>(Ns p t).getD ((Ae p).idxOf x) 0):=by
 have hv:=(Dl hw).1;have hR:=Tg hw;have YT:=Xn hv;have hlen:(Ns p t).length=(Ae p).length:=(Aho hR).len;have hd:=Af6 hw (λi=>decide ((Ae p).getD i []∈Ae (Bc p t))) (i0:=0) (by have:=Acw hv;omega) (Ci (yX hw hm));refine ⟨⟨hlen,λi hi=>?_,_,hd⟩,hd.congr λx hx=>?_⟩
 ·have:=Aob (S:= λi=>decide ((Ae p).getD i []∈Ae (Bc p t))) hR (i:=i) (by omega);show (iI (Cv p) (λi=>decide ((Ae p).getD i []∈Ae (Bc p t))) (Ae p).length).getD i 0<=3000;omega
 ·have h1:=Ga hx;rw [Bw h1,Ug h1,Ji]
abbrev Axf:Ty:= .clo (51+1000000000) (.pair (.optr dF) .unit)
def Ao6 (e:Option XP) (h:Option HP):Prop:= ∃p t,Ks p t=true/\h=some (Eo p t)/\e=some (Gr p)
noncomputable abbrev aA:Spec:=Ho (.pair (.optr kf) (.pair Axf .unit)) tL false true (λx=>Ao6 x.1 x.2.1.1) (λx=>HH x.1 λi=>mQ x.2.1.1 (i:Int))
abbrev qy:Type:=(Int×ByteArray×List (List Int)×PUnit)×List (List Int)×List Int×(ByteArray->Option Int)×List Int×List Int×List (List Int)×PUnit
theorem Adr (e:Option XP) (c:Option (Option XP×List Int×Option XP×Unit)×Unit) (P:List Int->Prop):(∃(y3:qy),e=some y3/\ ∃(y4:(List Int×PUnit)×PUnit),fh.fn (List.take 1 (List.drop 0 [(-1:Int)]),(↑y3.2.1.length:Int),())=some y4/\ ∃(y5:qy),e=some y5/\ ∃(y6:Int),Vf.fn (y5.2.1,())=some y6/\0=0/\y4.1.1.length=y4.1.1.length/\0=0/\(List.take 0 (List.drop 0 ([]:List Int))).length=(List.take 0 (List.drop 0 ([]:List Int))).length/\Dh (λ(v7:Int×List Int×List Int×PUnit) (k8:Int×List Int×List Int×PUnit->Prop)=>Br (decide (v7.1<y6)) (∃(y9:Bool),nf.fn (c.1,v7.1,())=some y9/\Br y9 (((0:Int)<=v7.1/\v7.1<(↑v7.2.2.1.length:Int))/\0+v7.1.toNat<v7.2.2.1.length/\0=0/\v7.2.1.length=v7.2.1.length/\v7.2.1.length+(List.take 1 (List.drop 0 [v7.1])).length<=Db/\0=0/\v7.2.2.1.length=(v7.2.2.1.set (0+v7.1.toNat) (0:Int)).length/\0=0/\(List.take (v7.2.1++List.take 1 (List.drop 0 [v7.1])).length (List.drop 0 (v7.2.1++List.take 1 (List.drop 0 [v7.1])))).length=(List.take (v7.2.1++List.take 1 (List.drop 0 [v7.1])).length (List.drop 0 (v7.2.1++List.take 1 (List.drop 0 [v7.1])))).length/\k8 (IntKind.i64.wrap (v7.1+(1:Int)),List.take (v7.2.1++List.take 1 (List.drop 0 [v7.1])).length (List.drop 0 (v7.2.1++List.take 1 (List.drop 0 [v7.1]))),v7.2.2.1.set (0+v7.1.toNat) (0:Int),())) (0=0/\v7.2.2.1.length=v7.2.2.1.length/\0=0/\(List.take v7.2.1.length (List.drop 0 v7.2.1)).length=(List.take v7.2.1.length (List.drop 0 v7.2.1)).length/\k8 (IntKind.i64.wrap (v7.1+(1:Int)),List.take v7.2.1.length (List.drop 0 v7.2.1),v7.2.2.1,()))) (0=0/\v7.2.2.1.length=v7.2.2.1.length/\0=0/\(List.take v7.2.1.length (List.drop 0 v7.2.1)).length=(List.take v7.2.1.length (List.drop 0 v7.2.1)).length/\Dh (λ(v9:List Int×List Int×PUnit) (k10:List Int×List Int×PUnit->Prop)=>Br (decide ((↑v9.1.length:Int)>(0:Int))) (∃(Np:qy),e=some Np/\((0:Int)<=(0:Int)/\(0:Int)<(↑v9.1.length:Int))/\ ∃(gU:Int),v9.1[0+Int.toNat (0:Int)]?=some gU/\ ∃(Wq:List Int),idx Np.2.2.2.2.2.2.1 gU=some Wq/\0=0/\v9.2.1.length=v9.2.1.length/\0=0/\(List.take v9.1.length (List.drop 0 v9.1)).length=(List.take v9.1.length (List.drop 0 v9.1)).length/\Dh (λ(Rl:Int×List Int×List Int×PUnit) (k15:Int×List Int×List Int×PUnit->Prop)=>Br (decide (Rl.1<(↑Wq.length:Int))) (∃(Pc:Int),idx Wq Rl.1=some Pc/\((0:Int)<=Pc/\Pc<(↑Rl.2.2.1.length:Int))/\ ∃(dK:Int),Rl.2.2.1[0+Pc.toNat]?=some dK/\Br (decide (dK<(0:Int))) (((0:Int)<=(0:Int)/\(0:Int)<(↑Rl.2.1.length:Int))/\ ∃(dL:Int),Rl.2.1[0+Int.toNat (0:Int)]?=some dL/\((0:Int)<=dL/\dL<(↑Rl.2.2.1.length:Int))/\ ∃(za:Int),Rl.2.2.1[0+dL.toNat]?=some za/\((0:Int)<=Pc/\Pc<(↑Rl.2.2.1.length:Int))/\0+Pc.toNat<Rl.2.2.1.length/\0=0/\Rl.2.1.length=Rl.2.1.length/\Rl.2.1.length+(List.take 1 (List.drop 0 [Pc])).length<=Db/\0=0/\Rl.2.2.1.length=(Rl.2.2.1.set (0+Pc.toNat) (IntKind.i64.wrap (za+(1:Int)))).length/\0=0/\(List.take (Rl.2.1++List.take 1 (List.drop 0 [Pc])).length (List.drop 0 (Rl.2.1++List.take 1 (List.drop 0 [Pc])))).length=(List.take (Rl.2.1++List.take 1 (List.drop 0 [Pc])).length (List.drop 0 (Rl.2.1++List.take 1 (List.drop 0 [Pc])))).length/\k15 (IntKind.i64.wrap (Rl.1+(1:Int)),List.take (Rl.2.1++List.take 1 (List.drop 0 [Pc])).length (List.drop 0 (Rl.2.1++List.take 1 (List.drop 0 [Pc]))),Rl.2.2.1.set (0+Pc.toNat) (IntKind.i64.wrap (za+(1:Int))),())) (0=0/\Rl.2.2.1.length=Rl.2.2.1.length/\0=0/\(List.take Rl.2.1.length (List.drop 0 Rl.2.1)).length=(List.take Rl.2.1.length (List.drop 0 Rl.2.1)).length/\k15 (IntKind.i64.wrap (Rl.1+(1:Int)),List.take Rl.2.1.length (List.drop 0 Rl.2.1),Rl.2.2.1,()))) (((0:Int)<=(1:Int)/\(1:Int)<=(↑Rl.2.1.length:Int)/\(↑Rl.2.1.length:Int)<=(↑Rl.2.1.length:Int))/\0=0/\Rl.2.2.1.length=Rl.2.2.1.length/\0=0/\(List.take ((↑Rl.2.1.length:Int).toNat-Int.toNat (1:Int)) (List.drop (0+Int.toNat (1:Int)) Rl.2.1)).length=(List.take ((↑Rl.2.1.length:Int).toNat-Int.toNat (1:Int)) (List.drop (0+Int.toNat (1:Int)) Rl.2.1)).length/\k10 (List.take ((↑Rl.2.1.length:Int).toNat-Int.toNat (1:Int)) (List.drop (0+Int.toNat (1:Int)) Rl.2.1),Rl.2.2.1,()))) ((0:Int),List.take v9.1.length (List.drop 0 v9.1),v9.2.1,PUnit.unit)) (P (List.take v9.2.1.length (List.drop 0 v9.2.1)))) (List.take v7.2.1.length (List.drop 0 v7.2.1),v7.2.2.1,PUnit.unit))) ((0:Int),List.take 0 (List.drop 0 []),y4.1.1,PUnit.unit))=fnW (Ad7 [Nf+6]) (look [(78,fh),(79,Vf),(51,nf)]) aA Try.f50 (e,c,()) P:=by kernel_rfl
theorem Ac2 (e:Option XP) (c:Option HP×Unit) (h:Ao6 e c.1):fnW (Ad7 [Nf+6]) (look [(78,fh),(79,Vf),(51,nf)]) aA Try.f50 (e,c,()) (λ(z:List Int)=>z=HH e λi=>mQ c.1 (i:Int)):=by
 obtain ⟨p,t,hw,FZ,rfl⟩:=h;obtain ⟨ch,⟨⟩⟩:=c;dsimp only at FZ;subst FZ
 have hx:nu (Gr p):=⟨(Lq.1 hw).1,rfl⟩
 obtain ⟨e',US⟩: ∃e':XP,Gr p=e':=⟨_,rfl⟩
 have hep:e'.1=p:=by rw [<-US];rfl
 rw [US] at hx⊢;have Sd:=Aoe hx;have hwv:=Dl hx.1;have YT:=Xn hwv.1;have hm1:=Acw hwv.1;have hR:=Tg hx.1;have hV:=valid hwv.1;have hlf:=Sn hV
 obtain ⟨m,hm⟩: ∃m,(Ae e'.1).length=m:=⟨_,rfl⟩
 obtain ⟨S,hS⟩: ∃S:Nat->Bool,(λ(i:Nat)=>mQ (some (Eo p t)) (i:Int))=S:=⟨_,rfl⟩
 have hSi: ∀i:Nat,mQ (some (Eo p t)) (i:Int)=S i:= λi=>congrFun hS i;show fnW _ _ aA _ _ (λz=>z=iI (Cv e'.1) (λi=>mQ (some (Eo p t)) (i:Int)) (Ae e'.1).length);rw [hS]
 have Ra: ∀i:Nat,i<m->nf.fn (some (Eo p t),(i:Int),())=some (S i):= λi hi=>by
  refine (Ac ⟨p,t,hw,rfl,by show (0:Int)<=i;omega,?_⟩).trans (Dz some (hSi i));show (i:Int)<(((Ae p).length:Nat):Int);rw [<-hep];omega
 rw [hm] at YT hm1 hR⊢;refine Eq.mp (Adr _ _ _) ⟨e',rfl,((List.replicate m (-1),()),()),?_,e',rfl,(m:Int),?_,rfl,rfl,rfl,rfl,?_⟩
 ·rw [Sd,hm];refine (Ac ⟨⟨-1,rfl⟩,by show (1:Int)<=m;omega,by show (m:Int)<=100000;omega⟩).trans ?_;show some ((List.replicate ((m:Int)).toNat (-1),()),())=_;rw [Ab]
 ·exact (Ac trivial).trans (Dz some (by show ((e'.2.1.length:Nat):Int)=m;rw [Sd,hm]))
 refine Bt m (λv=>v.1) (λj v=>v.2.1=YL S j/\v.2.2.1.length=m/\ ∀k,k<m->v.2.2.1.getD k 0=if k<j/\S k=true then 0 else-1) rfl ⟨rfl,by simp,λk hk=>?_⟩ ?_
 ·rw [Ai (by omega),Bw (by simpa using hk),List.getElem_replicate]
 rintro j ⟨i,q,out,⟨⟩⟩ K hj hi ⟨h1,h2,h3⟩ hK;dsimp only at hi h1 h2 h3⊢;subst hi h1;have hql:=RM S j
 refine Br.dec (λhl=>?_) λhl=>⟨rfl,rfl,rfl,rfl,?_⟩
 ·have hl:j<m:=by omega
  refine ⟨S j,Ra j hl,Br.of (λhs=>?_) λhs=>?_⟩
  ·refine ⟨⟨by omega,by omega⟩,by rw [Ab];omega,rfl,rfl,by show (YL S j).length+1<=4294967296;omega,rfl,by rw [Bb],rfl,rfl,?_⟩;rw [Cl,Bm (by omega),Ab,Bl];refine hK hl _ rfl ⟨?_,by rw [Bb];exact h2,?_⟩
   ·show YL S j++ [(j:Int)]=_;rw [nK,Ac hs]
   ·refine BV h2 hl h3 (by rw [Ac ⟨by omega,hs⟩]) λk hk=>?_
    by_cases hc:k<j/\S k=true
    ·rw [Ac hc,Ac ⟨by omega,hc.2⟩]
    ·rw [Ai hc,Ai λh=>hc ⟨by omega,h.2⟩]
  ·refine ⟨rfl,rfl,rfl,rfl,?_⟩;rw [Cl,Bm (by omega)];refine hK hl _ rfl ⟨?_,h2,λk hk=>?_⟩
   ·show YL S j=_;rw [nK,Ai (by rw [hs];decide)]
   ·rw [h3 k hk]
    by_cases hc:k<j/\S k=true
    ·rw [Ac hc,Ac ⟨by omega,hc.2⟩]
    ·rw [Ai hc,Ai λh=>hc ⟨by
      by_cases e:k=j
      ·subst e;rw [hs] at h;exact absurd h.2 (by decide)
      ·omega,h.2⟩]
 ·have:j=m:=by omega
  subst this
  have uf:out=MO S j:=yk (by rw [h2];simp [MO]) λk hk=>by
   rw [h3 k (by omega),Wt (by omega)]
   by_cases hs:S k=true
   ·rw [Ac ⟨by omega,hs⟩,Ac hs]
   ·rw [Ai λh=>hs h.2,Ai hs]
  subst uf;rw [Cl];show Dh _ (dq0 S j,MO S j,PUnit.unit)
  refine Dh.mk (λv=> ∃(q out:List Int) (f T:Nat),v=(q,out,())/\DQ (Cv e'.1) S j out q/\q.length+bo out<f/\s5 (Cv e'.1) f out q=iI (Cv e'.1) S j/\T+(q.length+bo out)<=j/\ ∀i,i<j->out.getD i 0<=T) (λv=>v.1.length+bo v.2.1)
   ⟨dq0 S j,MO S j,j+1,0,rfl,nJ _ _ _,by rw [yq];omega,rfl,by rw [yq];omega,λi hi=>by rw [Wt hi];split<;>omega⟩ ?_
  rintro v ⟨q,out,f,T,rfl,g1,g2,g3,g4,g5⟩;dsimp only;have hol:=g1.base.len;refine Br.dec (λhl=>?_) λhl=>?_
  ·obtain ⟨x,q',rfl⟩: ∃x q',q=x::q':=by
    cases q with
    |nil=>simp at hl
    |cons x q'=>exact ⟨x,q',rfl⟩
   obtain ⟨x1,x2,x3⟩:=g1.base.inq x (by simp);obtain ⟨xn,rfl⟩:=Ba x1
   have DW:xn<j:=by omega
   rw [Ab] at x3
   obtain ⟨f,rfl⟩: ∃f',f=f'+1:=⟨f-1,by omega⟩
   simp only [s5,Ab] at g3;simp only [Aw] at g2 g4;refine ⟨e',rfl,⟨by omega,by omega⟩,(xn:Int),by simp,Cv e'.1 xn,Aa2 hx (by omega),rfl,rfl,rfl,rfl,?_⟩;rw [Cl];obtain ⟨o1,o2⟩:=aR.1 g1.base.ord;simp only [Ab] at o1
   have hX0:DX (Cv e'.1) S j xn (out.getD xn 0) out q':=by
    refine ⟨⟨g1.base.len,g1.base.ge,λy hy=>g1.base.inq y (At _ hy),g1.base.src,g1.base.Acu,g1.base.par,λi hi h0 hn hw=>g1.base.done i hi h0 (λhm=>?_) (λh=>h),o2⟩,DW,rfl,x3,o1,?_⟩
    ·rcases Bd.1 hm with e|hm
     ·exact hw (by omega)
     ·exact hn hm
    ·have:=g1.hi (xn:Int) q' rfl
     rwa [Ab] at this
   have hnl:(Cv e'.1 xn).length<=16:=by rw [Sv];exact hlf
   obtain ⟨d,hd⟩: ∃d,out.getD xn 0=d:=⟨_,rfl⟩
   rw [hd] at hX0
   have hdT:d<=T:=by rw [<-hd];exact g5 xn DW
   refine Bt (Cv e'.1 xn).length (λv=>v.1) (λk v=> ∃(qq o:List Int),v=((k:Int),(xn:Int)::qq,o,())/\DX (Cv e'.1) S j xn d o qq/\qq.length+bo o=q'.length+bo out/\
     Xu (xn:Int) ((Cv e'.1 xn).drop k) (o,qq)=Xu (xn:Int) (Cv e'.1 xn) (out,q')) rfl ⟨q',out,rfl,hX0,rfl,by rw [Cw]⟩ ?_
   rintro k v K2 hk hki ⟨qq,o,rfl,hX,hc,Jq⟩ DT;dsimp only;have hXb:=hX.base.len;refine Br.dec (λMl=>?_) λMl=>?_
   ·have Ml:k<(Cv e'.1 xn).length:=by omega
    have htm:=hR xn DW _ (Ah Ml);obtain ⟨tn,htn⟩:=Ba htm.1
    have htj:tn<j:=by omega
    rw [Ft Ml] at Jq;simp only [Xu] at Jq
    have hox:o.getD ((xn:Nat):Int).toNat 0=d:=by rw [Ab];exact hX.Sb
    refine ⟨_,Bu Ml,?_⟩;rw [htn] at Jq⊢;rw [Ab] at Jq;refine ⟨⟨by omega,by omega⟩,o.getD tn 0,UQ (by omega),Br.dec (λiD=>?_) λiD=>?_⟩
    ·rw [Ac iD,hox] at Jq;have Na:=zx hR hX (Ah Ml) htm (by rw [htn,Ab];exact iD);rw [htn,Ab] at Na;have hng:=uE (xs:=o) (i:=tn) (v:=d+1) (by omega) iD (by have:=hX.d0;omega);have hd0:=hX.d0;refine ⟨⟨by omega,by simp only [Aw];omega⟩,(xn:Int),by simp,⟨by omega,by omega⟩,d,by rw [UQ (by omega),<-hX.Sb],⟨by omega,by omega⟩,by rw [Ab];omega,rfl,rfl,?_,rfl,by rw [Bb],rfl,rfl,?_⟩
     ·show qq.length+1+1<=4294967296;omega
     ·rw [Cl,Bm (by omega),Ab,Bl,Co (n:=d+1) (by omega) (by omega)];refine DT Ml _ rfl ⟨qq++ [(tn:Int)],o.set tn (d+1),rfl,Na,?_,Jq⟩;rw [Av,Bp];omega
    ·rw [Ai iD] at Jq;refine ⟨rfl,rfl,rfl,rfl,?_⟩;rw [Cl,Bm (by omega)];exact DT Ml _ rfl ⟨qq,o,rfl,hX,hc,Jq⟩
   ·have Ml:k=(Cv e'.1 xn).length:=by omega
    subst Ml;rw [Zr,Xu] at Jq;rw [<-Jq] at g3;have Aau:=(ML hR g1).1;rw [Ab,<-Jq] at Aau
    have ht:List.take ((((xn:Int)::qq).length:Int).toNat-Int.toNat (1:Int)) (List.drop (0+Int.toNat (1:Int)) ((xn:Int)::qq))=qq:=by
     rw [Ab,Aw];show List.take (qq.length+1-1) qq=qq;rw [Nat.add_sub_cancel,Az]
    rw [ht];refine ⟨⟨by omega,by simp only [Aw];omega,by omega⟩,rfl,rfl,rfl,rfl,⟨qq,o,f,T+1,rfl,Aau,by omega,g3,by omega,λi hi=>?_⟩,?_⟩
    ·have:=hX.hi i hi
     push_cast
     omega
    ·show qq.length+bo o<((xn:Int)::q').length+bo out;simp only [Aw];omega
  ·have:q= []:=by
    cases q with
    |nil=>rfl
    |cons x q'=>simp at hl
   subst this;rw [Cl]
   cases f with
   |zero=>exact g3
   |succ f=>exact g3
theorem CC:Sound Try.prog 50 aA:=
 Sound.Ho (Ad8 [Nf+6]) (Ic CI (Bf jX (Bf PZ Ce))) mixed Try.func50 (by kernel_rfl) (by kernel_rfl) λx h=>Ac2 x.1 x.2.1 h
theorem UI {p:PP} {t:List Int} (hw:Ks p t=true):aA.fn (some (Gr p),(some (Eo p t),()),())=some (Ns p t):=Ac ⟨p,t,hw,rfl,rfl⟩
theorem vK {g:List (List Int)} {dep:List Int->Int} {ls:List Int} : ∀(n:Nat) (x w:List Int),∃u,(cG g dep ls n x w).1=w++u/\(cG g dep ls n x w).2=So g x u
 |0,x,w=>⟨[],by simp [cG],rfl⟩
 |n+1,x,w=>by
  simp only [cG];split
  ·rename_i l _;obtain ⟨u,h1,h2⟩:=vK (g:=g) (dep:=dep) (ls:=ls) n (Am x (Ax g l)) (w++ [l]);exact ⟨l::u,by rw [h1,Bn];rfl,h2⟩
  ·exact vK n x w
def Yx (a b:List Int):List Int×List Int×Bool×Unit:=if a.length>200\/b.length>200 then ([],[],false,()) else (a,b,true,())
theorem Kp.sub {g:List (List Int)} {ls:List Int} {L:List (List Int)} {S S':List Int->Prop} {d d':List Int->Int} (hc:mf g ls L) (h:Kp g ls L S d) (h':Kp g ls L S' d') (hS: ∀x∈L,S' x->S x):
  ∀(n:Nat) (x:List Int),x∈L->d' x=n->d x<=n
 |0,x,hx,e=>by
  have:=(h.zero x hx).2 (hS x hx ((h'.zero x hx).1 e));omega
 |n+1,x,hx,e=>by
  obtain ⟨l,hl,hd⟩:=h'.down x hx (by omega);obtain ⟨b1,b2⟩:=hc.back x hx l hl;have h1:=Kp.sub hc h h' hS n _ (hc.next x hx l hl) (by omega);have h2:=h.step _ (hc.next x hx l hl) _ b1;rw [b2] at h2;omega
def hN (h:Int):Int:=IntKind.u64.wrap (IntKind.u64.wrap (h*(6364136223846793005:Int))+(1442695040888963407:Int))
def dI (b:List Int) (i:Int):Int:=if i<(b.length:Int) then i+1 else i
structure DOK (b:List Int) (i:Int):Prop where
 len:b.length<=4096
 byte: ∀y∈b,0<=y/\y<256
 lo:0<=i
 hi:i<=b.length
theorem DOK.Ef {b:List Int} {i:Int} (h:DOK b i) (hi:i<b.length):0<=Ef b i/\Ef b i<256:=by
 have h0:=h.lo
 have hl:i.toNat<b.length:=by omega
 refine h.byte _ ?_;unfold Go.Proofs.Ytfgfigkbgecfnaa.Ef;rw [Al,Ad hl];exact Ah hl
theorem DOK.next {b:List Int} {i:Int} (h:DOK b i):DOK b (dI b i):=by
 have h0:=h.lo;have h1:=h.hi;unfold dI;split
 ·exact ⟨h.len,h.byte,by omega,by omega⟩
 ·exact h
section
variable {Q:List Int->Prop} {code:List Int->Nat} {B:Nat}
end
structure Ajj (p:PP):Prop where
 valid:Da p=true
 two:p.2.2.1.length=2
 lo:3<=p.1
 hi:p.1<=5
 short:Fo p
structure Asc (n:Int) (o:List Int):Prop where
 asc:o.Pairwise (· < ·)
 row: ∀y∈o,0<=y/\y<n
theorem Asc.more {j:Int} {o:List Int} (h:Asc j o):Asc (j+1) o:=⟨h.asc,λy hy=>by have:=h.row y hy;omega⟩
theorem Asc.add {j:Int} {o:List Int} (h:Asc j o) (h0:0<=j):Asc (j+1) (o++ [j]):=by
 refine ⟨eu.2 ⟨h.asc,by simp,λa ha b hb=>?_⟩,λy hy=>?_⟩
 ·rw [Af.1 hb];exact (h.row a ha).2
 ·rcases Be.1 hy with h1|h1
  ·have:=h.row y h1;omega
  ·rw [Af.1 h1];omega
theorem Asc.le {j n:Int} {o:List Int} (h:Asc j o) (hj:j<=n):Asc n o:=⟨h.asc,λy hy=>by have:=h.row y hy;omega⟩
theorem VL {n:Nat} {l:Int} (h:Ie n l):l∈Aq n:=by
 obtain ⟨h0,h1,h2⟩:=h
 by_cases hp:0<l
 ·have:=(Wa (n:=n) (k:=(l-1).toNat) (by omega)).1
  rwa [show ((l-1).toNat:Int)+1=l by omega] at this
 ·have:=(Wa (n:=n) (k:=(-l-1).toNat) (by omega)).2
  rwa [show-(((-l-1).toNat:Int)+1)=l by omega] at this
structure sX (p:PP) (ts:List TT):Prop where
 set:uu p ts=true
 eK:ts.length<=2
 short:Agu ts
 valid: ∀t∈ts,uv p t=true
theorem sX.add {p:PP} (hp:Ajj p) {ts:List TT} (h:sX p ts) {t:TT} (ht:uv p t=true):uu p (ts++ [t])=true:=by
 have:=h.eK;refine Hc.2 ⟨Hc.2 ⟨hp.valid,Ci (by rw [Av,Bp];omega)⟩,Bk.2 λt' r6=>?_⟩;rcases Be.1 r6 with h4|h4
 ·exact h.valid t' h4
 ·rw [Af.1 h4];exact ht
section
variable {p:PP} {ts:List TT} {s:List Int}
end
theorem TM {g:List (List Int)} {ls:List Int} {L:List (List Int)} {S:List Int->Prop} {dep:List Int->Int} (hc:mf g ls L) (hd:Kp g ls L S dep): ∀(n:Nat) (x w:List Int),x∈L->dep x=n->
  (cG g dep ls n x w).1.length=w.length+n/\(cG g dep ls n x w).2∈L/\S (cG g dep ls n x w).2
 |0,x,w,hx,e=>⟨rfl,hx,(hd.zero x hx).1 e⟩
 |n+1,x,w,hx,e=>by
  obtain ⟨l,hl,h1⟩:=hd.down x hx (by omega);rw [cG];split
  ·rename_i l' hf;have h2:dep (Am x (Ax g l'))=n:=Cx (List.find?_some (p:= λl=>decide (dep (Am x (Ax g l))=n)) hf);have h3:=List.mem_of_find?_eq_some hf;obtain ⟨a,b⟩:=TM hc hd n _ (w++ [l']) (hc.next x hx l' h3) h2;rw [Av,Bp] at a;exact ⟨by omega,b⟩
  ·rename_i hf;have:=List.find?_eq_none.1 hf l hl;exact absurd (Ci (show dep (Am x (Ax g l))=n by omega)) this
section
variable {p:PP}
variable {t:List Int}
theorem AT (hw:Dc p=true) (hm:Dg p t=true) {s:List Int} (hs:s∈Ae p):0<=Nc p (Ns p t) s/\Nc p (Ns p t) s<=Jc (Ae p) (Bj p) s/\(Nc p (Ns p t) s=0↔s∈Ae (Bc p t)):=by
 obtain ⟨_,h2⟩:=BH hw hm
 exact ⟨h2.nn s hs,by
  have h3:=(bV hw).nn s hs;have h4:=Kp.sub (Mw hw) h2 (bV hw) (λx _ e=>by rw [e];exact yX hw hm) (Jc (Ae p) (Bj p) s).toNat s hs (by omega);show (Ns p t).getD ((Ae p).idxOf s) 0<=_
  omega,h2.zero s hs⟩
theorem Ag8 (hw:Dc p=true) (hm:Dg p t=true) {s:List Int} (hs:s∈Ae p):((dZ p (Ns p t) s).length:Int)=Nc p (Ns p t) s/\(∀l∈dZ p (Ns p t) s,l∈Aq p.2.2.1.length)/\
  So p.2.2.1 s (dZ p (Ns p t) s)∈Ae p/\So p.2.2.1 s (dZ p (Ns p t) s)∈Ae (Bc p t):=by
 obtain ⟨_,h2⟩:=BH hw hm;have h0:=h2.nn s hs;have h0:0<=Nc p (Ns p t) s:=h0;obtain ⟨a,b,c⟩:=TM (dep:=Nc p (Ns p t)) (Mw hw) h2 (Nc p (Ns p t) s).toNat s [] hs (by omega);obtain ⟨u,u1,u2⟩:=vK (g:=p.2.2.1) (dep:=Nc p (Ns p t)) (ls:=Aq p.2.2.1.length) (Nc p (Ns p t) s).toNat s []
 have e:So p.2.2.1 s (dZ p (Ns p t) s)=(cG p.2.2.1 (Nc p (Ns p t)) (Aq p.2.2.1.length) (Nc p (Ns p t) s).toNat s []).2:=by
  unfold dZ;rw [u1,Om];exact u2.symm
 refine ⟨?_,gK _ _ _ λl hl=>(by cases hl),by rw [e];exact b,by rw [e];exact c⟩;unfold dZ;rw [a];simp only [Ex];omega
end
abbrev tLE:Ty:= .slice vY
abbrev Axh:Ty:= .slice tLE
abbrev EN:Type:=Int×Int×Int×Unit
abbrev z0:EN:=(0,0,0,())
def cp (ls row:List Int) (n:Nat) (v:List EN×List Bool) (j:Nat):List EN×List Bool:=
 if v.2.getD (row.getD j 0).toNat false=true then v else (v.1++ [(row.getD j 0,(n:Int),ls.getD j 0,())],v.2.set (row.getD j 0).toNat true)
def Wb (ls row:List Int) (n:Nat) (k:Nat) (v:List EN×List Bool):List EN×List Bool:=(List.range k).foldl (cp ls row n) v
def mP (nx:Nat->List Int) (ls:List Int) (last:List EN) (k:Nat) (v:List EN×List Bool):List EN×List Bool:=
 (List.range k).foldl (λv n=>Wb ls (nx (last.getD n z0).1.toNat) n (nx (last.getD n z0).1.toNat).length v) v
def pQ (nx:Nat->List Int) (m:Nat) (ls:List Int) (last:List EN):List EN:=(mP nx ls last last.length ([],List.replicate m false)).1
noncomputable def TB (h:Option HP) (last:List EN):List EN:=match h with|some (some e,_,_,_)=>pQ (Cv e.1) (Ae e.1).length (Aq e.1.2.2.1.length) last|_=> []
def zb (m:Nat) (last:List EN):Prop:=last.length<=3000/\ ∀x∈last,0<=x.1/\x.1<m
noncomputable abbrev dA:Spec:=Ho (.pair (.optr dF) (.pair tLE .unit)) tLE false true (λx=> ∃p t,Ks p t=true/\x.1=some (Eo p t)/\zb (Ae p).length x.2.1) (λx=>TB x.1 x.2.1)
def zy (ls:List (List EN)) (k:Nat) (n:Int):EN:=(ls.getD k []).getD n.toNat z0
def lh (ls:List (List EN)):Nat->Int->List Int->List Int
 |0,_,out=>out
 |k+1,n,out=>lh ls k (zy ls (k+1) n).2.1 (out++ [(zy ls (k+1) n).2.2.1])
def LN (ls:List (List EN)):Nat->Int->Prop
 |0,_=>True
 |k+1,n=>0<=n/\n<((ls.getD (k+1) []).length:Int)/\LN ls k (zy ls (k+1) n).2.1
def ao (ls:List (List EN)) (n:Int):List Int:=(lh ls (ls.length-1) n []).reverse
noncomputable abbrev cE:MSpec:=cW [none,none] [(false, .Ia Axh),(false, .Ia tI)] false [none] [rL] (λx=>(1<=List.length x.1/\List.length x.1<=4000)/\LN x.1 (List.length x.1-1) x.2.1) (λx=>((ao x.1 x.2.1,()),()))
noncomputable def Hr (p:PP) (i:Int):Nat->List EN
 |0=> [(i,0,0,())]
 |k+1=>pQ (Cv p) (Ae p).length (Aq p.2.2.1.length) (Hr p i k)
noncomputable def Jp (p:PP) (i:Int) (k:Nat):List (List EN):=(List.range k).map (Hr p i)
noncomputable def fK (p:PP) (t:List Int) (sh Sb:Int) (lev:List EN) (v:Int×Int×Int) (n:Nat):Int×Int×Int:=
 if (sh<=Sb/\(Ae p).getD (lev.getD n z0).1.toNat []∈Ae (Bc p t))/\(v.1<0\/Sb+Jc (Ae (Bc p t)) (Bj (Bc p t)) ((Ae p).getD (lev.getD n z0).1.toNat [])<v.1)
 then (Sb+Jc (Ae (Bc p t)) (Bj (Bc p t)) ((Ae p).getD (lev.getD n z0).1.toNat []),Sb,(n:Int)) else v
noncomputable def ag (p:PP) (t:List Int) (sh Sb:Int) (lev:List EN) (k:Nat) (v:Int×Int×Int):Int×Int×Int:=(List.range k).foldl (fK p t sh Sb lev) v
noncomputable def tu (p:PP) (t:List Int) (i sh:Int) (k:Nat):Int×Int×Int:=(List.range k).foldl (λ(v:Int×Int×Int) (a:Nat)=>ag p t sh (a:Int) (Hr p i a) (Hr p i a).length v) (-1,0,0)
abbrev vR:Type:=Option ((Int×ByteArray×List (List Int)×PUnit)×List (List Int)×List Int×(ByteArray->Option Int)×List Int×List Int×List (List Int)×PUnit)×List Int×Option ((Int×ByteArray×List (List Int)×PUnit)×List (List Int)×List Int×(ByteArray->Option Int)×List Int×List Int×List (List Int)×PUnit)×PUnit
abbrev vV:Type:=(Int×ByteArray×List (List Int)×PUnit)×List (List Int)×List Int×(ByteArray->Option Int)×List Int×List Int×List (List Int)×PUnit
abbrev oZ:Type:=Int×List (Int×Int×Int×PUnit)×List Bool×PUnit
theorem Ah9 (h:Option (Option ((Int×ByteArray×List (List Int)×PUnit)×List (List Int)×List Int×(ByteArray->Option Int)×List Int×List Int×List (List Int)×PUnit)×List Int×Option ((Int×ByteArray×List (List Int)×PUnit)×List (List Int)×List Int×(ByteArray->Option Int)×List Int×List Int×List (List Int)×PUnit)×Unit)) (last:List (Int×Int×Int×Unit)) (P:List (Int×Int×Int×Unit)->Prop):(∃(y3:vR),h=some y3/\ ∃(y4:vV),y3.1=some y4/\((0:Int)<=(↑y4.2.1.length:Int)/\(↑y4.2.1.length:Int)<(↑Db:Int)+(1:Int))/\(↑y4.2.1.length:Int)=(↑y4.2.1.length:Int)/\ ∃(y5:vR),h=some y5/\ ∃(y6:vV),y5.1=some y6/\ ∃(y7:List Int),Ki.fn ((↑y6.1.2.2.1.length:Int),())=some y7/\0=0/\0=([]:List Int).length/\0=0/\(List.replicate (↑y4.2.1.length:Int).toNat false).length=(List.replicate (↑y4.2.1.length:Int).toNat false).length/\Dh (λ(v8:oZ) (k9:oZ->Prop)=>Br (decide (v8.1<(↑last.length:Int))) (∃(No:Int×Int×Int×PUnit),idx last v8.1=some No/\ ∃(Np:vR),h=some Np/\ ∃(gU:vV),Np.1=some gU/\ ∃(Wq:List Int),idx gU.2.2.2.2.2.2.1 No.1=some Wq/\0=0/\v8.2.1.length=v8.2.1.length/\0=0/\v8.2.2.1.length=v8.2.2.1.length/\Dh (λ(Rl:oZ) (k15:oZ->Prop)=>Br (decide (Rl.1<(↑Wq.length:Int))) (∃(Pc:Int),idx Wq Rl.1=some Pc/\((0:Int)<=Pc/\Pc<(↑Rl.2.2.1.length:Int))/\ ∃(dK:Bool),Rl.2.2.1[0+Pc.toNat]?=some dK/\Br (!dK) (((0:Int)<=Pc/\Pc<(↑Rl.2.2.1.length:Int))/\0+Pc.toNat<Rl.2.2.1.length/\ ∃(dL:Int),idx y7 Rl.1=some dL/\0=0/\Rl.2.1.length=Rl.2.1.length/\Rl.2.1.length+(List.take 1 (List.drop 0 [(Pc,v8.1,dL,())])).length<=Db/\0=0/\(Rl.2.1++List.take 1 (List.drop 0 [(Pc,v8.1,dL,())])).length=(Rl.2.1++List.take 1 (List.drop 0 [(Pc,v8.1,dL,())])).length/\0=0/\Rl.2.2.1.length=(Rl.2.2.1.set (0+Pc.toNat) true).length/\k15 (IntKind.i64.wrap (Rl.1+(1:Int)),Rl.2.1++List.take 1 (List.drop 0 [(Pc,v8.1,dL,())]),Rl.2.2.1.set (0+Pc.toNat) true,())) (0=0/\Rl.2.1.length=Rl.2.1.length/\0=0/\Rl.2.2.1.length=Rl.2.2.1.length/\k15 (IntKind.i64.wrap (Rl.1+(1:Int)),Rl.2.1,Rl.2.2.1,()))) (0=0/\Rl.2.1.length=Rl.2.1.length/\0=0/\Rl.2.2.1.length=Rl.2.2.1.length/\k9 (IntKind.i64.wrap (v8.1+(1:Int)),Rl.2.1,Rl.2.2.1,()))) ((0:Int),v8.2.1,v8.2.2.1,PUnit.unit)) (P (List.take v8.2.1.length (List.drop 0 v8.2.1)))) ((0:Int),[],List.replicate (↑y4.2.1.length:Int).toNat false,PUnit.unit))=fnW Hf (look [(26,Ki)]) dA Try.f53 (h,last,()) P:=by kernel_rfl
theorem Ae0 (ls:List (List (Int×Int×Int×Unit))) (n:Int) (P:((List Int×Unit)×Unit)->Prop):(0=0/\0=([]:List Int).length/\Dh (λ(v3:Int×Int×List Int×PUnit) (k4:Int×Int×List Int×PUnit->Prop)=>Br (decide (v3.2.1>(0:Int))) (∃(y5:List (Int×Int×Int×PUnit)),idx ls v3.2.1=some y5/\ ∃(y6:Int×Int×Int×PUnit),idx y5 v3.1=some y6/\0=0/\v3.2.2.1.length=v3.2.2.1.length/\v3.2.2.1.length+(List.take 1 (List.drop 0 [y6.2.2.1])).length<=Db/\ ∃(y7:List (Int×Int×Int×PUnit)),idx ls v3.2.1=some y7/\ ∃(y8:Int×Int×Int×PUnit),idx y7 v3.1=some y8/\0=0/\(v3.2.2.1++List.take 1 (List.drop 0 [y6.2.2.1])).length=(v3.2.2.1++List.take 1 (List.drop 0 [y6.2.2.1])).length/\k4 (y8.2.1,IntKind.i64.wrap (v3.2.1-(1:Int)),v3.2.2.1++List.take 1 (List.drop 0 [y6.2.2.1]),())) (∃(y5:PUnit×List Int×PUnit),Zj.fn ((v3.2.2.1,0,v3.2.2.1.length),())=some y5/\y5.2.1.length=v3.2.2.1.length/\P ((List.take v3.2.2.1.length (List.drop 0 y5.2.1),()),()))) (n,IntKind.i64.wrap ((↑ls.length:Int)-(1:Int)),[],PUnit.unit))=fnMW Rw (look [(82,Zj)]) cE Try.f55 (ls,n,()) P:=by kernel_rfl
structure RD (nx:Nat->List Int) (ls:List Int) (m:Nat) (last:List EN) (k:Nat) (v:List EN×List Bool):Prop where
 len:v.2.length=m
 nd:(v.1.map (·.1)).Nodup
 seen: ∀i,i<m->(v.2.getD i false=true↔(i:Int)∈v.1.map (·.1))
 ok: ∀e∈v.1,(0<=e.1/\e.1<m)/\ ∃n j:Nat,n<last.length/\j<ls.length/\e.2.1=n/\e.2.2.1=ls.getD j 0/\e.1=(nx (last.getD n z0).1.toNat).getD j 0
 all: ∀n,n<k-> ∀j,j<ls.length->(nx (last.getD n z0).1.toNat).getD j 0∈v.1.map (·.1)
theorem RD.eK {nx:Nat->List Int} {ls:List Int} {m:Nat} {last:List EN} {k:Nat} {v:List EN×List Bool} (h:RD nx ls m last k v):v.1.length<=m:=by
 have:=eZ (l2:=upto m) h.nd λx hx=>by
  obtain ⟨e,he,rfl⟩:=Bh.1 hx;have:=(h.ok e he).1;exact Nd.2 this
 rw [Ct,Uv] at this;exact this
theorem RD.step {nx:Nat->List Int} {ls:List Int} {m:Nat} {last:List EN} {k:Nat} {v:List EN×List Bool} (h:RD nx ls m last k v) {n j:Nat} (hn:n<last.length) (hj:j<ls.length)
  (hb:0<=(nx (last.getD n z0).1.toNat).getD j 0/\(nx (last.getD n z0).1.toNat).getD j 0<m):
  RD nx ls m last k (cp ls (nx (last.getD n z0).1.toNat) n v j)/\(nx (last.getD n z0).1.toNat).getD j 0∈(cp ls (nx (last.getD n z0).1.toNat) n v j).1.map (·.1)/\ ∀x∈v.1.map (·.1),x∈(cp ls (nx (last.getD n z0).1.toNat) n v j).1.map (·.1):=by
 obtain ⟨t,ht⟩: ∃t,(nx (last.getD n z0).1.toNat).getD j 0=t:=⟨_,rfl⟩
 unfold cp;rw [ht] at hb⊢;obtain ⟨i,rfl⟩:=Ba hb.1
 have hi:i<m:=by omega
 have hs:=h.seen i hi;rw [Ab]
 by_cases hc:v.2.getD i false=true
 ·rw [Ac hc];exact ⟨h,hs.1 hc,λx hx=>hx⟩
 ·rw [Ai hc];have hni:(i:Int)∉v.1.map (·.1):= λhm=>hc (hs.2 hm)
  have Aaq:(v.1++ [((i:Int),(n:Int),ls.getD j 0,())]).map (·.1)=v.1.map (·.1)++ [(i:Int)]:=by rw [Hj];rfl
  refine ⟨⟨by rw [Bb];exact h.len,?_,λx hx=>?_,λe he=>?_,λa ha b sD=>?_⟩,?_,λx hx=>?_⟩
  ·show ((v.1++ [((i:Int),(n:Int),ls.getD j 0,())]).map (·.1)).Nodup;rw [Aaq];refine Ee.2 ⟨h.nd,by simp,λa ha b hb e=>?_⟩;rw [Af.1 hb] at e;exact hni (e▸ha)
  ·show ((v.2.set i true).getD x false=true↔(x:Int)∈(v.1++ [((i:Int),(n:Int),ls.getD j 0,())]).map (·.1));rw [Aaq,Be,Af,Al,Fb];have hl:=h.len
   by_cases e:i=x
   ·subst e;rw [Ac rfl,Ac (by omega)];exact ⟨λ_=>Or.inr rfl,λ_=>rfl⟩
   ·rw [Ai e,<-Al,h.seen x hx];exact ⟨Or.inl,λh1=>h1.resolve_right λh2=>e (by omega)⟩
  ·have he:e∈v.1++ [((i:Int),(n:Int),ls.getD j 0,())]:=he;rcases Be.1 he with he|he
   ·exact h.ok e he
   ·rw [Af.1 he];exact ⟨hb,n,j,hn,hj,rfl,rfl,ht.symm⟩
  ·show _∈(v.1++ [((i:Int),(n:Int),ls.getD j 0,())]).map (·.1);rw [Aaq];exact Bo _ (h.all a ha b sD)
  ·show (i:Int)∈(v.1++ [((i:Int),(n:Int),ls.getD j 0,())]).map (·.1);rw [Aaq];exact Cm _ (Af.2 rfl)
  ·show x∈(v.1++ [((i:Int),(n:Int),ls.getD j 0,())]).map (·.1);rw [Aaq];exact Bo _ hx
theorem RD.row {nx:Nat->List Int} {ls:List Int} {m:Nat} {last:List EN} {k:Nat} {v:List EN×List Bool} (h:RD nx ls m last k v) {n:Nat} (hn:n<last.length)
  (hb: ∀j,j<ls.length->0<=(nx (last.getD n z0).1.toNat).getD j 0/\(nx (last.getD n z0).1.toNat).getD j 0<m): ∀(j:Nat),j<=ls.length->
  RD nx ls m last k (Wb ls (nx (last.getD n z0).1.toNat) n j v)/\(∀i,i<j->(nx (last.getD n z0).1.toNat).getD i 0∈(Wb ls (nx (last.getD n z0).1.toNat) n j v).1.map (·.1))/\ ∀x∈v.1.map (·.1),x∈(Wb ls (nx (last.getD n z0).1.toNat) n j v).1.map (·.1)
 |0,_=>⟨h,λi hi=>absurd hi (Ea _),λx hx=>hx⟩
 |j+1,hj=>by
  obtain ⟨a,b,c⟩:=RD.row h hn hb j (by omega)
  have e:Wb ls (nx (last.getD n z0).1.toNat) n (j+1) v=cp ls (nx (last.getD n z0).1.toNat) n (Wb ls (nx (last.getD n z0).1.toNat) n j v) j:=by
   unfold Wb;rw [Gc,Fz];rfl
  rw [e];obtain ⟨d,f,g⟩:=a.step hn (by omega) (hb j (by omega));refine ⟨d,λi hi=>?_,λx hx=>g x (c x hx)⟩
  by_cases ei:i=j
  ·rw [ei];exact f
  ·exact g _ (b i (by omega))
theorem SX {nx:Nat->List Int} {ls:List Int} {m:Nat} {last:List EN} (hr:RowsOK nx m) (hl: ∀i,i<m->(nx i).length=ls.length) (ho: ∀x∈last,0<=x.1/\x.1<m): ∀k,k<=last.length->RD nx ls m last k (mP nx ls last k ([],List.replicate m false))
 |0,_=>⟨Ei,Mc,λi hi=>by
   show (List.replicate m false).getD i false=true↔(i:Int)∈ [];rw [Bw (by simpa using hi),List.getElem_replicate]
   simp,λe he=>(by cases he),λn hn=>absurd hn (Ea _)⟩
 |k+1,hk=>by
  have ih:=SX hr hl ho k (by omega);have hx:=ho _ (Ah (show k<last.length by omega));have hg:last.getD k z0=last[k]'(by omega):=Bw (by omega)
  have zR:(last.getD k z0).1.toNat<m:=by rw [hg];omega
  have e:mP nx ls last (k+1) ([],List.replicate m false)=Wb ls (nx (last.getD k z0).1.toNat) k (nx (last.getD k z0).1.toNat).length (mP nx ls last k ([],List.replicate m false)):=by
   unfold mP;rw [Gc,Fz];rfl
  rw [e,hl _ zR]
  obtain ⟨a,b,c⟩:=ih.row (n:=k) (by omega) (λj hj=>by
   have u6:j<(nx (last.getD k z0).1.toNat).length:=by rw [hl _ zR];exact hj
   rw [Bw u6]
   exact hr _ zR _ (Ah u6)) ls.length (Ap _)
  refine ⟨a.len,a.nd,a.seen,a.ok,λn hn j hj=>?_⟩
  by_cases en:n=k
  ·rw [en];exact b j hj
  ·exact c _ (ih.all n (by omega) j hj)
theorem Agg (h:Option HP) (last:List EN) (hh: ∃p t,Ks p t=true/\h=some (Eo p t)/\zb (Ae p).length last):fnW Hf (look [(26,Ki)]) dA Try.f53 (h,last,()) (λ(z:List EN)=>z=TB h last):=by
 obtain ⟨p,t,hw,rfl,hl3,ho⟩:=hh;obtain ⟨Pd,zO⟩:=Lq.1 hw
 have hx:nu (Gr p):=⟨Pd,rfl⟩
 have Sd:(Gr p).2.1=Ae p:=(bh Pd).1;have hwv:=Dl Pd;have YT:=Xn hwv.1;have hV:=valid hwv.1;have hf:=hV.eK;have hR:=Tg Pd;have hL: ∀i,i<(Ae p).length->(Cv p i).length=(Aq p.2.2.1.length).length:= λi _=>Sv p i;have hgo:=SX hR hL ho;have uc:Ki.fn ((p.2.2.1.length:Int),())=some (Aq p.2.2.1.length):=(Ac ⟨by show (0:Int)<=(p.2.2.1.length:Nat);omega,by show ((p.2.2.1.length:Nat):Int)<=8;omega⟩).trans (Dz some (by show Aq ((p.2.2.1.length:Nat):Int).toNat=_;rw [Ab]));have LF:(Aq p.2.2.1.length).length=2*p.2.2.1.length:=Ov _;show fnW _ _ dA _ _ (λz=>z=pQ (Cv p) (Ae p).length (Aq p.2.2.1.length) last);refine Eq.mp (Ah9 _ _ _) ⟨Eo p t,rfl,Gr p,rfl,?_⟩;rw [Sd]
 refine ⟨⟨by omega,by show ((Ae p).length:Int)<(4294967296:Int)+1;omega⟩,rfl,Eo p t,rfl,Gr p,rfl,Aq p.2.2.1.length,uc,rfl,rfl,rfl,rfl,?_⟩;rw [Ab];refine Bt last.length (λv=>v.1) (λj v=>v.2=((mP (Cv p) (Aq p.2.2.1.length) last j ([],List.replicate (Ae p).length false)).1,(mP (Cv p) (Aq p.2.2.1.length) last j ([],List.replicate (Ae p).length false)).2,())) rfl rfl ?_;rintro j ⟨j',V⟩ K hj u5 hV2 hK;dsimp only at u5 hV2;subst hV2 u5;dsimp only;have hI:=hgo j hj;refine Br.dec (λhl=>?_) λhl=>?_
 ·have hl:j<last.length:=by omega
  have hxo:=ho _ (Ah hl);have hg:last.getD j z0=last[j]:=Bw hl
  have zR:(last[j]).1.toNat<(Ae p).length:=by omega
  have hnx:=Aa2 hx (i:=(last[j]).1.toNat) zR;rw [Int.toNat_of_nonneg hxo.1] at hnx;refine ⟨_,Bu hl,Eo p t,rfl,Gr p,rfl,_,hnx,rfl,rfl,rfl,rfl,?_⟩
  obtain ⟨row,Qd⟩: ∃row,Cv p (last.getD j z0).1.toNat=row:=⟨_,rfl⟩
  have Aq2:Cv (Gr p).1 (last[j]).1.toNat=row:=by rw [<-Qd,hg];rfl
  rw [Aq2]
  have GF:row.length=(Aq p.2.2.1.length).length:=by rw [<-Qd];exact Sv p _
  have hrb: ∀b,b<(Aq p.2.2.1.length).length->0<=row.getD b 0/\row.getD b 0<(Ae p).length:= λb hb=>by
   rw [Bw (show b<row.length by omega)];exact hR (last.getD j z0).1.toNat (by rw [hg];exact zR) _ (by rw [Qd];exact Ah (by omega))
  have Ajz:=hI.row (n:=j) hl (by rw [Qd];exact hrb);rw [Qd] at Ajz
  obtain ⟨V,hVe⟩: ∃V,mP (Cv p) (Aq p.2.2.1.length) last j ([],List.replicate (Ae p).length false)=V:=⟨_,rfl⟩
  have Qt:mP (Cv p) (Aq p.2.2.1.length) last (j+1) ([],List.replicate (Ae p).length false)=Wb (Aq p.2.2.1.length) row j row.length V:=by
   rw [<-hVe,<-Qd];unfold mP;rw [Gc,Fz];rfl
  rw [hVe] at Ajz⊢;refine Bt row.length (λv=>v.1) (λi v=>v.2=((Wb (Aq p.2.2.1.length) row j i V).1,(Wb (Aq p.2.2.1.length) row j i V).2,())) rfl rfl ?_;rintro i ⟨i',W⟩ K2 hi cO hW2 DT;dsimp only at cO hW2;subst hW2 cO;dsimp only;have hIi:=(Ajz i (by omega)).1;have wF:=hIi.eK;have Aqc:=hIi.len
  obtain ⟨X,hX⟩: ∃X,Wb (Aq p.2.2.1.length) row j i V=X:=⟨_,rfl⟩
  have Na:Wb (Aq p.2.2.1.length) row j (i+1) V=cp (Aq p.2.2.1.length) row j X i:=by
   rw [<-hX];unfold Wb;rw [Gc,Fz];rfl
  rw [hX] at wF Aqc⊢;refine Br.dec (λcU=>?_) λcU=>?_
  ·have cU:i<row.length:=by omega
   have hb:=hrb i (by omega);have hri:row.getD i 0=row[i]:=Bw cU;rw [hri] at hb
   have SM:(row[i]).toNat<X.2.length:=by omega
   refine ⟨_,Bu cU,⟨hb.1,by omega⟩,X.2[(row[i]).toNat],by rw [Bl];exact Ad SM,?_⟩;unfold cp at Na;rw [hri,Bw SM] at Na;refine Br.of (λhc=>?_) λhc=>?_
   ·rw [Ai (by simpa using hc),Bw (by omega)] at Na;refine ⟨⟨hb.1,by omega⟩,by rw [Bl];exact SM,_,Bu (show i<(Aq p.2.2.1.length).length by omega),rfl,rfl,by show X.1.length+1<=4294967296;omega,rfl,rfl,rfl,by rw [Bb],?_⟩;rw [Bm (by omega),Bl];exact DT cU _ rfl (by rw [Na];rfl)
   ·rw [Ac (by simpa using hc)] at Na;refine ⟨rfl,rfl,rfl,rfl,?_⟩;rw [Bm (by omega)];exact DT cU _ rfl (by rw [Na])
  ·have:i=row.length:=by omega
   subst this;refine ⟨rfl,rfl,rfl,rfl,?_⟩;rw [Bm (by omega)];exact hK hl _ rfl (by rw [Qt,hX])
 ·have:j=last.length:=by omega
  subst this;rw [Cl];rfl
theorem JI:Sound Try.prog 53 dA:=
 Sound.Ho Ez (Bf aa Ce) mixed Try.func53 (by kernel_rfl) (by kernel_rfl) λx h=>Agg x.1 x.2.1 h
theorem TI (xs:List Int):ow xs 0 xs.length=xs.reverse:=by
 refine List.ext_getElem? λk=>?_;rw [yo (by omega)]
 by_cases h:k<xs.length
 ·rw [Ac ⟨Iz _,by omega⟩,List.getElem?_reverse h]
  congr 1
  omega
 ·rw [Ai (by omega),Dv (by omega),Dv (by rw [List.length_reverse];omega)]
theorem Acb (ls:List (List EN)) (n:Int) (h:(1<=ls.length/\ls.length<=4000)/\LN ls (ls.length-1) n):fnMW Rw (look [(82,Zj)]) cE Try.f55 (ls,n,()) (λ(z:(List Int×Unit)×Unit)=>z=((ao ls n,()),())):=by
 obtain ⟨⟨h1,h2⟩,hw⟩:=h;refine Eq.mp (Ae0 ls n _) ⟨rfl,rfl,?_⟩
 refine Bt (ls.length-1) (λv=>((ls.length-1:Nat):Int)-v.2.1) (λj v=>lh ls (ls.length-1-j) v.1 v.2.2.1=lh ls (ls.length-1) n []/\LN ls (ls.length-1-j) v.1/\v.2.2.1.length=j) (by
  show ((ls.length-1:Nat):Int)-IntKind.i64.wrap ((ls.length:Int)-1)=0;rw [Co (by omega) (by omega)]
  omega) ⟨rfl,hw,rfl⟩ ?_
 rintro j ⟨m,k',out,⟨⟩⟩ K hj hk ⟨e1,e2,e3⟩ hK;dsimp only at hk e1 e2 e3
 obtain ⟨k,NB⟩: ∃k:Nat,ls.length-1-j=k:=⟨_,rfl⟩
 obtain rfl:k'=(k:Int):=by omega
 rw [NB] at e1 e2;dsimp only;refine Br.dec (λhl=>?_) λhl=>?_
 ·match k,NB,e1,e2,hl with
  |k+1,NB,e1,e2,hl=>
   obtain ⟨f1,f2,f3⟩:=e2;rw [lh] at e1
   have Ml:k+1<ls.length:=by omega
   have hgl:ls.getD (k+1) []=ls[k+1]:=Bw Ml;rw [hgl] at f2;obtain ⟨i,rfl⟩:=Ba f1
   have hi:i<(ls[k+1]).length:=by omega
   have hen:zy ls (k+1) (i:Int)=(ls[k+1])[i]:=by
    unfold zy;rw [hgl,Ab,Bw hi]
   rw [hen] at e1 f3;refine ⟨_,Bu Ml,_,Bu hi,rfl,rfl,by show out.length+1<=4294967296;omega,_,Bu Ml,_,Bu hi,rfl,rfl,?_⟩;refine hK (by omega) _ ?_ ⟨?_,?_,?_⟩
   ·show ((ls.length-1:Nat):Int)-IntKind.i64.wrap (((k+1:Nat):Int)-1)=_;rw [Co (by omega) (by omega)];omega
   ·show lh ls (ls.length-1-(j+1)) _ (out++ [_])=_;rw [show ls.length-1-(j+1)=k by omega];exact e1
   ·show LN ls (ls.length-1-(j+1)) _;rw [show ls.length-1-(j+1)=k by omega];exact f3
   ·show (out++ [_]).length=_;rw [Av,Bp,e3]
  |0,NB,e1,e2,hl=>exact absurd hl (by decide)
 ·have u7:k=0:=by
   have: ¬(k:Int)>0:=hl;omega
  subst u7;rw [lh] at e1;have hr:Zj.fn ((out,(0:Nat),out.length),())=some ((),(ow out 0 out.length,())):=Ac ⟨by show out.length<=4294967296;omega,by show 0+out.length<=out.length;omega⟩;refine ⟨_,hr,?_,?_⟩
  ·show (ow out 0 out.length).length=out.length;rw [TI,List.length_reverse]
  ·show ((List.take out.length (List.drop 0 (ow out 0 out.length)),()),())=((ao ls n,()),());unfold ao;rw [TI,<-e1,Cw,Jh (by rw [List.length_reverse];exact Ap _)]
theorem CJ:Ds Try.prog 55 cE:=
 Ds.cW Qo (Ic xl Ce) mixed Try.func55 (by kernel_rfl) (by kernel_rfl) λx h=>Acb x.1 x.2.1 h
section
variable {p:PP} {t:List Int}
theorem NY (Pd:Dc p=true) {last:List EN} (hl:zb (Ae p).length last):RD (Cv p) (Aq p.2.2.1.length) (Ae p).length last last.length (mP (Cv p) (Aq p.2.2.1.length) last last.length ([],List.replicate (Ae p).length false)):=
 SX (Tg Pd) (λi _=>Sv p i) hl.2 last.length (Ap _)
theorem kL (Pd:Dc p=true) {i:Int} (hi:0<=i/\i<(Ae p).length): ∀k,zb (Ae p).length (Hr p i k)
 |0=>⟨by show 1<=3000;decide,λx hx=>by
   rw [Af.1 (show x∈ [(i,(0:Int),(0:Int),())] from hx)]
   exact hi⟩
 |k+1=>by
  have h:=NY Pd (kL Pd hi k);have YT:=Xn (Dl Pd).1;exact ⟨Gz h.eK (by omega),λx hx=>(h.ok x hx).1⟩
theorem HG (Pd:Dc p=true) {s:List Int} (hs:s∈Ae p) (w:List Int) (hw: ∀l∈w,Ie (List.length p.2.2.1) l): ∀k,k<=w.length->
  ((((Ae p).idxOf (So p.2.2.1 s (w.take k)):Nat):Int)∈(Hr p (Ir p s).1 k).map (·.1))/\So p.2.2.1 s (w.take k)∈Ae p
 |0,_=>by
  have e:(Ir p s).1=(((Ae p).idxOf s:Nat):Int):=by unfold Ir;rw [Ac hs]
  refine ⟨?_,hs⟩;show (((Ae p).idxOf s:Nat):Int)∈ [(Ir p s).1];rw [e];exact Af.2 rfl
 |k+1,hk=>by
  obtain ⟨h1,h2⟩:=HG Pd hs w hw k (by omega);have hl:=hw _ (Ah (show k<w.length by omega));have sF:=VL hl;have e:=LR (g:=p.2.2.1) (s:=s) (w:=w) (j:=k) (by omega)
  obtain ⟨y,hy⟩: ∃y,So p.2.2.1 s (w.take k)=y:=⟨_,rfl⟩
  rw [hy] at h1 h2 e;rw [e];refine ⟨?_,(Mw Pd).next y h2 _ sF⟩;obtain ⟨i1,i2,_⟩:=GM hs;have hI:=NY Pd (kL Pd ⟨i1,i2⟩ k);obtain ⟨en,hen,e1⟩:=Bh.1 h1;obtain ⟨n,hn,Av2⟩:=Bg.1 hen;obtain ⟨j,hj,YS⟩:=Bg.1 sF;have h3:=hI.all n hn j hj;rw [Bw hn,Av2,e1,Ab] at h3;have LD:=Ga h2
  have h4:(Cv p ((Ae p).idxOf y)).getD j 0=(((Ae p).idxOf (Am y (Ax p.2.2.1 w[k])):Nat):Int):=by
   have h5:Cv p ((Ae p).idxOf y)=(Aq p.2.2.1.length).map λl=>(((Ae p).idxOf (Am y (Ax p.2.2.1 l)):Nat):Int):=by
    unfold Cv oz;rw [Bw LD,Ug LD]
   rw [h5,Bw (by rw [Ct];exact hj),Ps,YS]
  rw [h4] at h3;exact h3
noncomputable def kX (p:PP) (i:Int) (a n:Nat):List Int:=(Ae p).getD ((Hr p i a).getD n z0).1.toNat []
noncomputable def tB (p:PP) (t x:List Int):Int:=Jc (Ae (Bc p t)) (Bj (Bc p t)) x
structure BsI (p:PP) (t:List Int) (i sh:Int) (K N:Nat) (v:Int×Int×Int):Prop where
 got:v.1<0\/ ∃a n:Nat,v.2.1=a/\v.2.2=n/\a<=K/\(a<K\/n<N)/\n<(Hr p i a).length/\kX p i a n∈Ae (Bc p t)/\v.1=a+tB p t (kX p i a n)
 LW: ∀a n:Nat,(a<K\/a=K/\n<N)->n<(Hr p i a).length->sh<=a->kX p i a n∈Ae (Bc p t)->0<=v.1/\v.1<=a+tB p t (kX p i a n)
theorem BsI.step (cd:Dc (Bc p t)=true) {i sh:Int} {K N:Nat} {v:Int×Int×Int} (h:BsI p t i sh K N v) (hN:N<(Hr p i K).length):BsI p t i sh K (N+1) (fK p t sh (K:Int) (Hr p i K) v N):=by
 unfold fK
 by_cases hc:(sh<=(K:Int)/\(Ae p).getD ((Hr p i K).getD N z0).1.toNat []∈Ae (Bc p t))/\(v.1<0\/(K:Int)+Jc (Ae (Bc p t)) (Bj (Bc p t)) ((Ae p).getD ((Hr p i K).getD N z0).1.toNat [])<v.1)
 ·rw [Ac hc];obtain ⟨⟨c1,c2⟩,c3⟩:=hc;have hd:0<=tB p t (kX p i K N):=(bV cd).nn _ c2;refine ⟨Or.inr ⟨K,N,rfl,rfl,Ap _,Or.inr (Nat.lt_succ_self _),hN,c2,rfl⟩,λa n ha hn sG Jq=>?_⟩;show 0<=(K:Int)+tB p t (kX p i K N)/\(K:Int)+tB p t (kX p i K N)<=a+tB p t (kX p i a n);refine ⟨by omega,?_⟩
  by_cases e:a=K/\n=N
  ·rw [e.1,e.2];exact Ku _
  ·obtain ⟨b1,b2⟩:=h.LW a n (by omega) hn sG Jq;have c3:v.1<0\/(K:Int)+tB p t (kX p i K N)<v.1:=c3;omega
 ·rw [Ai hc];refine ⟨?_,λa n ha hn sG Jq=>?_⟩
  ·rcases h.got with g|⟨a,n,g1,g2,g3,g4,g5⟩
   ·exact Or.inl g
   ·exact Or.inr ⟨a,n,g1,g2,g3,by omega,g5⟩
  ·by_cases e:a=K/\n=N
   ·obtain ⟨rfl,rfl⟩:=e;have: ¬(v.1<0\/(a:Int)+tB p t (kX p i a n)<v.1):= λhh=>hc ⟨⟨sG,Jq⟩,hh⟩;omega
   ·exact h.LW a n (by omega) hn sG Jq
theorem BsI.row (cd:Dc (Bc p t)=true) {i sh:Int} {K:Nat} {v:Int×Int×Int} (h:BsI p t i sh K 0 v): ∀n,n<=(Hr p i K).length->BsI p t i sh K n (ag p t sh (K:Int) (Hr p i K) n v)
 |0,_=>h
 |n+1,hn=>by
  have e:ag p t sh (K:Int) (Hr p i K) (n+1) v=fK p t sh (K:Int) (Hr p i K) (ag p t sh (K:Int) (Hr p i K) n v) n:=by
   unfold ag;rw [Gc,Fz];rfl
  rw [e];exact (BsI.row cd h n (by omega)).step cd (by omega)
theorem py (p:PP) (t:List Int) (i sh:Int) (K:Nat):tu p t i sh (K+1)=ag p t sh (K:Int) (Hr p i K) (Hr p i K).length (tu p t i sh K):=by
 unfold tu;rw [Gc,Fz];rfl
theorem RJ (cd:Dc (Bc p t)=true) (i sh:Int): ∀K,BsI p t i sh K 0 (tu p t i sh K)
 |0=>⟨Or.inl (by show (-1:Int)<0;decide),λa n ha=>by omega⟩
 |K+1=>by
  have h:=(RJ cd i sh K).row cd (Hr p i K).length (Ap _);rw [py];refine ⟨?_,λa n ha hn sG Jq=>?_⟩
  ·rcases h.got with g|⟨a,n,g1,g2,g3,g4,g5⟩
   ·exact Or.inl g
   ·exact Or.inr ⟨a,n,g1,g2,by omega,Or.inl (by omega),g5⟩
  ·by_cases e:a=K
   ·subst e;exact h.LW a n (Or.inr ⟨rfl,hn⟩) hn sG Jq
   ·exact h.LW a n (Or.inl (by omega)) hn sG Jq
end
theorem eV (p:PP) (i:Int) {K a:Nat} (h:a<K):(Jp p i K).getD a []=Hr p i a:=by
 unfold Jp;rw [Bw (by rw [Ct,cS];exact h),Ps,List.getElem_range]
theorem cn (p:PP) (i:Int) (K:Nat):(Jp p i K).length=K:=by unfold Jp;rw [Ct,cS]
theorem HF (p:PP) (i:Int) {a K:Nat} (h:a<=K):(Jp p i K).take a=Jp p i a:=by
 unfold Jp;rw [<-List.map_take,List.take_range,Nat.min_eq_left h]
theorem Ajg {p:PP} (Pd:Dc p=true) {i:Int} (hi:0<=i/\i<(Ae p).length) {K:Nat} : ∀(a n:Nat),a<K->n<(Hr p i a).length->LN (Jp p i K) a (n:Int)
 |0,_,_,_=>trivial
 |a+1,n,ha,hn=>by
  have h:=NY Pd (kL Pd hi a);have lK:n<(Hr p i (a+1)).length:=hn;obtain ⟨_,n',j,h1,_,h3,_⟩:=h.ok _ (Ah lK);refine ⟨by omega,by rw [eV p i ha];omega,?_⟩
  have e:zy (Jp p i K) (a+1) (n:Int)=(Hr p i (a+1))[n]:=by
   unfold zy;rw [eV p i ha,Ab,Bw lK]
  rw [e];have h3:((Hr p i (a+1))[n]).2.1=(n':Int):=h3;rw [h3];exact Ajg Pd hi a n' (by omega) h1
section
variable (nx:Nat->List Int) (ls:List Int)
def stepT (last:List EN) (n j:Nat):Int:=(nx (last.getD n z0).1.toNat).getD j 0
def ZD (Q:Int->Bool) (last:List EN) (k j:Nat) (v:List EN):Prop:=
 ((∀e∈v,Q e.1=false)/\ ∀n i:Nat,(n<k\/n=k/\i<j)->i<ls.length->Q (stepT nx last n i)=false)\/
 ∃n0 j0 q0:Nat,(n0<k\/n0=k/\j0<j)/\j0<ls.length/\q0<v.length/\v.getD q0 z0=(stepT nx last n0 j0,(n0:Int),ls.getD j0 0,())/\Q (stepT nx last n0 j0)=true/\
  (∀q,q<q0->Q (v.getD q z0).1=false)/\ ∀n i:Nat,(n<n0\/n=n0/\i<j0)->i<ls.length->Q (stepT nx last n i)=false
variable {nx ls}
theorem tR {α:Type} {xs ys:List α} {i:Nat} {d:α} (h:i<xs.length):(xs++ys).getD i d=xs.getD i d:=by
 rw [Al,Au h,Al]
theorem UP {α:Type} {xs:List α} {y d:α} :(xs++ [y]).getD xs.length d=y:=by
 rw [Al,As (Ap _)];simp
theorem ZD.step {Q:Int->Bool} {m:Nat} {last:List EN} {kk:Nat} {v:List EN×List Bool} {n j:Nat} (hI:RD nx ls m last kk v) (h:ZD nx ls Q last n j v.1) (hj:j<ls.length)
  (hb:0<=stepT nx last n j/\stepT nx last n j<m):ZD nx ls Q last n (j+1) (cp ls (nx (last.getD n z0).1.toNat) n v j).1:=by
 obtain ⟨y,hy⟩: ∃y,stepT nx last n j=y:=⟨_,rfl⟩
 have hs:cp ls (nx (last.getD n z0).1.toNat) n v j=if v.2.getD y.toNat false=true then v else (v.1++ [(y,(n:Int),ls.getD j 0,())],v.2.set y.toNat true):=by
  rw [<-hy];rfl
 rw [hs];rw [hy] at hb;obtain ⟨i,rfl⟩:=Ba hb.1
 have hi:i<m:=by omega
 have Aq7:=hI.seen i hi;rw [Ab]
 have Aay: ∀n' i':Nat,(n'<n\/n'=n/\i'<j+1)->(n'<n\/n'=n/\i'<j)\/(n'=n/\i'=j):= λn' i' h=>by omega
 by_cases hc:v.2.getD i false=true
 ·rw [Ac hc];obtain ⟨e,he,e1⟩:=Bh.1 (Aq7.1 hc);rcases h with ⟨h1,h2⟩|⟨n0,j0,q0,h1,h2⟩
  ·refine Or.inl ⟨h1,λn' i' lK cO=>?_⟩;rcases Aay n' i' lK with h3|⟨rfl,rfl⟩
   ·exact h2 n' i' h3 cO
   ·rw [hy,<-e1];exact h1 e he
  ·exact Or.inr ⟨n0,j0,q0,by omega,h2⟩
 ·rw [Ai hc];show ZD nx ls Q last n (j+1) (v.1++ [((i:Int),(n:Int),ls.getD j 0,())]);rcases h with ⟨h1,h2⟩|⟨n0,j0,q0,h1,h2,h3,h4,h5,h6,h7⟩
  ·cases hq:Q (i:Int) with
   |false=>
    refine Or.inl ⟨λe he=>?_,λn' i' lK cO=>?_⟩
    ·rcases Be.1 he with he|he
     ·exact h1 e he
     ·rw [Af.1 he];exact hq
    ·rcases Aay n' i' lK with h3|⟨rfl,rfl⟩
     ·exact h2 n' i' h3 cO
     ·rw [hy];exact hq
   |true=>
    refine Or.inr ⟨n,j,v.1.length,Or.inr ⟨rfl,Nat.lt_succ_self _⟩,hj,by simp,by rw [UP,hy],by rw [hy];exact hq,λq hql=>?_,h2⟩;rw [tR hql,Bw hql];exact h1 _ (Ah hql)
  ·refine Or.inr ⟨n0,j0,q0,by omega,h2,by rw [Av];omega,by rw [tR h3];exact h4,h5,λq hq=>?_,h7⟩;rw [tR (by omega)];exact h6 q hq
variable {m:Nat} (hr:RowsOK nx m) (hl: ∀i,i<m->(nx i).length=ls.length)
include hr hl
theorem Acy {last:List EN} (ho: ∀x∈last,0<=x.1/\x.1<m) {n j:Nat} (hn:n<last.length) (hj:j<ls.length):0<=stepT nx last n j/\stepT nx last n j<m:=by
 have hx:=ho _ (Ah hn);have hg:last.getD n z0=last[n]:=Bw hn
 have zR:(last.getD n z0).1.toNat<m:=by rw [hg];omega
 have u6:j<(nx (last.getD n z0).1.toNat).length:=by rw [hl _ zR];exact hj
 unfold stepT;rw [Bw u6];exact hr _ zR _ (Ah u6)
theorem ZD.row {Q:Int->Bool} {last:List EN} (ho: ∀x∈last,0<=x.1/\x.1<m) {kk n:Nat} {v:List EN×List Bool} (hn:n<last.length) (hI:RD nx ls m last kk v) (h:ZD nx ls Q last n 0 v.1):
  ∀j,j<=ls.length->RD nx ls m last kk (Wb ls (nx (last.getD n z0).1.toNat) n j v)/\ZD nx ls Q last n j (Wb ls (nx (last.getD n z0).1.toNat) n j v).1
 |0,_=>⟨hI,h⟩
 |j+1,hj=>by
  obtain ⟨a,b⟩:=ZD.row ho hn hI h j (by omega)
  have e:Wb ls (nx (last.getD n z0).1.toNat) n (j+1) v=cp ls (nx (last.getD n z0).1.toNat) n (Wb ls (nx (last.getD n z0).1.toNat) n j v) j:=by
   unfold Wb;rw [Gc,Fz];rfl
  have hb:=Acy hr hl ho hn (show j<ls.length by omega);rw [e];exact ⟨(a.step hn (by omega) hb).1,b.step a (by omega) hb⟩
theorem Ahr {Q:Int->Bool} {last:List EN} (ho: ∀x∈last,0<=x.1/\x.1<m): ∀k,k<=last.length->ZD nx ls Q last k 0 (mP nx ls last k ([],List.replicate m false)).1
 |0,_=>Or.inl ⟨λe he=>(by cases he),λn i h=>by omega⟩
 |k+1,hk=>by
  have ih:=Ahr (Q:=Q) ho k (by omega);have hI:=SX hr hl ho k (by omega);have hx:=ho _ (Ah (show k<last.length by omega));have hg:last.getD k z0=last[k]'(by omega):=Bw (by omega)
  have zR:(last.getD k z0).1.toNat<m:=by rw [hg];omega
  have e:mP nx ls last (k+1) ([],List.replicate m false)=Wb ls (nx (last.getD k z0).1.toNat) k (nx (last.getD k z0).1.toNat).length (mP nx ls last k ([],List.replicate m false)):=by
   unfold mP;rw [Gc,Fz];rfl
  rw [e,hl _ zR];obtain ⟨_,h⟩:=ZD.row hr hl ho (show k<last.length by omega) hI ih ls.length (Ap _);rcases h with ⟨h1,h2⟩|⟨n0,j0,q0,h1,h2⟩
  ·refine Or.inl ⟨h1,λn i hn hi=>h2 n i ?_ hi⟩;omega
  ·exact Or.inr ⟨n0,j0,q0,by omega,h2⟩
end
section
variable (nx:Nat->List Int) (ls:List Int)
def R1 (Q:Int->Bool):Int->Bool:= λy=>(nx y.toNat).any Q
def VF:Nat->(Int->Bool)->(Int->Bool)
 |0,Q=>Q
 |l+1,Q=>VF l (R1 nx Q)
def gr (Q:Int->Bool):Nat->Int->List Int×Int
 |0,y=>([],y)
 |l+1,y=>(ls.getD ((nx y.toNat).findIdx (VF nx l Q)) 0::(gr Q l ((nx y.toNat).getD ((nx y.toNat).findIdx (VF nx l Q)) 0)).1,(gr Q l ((nx y.toNat).getD ((nx y.toNat).findIdx (VF nx l Q)) 0)).2)
variable {nx ls}
theorem zY: ∀(l:Nat) (Q:Int->Bool),VF nx (l+1) Q=R1 nx (VF nx l Q)
 |0,_=>rfl
 |l+1,Q=>zY l (R1 nx Q)
theorem RV (Q:Int->Bool): ∀(l:Nat) (y:Int),gr nx ls Q (l+1) y=((gr nx ls (R1 nx Q) l y).1++ [ls.getD ((nx (gr nx ls (R1 nx Q) l y).2.toNat).findIdx Q) 0],(nx (gr nx ls (R1 nx Q) l y).2.toNat).getD ((nx (gr nx ls (R1 nx Q) l y).2.toNat).findIdx Q) 0)
 |0,_=>rfl
 |l+1,y=>by
  have ih:=RV Q l ((nx y.toNat).getD ((nx y.toNat).findIdx (VF nx (l+1) Q)) 0);rw [gr,ih];rfl
theorem dR {α:Type} {p:α->Bool} : ∀ {xs:List α} {j:Nat} {d:α},j<xs.length->p (xs.getD j d)=true->(∀i,i<j->p (xs.getD i d)=false)->xs.findIdx p=j
 | [],_,_,h,_,_=>by simp at h
 |x::xs,0,d,_,h1,_=>by
  have h1:p x=true:=h1;rw [List.findIdx_cons,h1];rfl
 |x::xs,j+1,d,h,h1,h2=>by
  have h3:p x=false:=h2 0 (by omega);rw [List.findIdx_cons,h3];show xs.findIdx p+1=j+1;rw [dR (xs:=xs) (j:=j) (d:=d) (by simpa using h) (by simpa using h1) λi hi=>by simpa using h2 (i+1) (by omega)]
theorem nz {Q:Int->Bool} {xs:List Int} :xs.any Q=true↔ ∃j,j<xs.length/\Q (xs.getD j 0)=true:=by
 rw [Eu];refine ⟨λ⟨x,hx,h⟩=>?_,λ⟨j,hj,h⟩=>⟨_,Ah hj,by rw [Bw hj] at h;exact h⟩⟩;obtain ⟨j,hj,rfl⟩:=Bg.1 hx;exact ⟨j,hj,by rw [Bw hj];exact h⟩
end
section
variable (nx:Nat->List Int) (r0:Int->Int)
def mnS (a x:Int):Int:=if 0<=x/\(a<0\/x<a) then x else a
def LJ (xs:List Int) (a:Int):Int:=xs.foldl mnS a
def tl:Nat->Int->Int
 |0,y=>r0 y
 |l+1,y=>LJ ((nx y.toNat).map (tl l)) (-1)
def qv (v:Int):Int->Bool:= λy=>decide (r0 y=v)
def sp (ls:List Int):Nat->Int->List Int×Int
 |0,y=>([],y)
 |l+1,y=>(ls.getD ((nx y.toNat).findIdx λz=>decide (tl nx r0 l z=tl nx r0 (l+1) y)) 0::(sp ls l ((nx y.toNat).getD ((nx y.toNat).findIdx λz=>decide (tl nx r0 l z=tl nx r0 (l+1) y)) 0)).1,(sp ls l ((nx y.toNat).getD ((nx y.toNat).findIdx λz=>decide (tl nx r0 l z=tl nx r0 (l+1) y)) 0)).2)
variable {nx r0}
theorem AS: ∀(xs:List Int) (a:Int),(0<=a->0<=LJ xs a/\LJ xs a<=a)/\(∀x∈xs,0<=x->0<=LJ xs a/\LJ xs a<=x)/\(LJ xs a=a\/LJ xs a∈xs)
 | [],a=>⟨λh=>⟨h,Ku _⟩,λx hx=>(by cases hx),Or.inl rfl⟩
 |x::xs,a=>by
  have e:LJ (x::xs) a=LJ xs (mnS a x):=rfl;obtain ⟨h1,h2,h3⟩:=AS xs (mnS a x);rw [e];unfold mnS at h1 h2 h3⊢;split at h1
  ·rename_i hc;rw [Ac hc] at h2 h3⊢;obtain ⟨k1,k2⟩:=h1 hc.1;refine ⟨λha=>⟨k1,by omega⟩,λy hy h0=>?_,Or.inr ?_⟩
   ·rcases Bd.1 hy with rfl|hy
    ·exact ⟨k1,k2⟩
    ·exact h2 y hy h0
   ·rcases h3 with h3|h3
    ·rw [h3];exact Kv
    ·exact At _ h3
  ·rename_i hc;rw [Ai hc] at h2 h3⊢;refine ⟨h1,λy hy h0=>?_,?_⟩
   ·rcases Bd.1 hy with rfl|hy
    ·have ha:0<=a:=by omega
     obtain ⟨k1,k2⟩:=h1 ha;exact ⟨k1,by omega⟩
    ·exact h2 y hy h0
   ·rcases h3 with h3|h3
    ·exact Or.inl h3
    ·exact Or.inr (At _ h3)
theorem CZ {l:Nat} {y:Int} (h:0<=tl nx r0 (l+1) y): ∃z∈nx y.toNat,tl nx r0 l z=tl nx r0 (l+1) y:=by
 rcases (AS ((nx y.toNat).map (tl nx r0 l)) (-1)).2.2 with h1|h1
 ·have h1:tl nx r0 (l+1) y= -1:=h1;omega
 ·obtain ⟨z,hz,e⟩:=Bh.1 h1;exact ⟨z,hz,e⟩
theorem Ajd {l:Nat} {y z:Int} (hz:z∈nx y.toNat) (h:0<=tl nx r0 l z):0<=tl nx r0 (l+1) y/\tl nx r0 (l+1) y<=tl nx r0 l z:=
 (AS ((nx y.toNat).map (tl nx r0 l)) (-1)).2.1 _ (Bh.2 ⟨z,hz,rfl⟩) h
theorem QN {v:Int} (hv:0<=v): ∀(l:Nat) (y:Int),tl nx r0 l y=v->VF nx l (qv r0 v) y=true
 |0,y,h=>Ci h
 |l+1,y,h=>by
  rw [zY];obtain ⟨z,hz,e⟩:=CZ (nx:=nx) (r0:=r0) (l:=l) (y:=y) (by omega);exact Eu.2 ⟨z,hz,QN hv l z (e.trans h)⟩
theorem QX {v:Int} (hv:0<=v): ∀(l:Nat) (y:Int),VF nx l (qv r0 v) y=true->0<=tl nx r0 l y/\tl nx r0 l y<=v
 |0,y,h=>by
  have h:r0 y=v:=Cx h;show 0<=r0 y/\r0 y<=v;omega
 |l+1,y,h=>by
  rw [zY] at h;obtain ⟨z,hz,e⟩:=Eu.1 h;obtain ⟨h1,h2⟩:=QX hv l z e;obtain ⟨h3,h4⟩:=Ajd (nx:=nx) (r0:=r0) hz h1;exact ⟨h3,by omega⟩
theorem lB {α:Type} {p q:α->Bool} : ∀ {xs:List α},(∀x∈xs,p x=q x)->xs.findIdx p=xs.findIdx q
 | [],_=>rfl
 |x::xs,h=>by
  rw [List.findIdx_cons,List.findIdx_cons,h x (by simp),lB λy hy=>h y (At _ hy)]
theorem Aja {ls:List Int} {v:Int} (hv:0<=v): ∀(l:Nat) (y:Int),tl nx r0 l y=v->sp nx r0 ls l y=gr nx ls (qv r0 v) l y
 |0,_,_=>rfl
 |l+1,y,h=>by
  have e:((nx y.toNat).findIdx λz=>decide (tl nx r0 l z=tl nx r0 (l+1) y))=(nx y.toNat).findIdx (VF nx l (qv r0 v)):=lB λz hz=>by
   refine Bool.eq_iff_iff.2 ⟨λh1=>QN hv l z ((Cx h1).trans h),λh1=>Ci ?_⟩;obtain ⟨h2,h3⟩:=QX hv l z h1;have h4:=(Ajd (nx:=nx) (r0:=r0) hz h2).2;omega
  obtain ⟨z,hz,e2⟩:=CZ (nx:=nx) (r0:=r0) (l:=l) (y:=y) (by omega)
  have hj:(nx y.toNat).findIdx (VF nx l (qv r0 v))<(nx y.toNat).length:=by
   rw [<-e];exact List.findIdx_lt_length_of_exists ⟨z,hz,Ci e2⟩
  have h5:tl nx r0 l ((nx y.toNat).getD ((nx y.toNat).findIdx (VF nx l (qv r0 v))) 0)=v:=by
   rw [Bw hj];have h6:=List.findIdx_getElem (p:= λz=>decide (tl nx r0 l z=tl nx r0 (l+1) y)) (xs:=nx y.toNat) (w:=by rw [e];exact hj);have h7:=Cx h6;simp only [e] at h7;rw [h7,h]
  have ih:=Aja (ls:=ls) hv l _ h5;rw [sp,gr,e,ih]
end
noncomputable abbrev cD:MSpec:=cW [some 3,none,some 4,none] [(false, .Ia tI),(false, .Ia .str),(false, .Ia kh),(false, .Ia tL),(false, .Ia kh),(false, .Ia tL),(false, .Ia tL),(false, .Ia .bool),(false, .Ia tL)] false [none] [rL]
 (λx=>Fo (x.1,x.2.1,x.2.2.1,())/\Ks (x.1,x.2.1,x.2.2.1,()) x.2.2.2.1=true/\(x.2.2.2.2.1,x.2.2.2.2.2.1,x.2.2.2.2.2.2.1,x.2.2.2.2.2.2.2.1,())=Bq (Bc (x.1,x.2.1,x.2.2.1,()) x.2.2.2.1).2.2.1 (upto x.1.toNat)/\x.2.2.2.2.2.2.2.2.1∈Ae (Bc (x.1,x.2.1,x.2.2.1,()) x.2.2.2.1))
 (λx=>((Me (x.1,x.2.1,x.2.2.1,()) x.2.2.2.1 x.2.2.2.2.2.2.2.2.1,()),()))
noncomputable abbrev gE:MSpec:=cW [none,none] [(false,rL),(false,rL)] true [none,none,none] [rL,rL, .Ia .bool] (λx=>short x.1/\short x.2.1) (λx=>(((Yx x.1 x.2.1).1,(Yx x.1 x.2.1).2.1,(Yx x.1 x.2.1).2.2.1,()),()))
abbrev qz:Type:=(Int×ByteArray×List (List Int)×PUnit)×PUnit
theorem Adw (n:Int) (str:ByteArray) (g:List (List Int)) (t:List Int) (L:List (List Int)) (D La:List Int) (b:Bool) (s:List Int) (P:((List Int×Unit)×Unit)->Prop):(((∃(No:qz),Mp.fn (n,str,g,t,())=some No/\ ∃(Np:(List Int×PUnit)×PUnit),gD.fn (No.1.1,No.1.2.1,List.take No.1.2.2.1.length (List.drop 0 No.1.2.2.1),L,D,La,b,s,())=some Np/\0=0/\Np.1.1.length=Np.1.1.length/\Dh (λ(Ed:Int×List Int×PUnit) (GN:Int×List Int×PUnit->Prop)=>Br (decide (Ed.1<(↑Ed.2.1.length:Int))) (((0:Int)<=Ed.1/\Ed.1<(↑Ed.2.1.length:Int))/\ ∃(Ry:Int),Ed.2.1[0+Ed.1.toNat]?=some Ry/\Br (decide (Ry>(0:Int))) (((0:Int)<=Ed.1/\Ed.1<(↑Ed.2.1.length:Int))/\ ∃(Rv:Int),Ed.2.1[0+Ed.1.toNat]?=some Rv/\ ∃(Pc:Int),idx t (IntKind.i64.wrap (Rv-(1:Int)))=some Pc/\((0:Int)<=Ed.1/\Ed.1<(↑Ed.2.1.length:Int))/\0+Ed.1.toNat<Ed.2.1.length/\0=0/\Ed.2.1.length=(Ed.2.1.set (0+Ed.1.toNat) (IntKind.i64.wrap (Pc+(1:Int)))).length/\GN (IntKind.i64.wrap (Ed.1+(1:Int)),Ed.2.1.set (0+Ed.1.toNat) (IntKind.i64.wrap (Pc+(1:Int))),())) (((0:Int)<=Ed.1/\Ed.1<(↑Ed.2.1.length:Int))/\ ∃(Rv:Int),Ed.2.1[0+Ed.1.toNat]?=some Rv/\ ∃(Pc:Int),idx t (IntKind.i64.wrap (IntKind.i64.wrap ((0:Int)-Rv)-(1:Int)))=some Pc/\((0:Int)<=Ed.1/\Ed.1<(↑Ed.2.1.length:Int))/\0+Ed.1.toNat<Ed.2.1.length/\0=0/\Ed.2.1.length=(Ed.2.1.set (0+Ed.1.toNat) (IntKind.i64.wrap (IntKind.i64.wrap ((0:Int)-Pc)-(1:Int)))).length/\GN (IntKind.i64.wrap (Ed.1+(1:Int)),Ed.2.1.set (0+Ed.1.toNat) (IntKind.i64.wrap (IntKind.i64.wrap ((0:Int)-Pc)-(1:Int))),()))) (P ((List.take Ed.2.1.length (List.drop 0 Ed.2.1),()),()))) ((0:Int),Np.1.1,PUnit.unit))/\ ∃(No:qz),Mp.fn (n,str,g,t,())=some No/\ ∃(Np:(List Int×PUnit)×PUnit),gD.fn (No.1.1,No.1.2.1,List.take No.1.2.2.1.length (List.drop 0 No.1.2.2.1),L,D,La,b,s,())=some Np/\0=0/\Np.1.1.length=Np.1.1.length/\Dh (λ(Ed:Int×List Int×PUnit) (GN:Int×List Int×PUnit->Prop)=>Br (decide (Ed.1<(↑Ed.2.1.length:Int))) (((0:Int)<=Ed.1/\Ed.1<(↑Ed.2.1.length:Int))/\ ∃(Ry:Int),Ed.2.1[0+Ed.1.toNat]?=some Ry/\Br (decide (Ry>(0:Int))) (((0:Int)<=Ed.1/\Ed.1<(↑Ed.2.1.length:Int))/\ ∃(Rv:Int),Ed.2.1[0+Ed.1.toNat]?=some Rv/\ ∃(Pc:Int),idx t (IntKind.i64.wrap (Rv-(1:Int)))=some Pc/\((0:Int)<=Ed.1/\Ed.1<(↑Ed.2.1.length:Int))/\0+Ed.1.toNat<Ed.2.1.length/\0=0/\Ed.2.1.length=(Ed.2.1.set (0+Ed.1.toNat) (IntKind.i64.wrap (Pc+(1:Int)))).length/\GN (IntKind.i64.wrap (Ed.1+(1:Int)),Ed.2.1.set (0+Ed.1.toNat) (IntKind.i64.wrap (Pc+(1:Int))),())) (((0:Int)<=Ed.1/\Ed.1<(↑Ed.2.1.length:Int))/\ ∃(Rv:Int),Ed.2.1[0+Ed.1.toNat]?=some Rv/\ ∃(Pc:Int),idx t (IntKind.i64.wrap (IntKind.i64.wrap ((0:Int)-Rv)-(1:Int)))=some Pc/\((0:Int)<=Ed.1/\Ed.1<(↑Ed.2.1.length:Int))/\0+Ed.1.toNat<Ed.2.1.length/\0=0/\Ed.2.1.length=(Ed.2.1.set (0+Ed.1.toNat) (IntKind.i64.wrap (IntKind.i64.wrap ((0:Int)-Pc)-(1:Int)))).length/\GN (IntKind.i64.wrap (Ed.1+(1:Int)),Ed.2.1.set (0+Ed.1.toNat) (IntKind.i64.wrap (IntKind.i64.wrap ((0:Int)-Pc)-(1:Int))),()))) (P ((List.take Ed.2.1.length (List.drop 0 Ed.2.1),()),()))) ((0:Int),Np.1.1,PUnit.unit))/\ ∃(No:qz),Mp.fn (n,str,g,t,())=some No/\ ∃(Np:(List Int×PUnit)×PUnit),gD.fn (No.1.1,No.1.2.1,List.take No.1.2.2.1.length (List.drop 0 No.1.2.2.1),L,D,La,b,s,())=some Np/\0=0/\Np.1.1.length=Np.1.1.length/\Dh (λ(Ed:Int×List Int×PUnit) (GN:Int×List Int×PUnit->Prop)=>Br (decide (Ed.1<(↑Ed.2.1.length:Int))) (((0:Int)<=Ed.1/\Ed.1<(↑Ed.2.1.length:Int))/\ ∃(Ry:Int),Ed.2.1[0+Ed.1.toNat]?=some Ry/\Br (decide (Ry>(0:Int))) (((0:Int)<=Ed.1/\Ed.1<(↑Ed.2.1.length:Int))/\ ∃(Rv:Int),Ed.2.1[0+Ed.1.toNat]?=some Rv/\ ∃(Pc:Int),idx t (IntKind.i64.wrap (Rv-(1:Int)))=some Pc/\((0:Int)<=Ed.1/\Ed.1<(↑Ed.2.1.length:Int))/\0+Ed.1.toNat<Ed.2.1.length/\0=0/\Ed.2.1.length=(Ed.2.1.set (0+Ed.1.toNat) (IntKind.i64.wrap (Pc+(1:Int)))).length/\GN (IntKind.i64.wrap (Ed.1+(1:Int)),Ed.2.1.set (0+Ed.1.toNat) (IntKind.i64.wrap (Pc+(1:Int))),())) (((0:Int)<=Ed.1/\Ed.1<(↑Ed.2.1.length:Int))/\ ∃(Rv:Int),Ed.2.1[0+Ed.1.toNat]?=some Rv/\ ∃(Pc:Int),idx t (IntKind.i64.wrap (IntKind.i64.wrap ((0:Int)-Rv)-(1:Int)))=some Pc/\((0:Int)<=Ed.1/\Ed.1<(↑Ed.2.1.length:Int))/\0+Ed.1.toNat<Ed.2.1.length/\0=0/\Ed.2.1.length=(Ed.2.1.set (0+Ed.1.toNat) (IntKind.i64.wrap (IntKind.i64.wrap ((0:Int)-Pc)-(1:Int)))).length/\GN (IntKind.i64.wrap (Ed.1+(1:Int)),Ed.2.1.set (0+Ed.1.toNat) (IntKind.i64.wrap (IntKind.i64.wrap ((0:Int)-Pc)-(1:Int))),()))) (P ((List.take Ed.2.1.length (List.drop 0 Ed.2.1),()),()))) ((0:Int),Np.1.1,PUnit.unit))=fnMW Rw (look [(72,Mp),(76,gD)]) cD Try.f46 (n,str,g,t,L,D,La,b,s,()) P:=by kernel_rfl
theorem Ah5 (a b:List Int) (P:((List Int×List Int×Bool×Unit)×Unit)->Prop):(Br (decide ((↑a.length:Int)>(200:Int))) (P ((List.take 0 (List.drop 0 []),List.take 0 (List.drop 0 []),false,()),())) (Br (decide ((↑b.length:Int)>(200:Int))) (P ((List.take 0 (List.drop 0 []),List.take 0 (List.drop 0 []),false,()),())) (P ((List.take a.length (List.drop 0 a),List.take b.length (List.drop 0 b),true,()),()))))=fnMW Rw (look []) gE Try.f45 (a,b,()) P:=by kernel_rfl
theorem Ac7 (n:Int) (str:ByteArray) (g:List (List Int)) (t:List Int) (L:List (List Int)) (D La:List Int) (b:Bool) (s:List Int) (h:Fo (n,str,g,())/\Ks (n,str,g,()) t=true/\(L,D,La,b,())=Bq (Bc (n,str,g,()) t).2.2.1 (upto n.toNat)/\s∈Ae (Bc (n,str,g,()) t)):
  fnMW Rw (look [(72,Mp),(76,gD)]) cD Try.f46 (n,str,g,t,L,D,La,b,s,()) (λ(z:(List Int×Unit)×Unit)=>z=((Me (n,str,g,()) t s,()),())):=by
 obtain ⟨hp,hw,hf,hs⟩:=h;refine Eq.mp (Adw n str g t L D La b s _) (dup3 ?_)
 obtain ⟨p,wJ⟩: ∃p:PP,p=(n,str,g,()):=⟨_,rfl⟩
 rw [<-wJ] at hp hw hf hs⊢;obtain ⟨Pd,hm⟩:=Lq.1 hw;have cd:=Rj Pd hm;have Awl:=(cK hm).eK;have Awm:=(cK hm).g8;have eQ:=FF cd hs;have Kr: ∀l∈cr (Bc p t) s,Ie (List.length (Bc p t).2.2.1) l:= λl hl=>Jw (gK _ _ _ (λl hl=>by cases hl) l hl)
 have NG:(Bc p t).1=n:=by rw [wJ];rfl
 have hds:gD.fn ((Bc p t).1,(Bc p t).2.1,(Bc p t).2.2.1,L,D,La,b,s,())=some ((cr (Bc p t) s,()),()):=Ac ⟨cd,by rw [NG];exact hf,hs⟩
 have hsu:Mp.fn (n,str,g,t,())=some (((Bc p t).1,(Bc p t).2.1,(Bc p t).2.2.1,()),()):=by
  subst wJ;exact Ac ⟨hp,hm⟩
 refine ⟨_,hsu,((cr (Bc p t) s,()),()),?_,rfl,rfl,?_⟩
 ·dsimp only;rw [Cl];exact hds
 unfold Me;generalize cr (Bc p t) s=w at*;dsimp only;refine Bt w.length (λv=>v.1) (λj v=>v.2.1.length=w.length/\v.2.1.take j=(w.take j).map (aK t)/\v.2.1.drop j=w.drop j) rfl ⟨rfl,rfl,rfl⟩ ?_;rintro j ⟨jj,ys,⟨⟩⟩ K hj nt ⟨g1,g2,g3⟩ hK;dsimp only at nt g1 g2 g3⊢;subst nt;refine Br.dec (λhl=>?_) λhl=>?_
 ·have hl:j<w.length:=by omega
  obtain ⟨e1,e2,e3⟩:=p7 (f:=aK t) hl g1 g2 g3;obtain ⟨b1,b2⟩:=TP hm (Kr _ (Ah hl))
  have Ay:ys[0+((j:Nat):Int).toNat]?=some w[j]:=by rw [UQ (by omega),e3]
  refine ⟨⟨by omega,by omega⟩,w[j],Ay,Br.dec (λhp=>?_) λhp=>?_⟩
  ·obtain ⟨c1,c2,c3,c4⟩:=b1 hp;have SM:aK t w[j]=Ef t (w[j]-1)+1:=Ac hp;refine ⟨⟨by omega,by omega⟩,w[j],Ay,Ef t (w[j]-1),by rw [Co (n:=w[j]-1) (by omega) (by omega)];exact Uq c1 c2,⟨by omega,by omega⟩,by rw [Ab];omega,rfl,by rw [Bb],?_⟩;rw [Bm (by omega),Ab,Bl,Co (n:=Ef t (w[j]-1)+1) (by omega) (by omega),<-SM];exact hK hl _ rfl ⟨by rw [Bb];exact g1,e1,e2⟩
  ·obtain ⟨c1,c2,c3,c4⟩:=b2 hp;have SM:aK t w[j]= -(Ef t (-w[j]-1)+1):=Ai hp
   have e5:IntKind.i64.wrap (IntKind.i64.wrap (0-w[j])-1)= -w[j]-1:=by rw [Co (n:=0-w[j]) (by omega) (by omega),Co (by omega) (by omega)];omega
   have e6:IntKind.i64.wrap (IntKind.i64.wrap (0-Ef t (-w[j]-1))-1)=aK t w[j]:=by rw [Co (n:=0-Ef t (-w[j]-1)) (by omega) (by omega),Co (by omega) (by omega),SM];omega
   refine ⟨⟨by omega,by omega⟩,w[j],Ay,Ef t (-w[j]-1),by rw [e5];exact Uq c1 c2,⟨by omega,by omega⟩,by rw [Ab];omega,rfl,by rw [Bb],?_⟩;rw [Bm (by omega),Ab,Bl,e6];exact hK hl _ rfl ⟨by rw [Bb];exact g1,e1,e2⟩
 ·have:j=w.length:=by omega
  subst this;rw [Cl];rw [<-g1,Az,g1,Az] at g2;rw [g2]
theorem CH:Ds Try.prog 46 cD:=
 Ds.cW Qo (Ic sr (Ic PX Ce)) mixed Try.func46 (by kernel_rfl) (by kernel_rfl) λx h=>Ac7 x.1 x.2.1 x.2.2.1 x.2.2.2.1 x.2.2.2.2.1 x.2.2.2.2.2.1 x.2.2.2.2.2.2.1 x.2.2.2.2.2.2.2.1 x.2.2.2.2.2.2.2.2.1 h
theorem Agc (a b:List Int) (h:short a/\short b):fnMW Rw (look []) gE Try.f45 (a,b,()) (λ(z:(List Int×List Int×Bool×Unit)×Unit)=>z=(((Yx a b).1,(Yx a b).2.1,(Yx a b).2.2.1,()),())):=by
 refine Eq.mp (Ah5 a b _) ?_;unfold Yx;refine Br.dec (λhl=>?_) λhl=>Br.dec (λcU=>?_) λcU=>?_
 ·rw [Ac (.inl (by omega))];rfl
 ·rw [Ac (.inr (by omega))];rfl
 ·rw [Ai (by omega),Cl,Cl]
theorem JF:Ds Try.prog 45 gE:=
 Ds.cW Qo Ce mixed Try.func45 (by kernel_rfl) (by kernel_rfl) λx h=>Agc x.1 x.2.1 h
noncomputable def Qg (p:PP):List (List Int):=(List.range (Ae p).length).map (Cv p)
noncomputable def r0 (p:PP) (t:List Int) (y:Int):Int:=if (Ae p).getD y.toNat []∈Ae (Bc p t) then tB p t ((Ae p).getD y.toNat []) else-1
noncomputable def Yy (p:PP) (t:List Int) (l:Nat):List Int:=(List.range (Ae p).length).map λ(k:Nat)=>tl (Cv p) (r0 p t) l (k:Int)
noncomputable def dX (p:PP) (t:List Int) (n:Nat):List (List Int):=(List.range n).map (Yy p t)
def Mk (f:Nat->Int) (sh:Nat):Nat->Nat
 |0=>sh
 |n+1=>if 0<=f (sh+n)/\((sh+n:Nat):Int)+f (sh+n)<(Mk f sh n:Int)+f (Mk f sh n) then sh+n else Mk f sh n
noncomputable def Nl (p:PP) (t s:List Int) (k:Int):Nat:=Mk (λl=>tl (Cv p) (r0 p t) l (Ir p s).1) (Nc p (Ns p t) s).toNat (k+1).toNat
noncomputable def dq (p:PP) (t s:List Int) (k:Int):List Int×Int:=sp (Cv p) (r0 p t) (Aq p.2.2.1.length) (Nl p t s k) (Ir p s).1
noncomputable def Ln (p:PP) (t s:List Int) (k:Int):List Int×List Int×Bool×Unit:=
 if ((Ks p t&&decide (s∈Ae p))&&decide (0<=k/\k<=2))=true then (if Nc p (Ns p t) s>200 then ([],[],false,()) else Yx (dq p t s k).1 (Me p t ((Ae p).getD (dq p t s k).2.toNat []))) else ([],[],false,())
noncomputable abbrev cC:Spec:=Ho (.pair Gi (.pair Qn .unit)) kh false true (λx=>Dc x.1=true/\x.2.1=Bq x.1.2.2.1 (upto x.1.1.toNat)) (λx=>Qg x.1)
noncomputable def Abn (f g:SS) (y:Int):Int:=if f.1.getD y.toNat []∈g.1 then g.2.1.getD (g.1.idxOf (f.1.getD y.toNat [])) 0 else-1
noncomputable def gf (f g:SS) (nx:List (List Int)) (n:Nat):List (List Int):=(List.range n).map λl=>(List.range nx.length).map λ(k:Nat)=>tl (λi=>nx.getD i []) (Abn f g) l (k:Int)
noncomputable abbrev Zl:Spec:=Ho (.pair Qn (.pair Qn (.pair kh (.pair tI .unit)))) kh false true (λx=> ∃p t,Ks p t=true/\x.1=Bq p.2.2.1 (upto p.1.toNat)/\x.2.1=Bq (Bc p t).2.2.1 (upto p.1.toNat)/\x.2.2.1=Qg p/\0<=x.2.2.2.1/\x.2.2.2.1<=4000) (λx=>gf x.1 x.2.1 x.2.2.1 (x.2.2.2.1.toNat+1))
abbrev yY:Type:=Int×Int×ByteArray×List (List Int)×List (List Int)×List Int×List Int×Bool×List (List Int)×List Int×PUnit
abbrev yZ:Type:=Int×Int×ByteArray×List (List Int)×List (List Int)×List Int×List Int×Bool×List (List Int)×PUnit
theorem Adu (p:Int×ByteArray×List (List Int)×Unit) (f:List (List Int)×List Int×List Int×Bool×Unit) (P:List (List Int)->Prop):(∃(y3:List Int),Hb.fn ((p.1,p.2.1,p.2.2.1,()),())=some y3/\0=0/\0=([]:List Int).length/\Dh (λ(v4:yZ) (k5:yZ->Prop)=>Br (decide (v4.1<(↑v4.2.2.2.2.1.length:Int))) (0=0/\v4.2.2.2.2.2.2.2.2.1.length=v4.2.2.2.2.2.2.2.2.1.length/\0=0/\0=([]:List Int).length/\Dh (λ(v6:yY) (k7:yY->Prop)=>Br (decide (v6.1<(↑y3.length:Int))) (∃(y8:List Int),idx v6.2.2.2.2.1 v4.1=some y8/\ ∃(y9:Int),idx y3 v6.1=some y9/\ ∃(No:List Int),Qu.fn ((v6.2.1,v6.2.2.1,v6.2.2.2.1,()),y8,y9,())=some No/\ ∃(Np:Int),Ge.fn ((v6.2.2.2.2.1,v6.2.2.2.2.2.1,v6.2.2.2.2.2.2.1,v6.2.2.2.2.2.2.2.1,()),No,())=some Np/\0=0/\v6.2.2.2.2.2.2.2.2.2.1.length=v6.2.2.2.2.2.2.2.2.2.1.length/\v6.2.2.2.2.2.2.2.2.2.1.length+(List.take 1 (List.drop 0 [Np])).length<=Db/\0=0/\v6.2.2.2.2.2.2.2.2.1.length=v6.2.2.2.2.2.2.2.2.1.length/\0=0/\(v6.2.2.2.2.2.2.2.2.2.1++List.take 1 (List.drop 0 [Np])).length=(v6.2.2.2.2.2.2.2.2.2.1++List.take 1 (List.drop 0 [Np])).length/\k7 (IntKind.i64.wrap (v6.1+(1:Int)),v6.2.1,v6.2.2.1,v6.2.2.2.1,v6.2.2.2.2.1,v6.2.2.2.2.2.1,v6.2.2.2.2.2.2.1,v6.2.2.2.2.2.2.2.1,v6.2.2.2.2.2.2.2.2.1,v6.2.2.2.2.2.2.2.2.2.1++List.take 1 (List.drop 0 [Np]),())) (0=0/\v6.2.2.2.2.2.2.2.2.1.length=v6.2.2.2.2.2.2.2.2.1.length/\v6.2.2.2.2.2.2.2.2.1.length+(List.take 1 (List.drop 0 [List.take v6.2.2.2.2.2.2.2.2.2.1.length (List.drop 0 v6.2.2.2.2.2.2.2.2.2.1)])).length<=Db/\0=0/\(v6.2.2.2.2.2.2.2.2.1++List.take 1 (List.drop 0 [List.take v6.2.2.2.2.2.2.2.2.2.1.length (List.drop 0 v6.2.2.2.2.2.2.2.2.2.1)])).length=(v6.2.2.2.2.2.2.2.2.1++List.take 1 (List.drop 0 [List.take v6.2.2.2.2.2.2.2.2.2.1.length (List.drop 0 v6.2.2.2.2.2.2.2.2.2.1)])).length/\k5 (IntKind.i64.wrap (v4.1+(1:Int)),v6.2.1,v6.2.2.1,v6.2.2.2.1,v6.2.2.2.2.1,v6.2.2.2.2.2.1,v6.2.2.2.2.2.2.1,v6.2.2.2.2.2.2.2.1,v6.2.2.2.2.2.2.2.2.1++List.take 1 (List.drop 0 [List.take v6.2.2.2.2.2.2.2.2.2.1.length (List.drop 0 v6.2.2.2.2.2.2.2.2.2.1)]),()))) ((0:Int),v4.2.1,v4.2.2.1,v4.2.2.2.1,v4.2.2.2.2.1,v4.2.2.2.2.2.1,v4.2.2.2.2.2.2.1,v4.2.2.2.2.2.2.2.1,v4.2.2.2.2.2.2.2.2.1,[],PUnit.unit)) (P (List.take v4.2.2.2.2.2.2.2.2.1.length (List.drop 0 v4.2.2.2.2.2.2.2.2.1)))) ((0:Int),p.1,p.2.1,p.2.2.1,f.1,f.2.1,f.2.2.1,f.2.2.2.1,[],PUnit.unit))=fnW Hf (look [(44,Hb),(75,Qu),(40,Ge)]) cC Try.f42 (p,f,()) P:=by kernel_rfl
abbrev vS:Type:=Int×List (List Int)×List Int×List Int×Bool×List (List Int)×List Int×List Int×Bool×List Int×PUnit
abbrev vW:Type:=Int×Int×List (List Int)×List Int×PUnit
abbrev vX:Type:=Int×List (List Int)×List Int×PUnit
theorem YC (f g:List (List Int)×List Int×List Int×Bool×Unit) (next:List (List Int)) (lim:Int) (P:List (List Int)->Prop):(0=0/\0=([]:List Int).length/\Dh (λ(v5:vS) (k6:vS->Prop)=>Br (decide (v5.1<(↑v5.2.1.length:Int))) (∃(y7:List Int),idx v5.2.1 v5.1=some y7/\ ∃(y8:Int),Ge.fn ((v5.2.2.2.2.2.1,v5.2.2.2.2.2.2.1,v5.2.2.2.2.2.2.2.1,v5.2.2.2.2.2.2.2.2.1,()),y7,())=some y8/\Br (decide (y8>=(0:Int))) (∃(y9:Int),idx v5.2.2.2.2.2.2.1 y8=some y9/\0=0/\v5.2.2.2.2.2.2.2.2.2.1.length=v5.2.2.2.2.2.2.2.2.2.1.length/\v5.2.2.2.2.2.2.2.2.2.1.length+(List.take 1 (List.drop 0 [y9])).length<=Db/\0=0/\(v5.2.2.2.2.2.2.2.2.2.1++List.take 1 (List.drop 0 [y9])).length=(v5.2.2.2.2.2.2.2.2.2.1++List.take 1 (List.drop 0 [y9])).length/\k6 (IntKind.i64.wrap (v5.1+(1:Int)),v5.2.1,v5.2.2.1,v5.2.2.2.1,v5.2.2.2.2.1,v5.2.2.2.2.2.1,v5.2.2.2.2.2.2.1,v5.2.2.2.2.2.2.2.1,v5.2.2.2.2.2.2.2.2.1,v5.2.2.2.2.2.2.2.2.2.1++List.take 1 (List.drop 0 [y9]),())) (0=0/\v5.2.2.2.2.2.2.2.2.2.1.length=v5.2.2.2.2.2.2.2.2.2.1.length/\v5.2.2.2.2.2.2.2.2.2.1.length+(List.take 1 (List.drop 0 [(-1:Int)])).length<=Db/\0=0/\(v5.2.2.2.2.2.2.2.2.2.1++List.take 1 (List.drop 0 [(-1:Int)])).length=(v5.2.2.2.2.2.2.2.2.2.1++List.take 1 (List.drop 0 [(-1:Int)])).length/\k6 (IntKind.i64.wrap (v5.1+(1:Int)),v5.2.1,v5.2.2.1,v5.2.2.2.1,v5.2.2.2.2.1,v5.2.2.2.2.2.1,v5.2.2.2.2.2.2.1,v5.2.2.2.2.2.2.2.1,v5.2.2.2.2.2.2.2.2.1,v5.2.2.2.2.2.2.2.2.2.1++List.take 1 (List.drop 0 [(-1:Int)]),()))) (0=0/\1= [List.take v5.2.2.2.2.2.2.2.2.2.1.length (List.drop 0 v5.2.2.2.2.2.2.2.2.2.1)].length/\Dh (λ(v7:Int×List (List Int)×PUnit) (k8:Int×List (List Int)×PUnit->Prop)=>Br (decide (v7.1<=lim)) (((0:Int)<=IntKind.i64.wrap (v7.1-(1:Int))/\IntKind.i64.wrap (v7.1-(1:Int))<(↑v7.2.1.length:Int))/\ ∃(y9:List Int),v7.2.1[0+(IntKind.i64.wrap (v7.1-(1:Int))).toNat]?=some y9/\0=0/\0=([]:List Int).length/\0=0/\v7.2.1.length=v7.2.1.length/\Dh (λ(v10:vX) (k11:vX->Prop)=>Br (decide (v10.1<(↑next.length:Int))) (0=0/\v10.2.2.1.length=v10.2.2.1.length/\0=0/\v10.2.1.length=v10.2.1.length/\Dh (λ(Ed:vW) (GN:vW->Prop)=> ∃(Ry:List Int),idx next v10.1=some Ry/\Br (decide (Ed.2.1<(↑Ry.length:Int))) (∃(Rv:List Int),idx next v10.1=some Rv/\ ∃(Pc:Int),idx Rv Ed.2.1=some Pc/\ ∃(dK:Int),idx y9 Pc=some dK/\Br (decide (dK>=(0:Int))) (Br (decide (Ed.1<(0:Int))) (0=0/\Ed.2.2.2.1.length=Ed.2.2.2.1.length/\0=0/\Ed.2.2.1.length=Ed.2.2.1.length/\GN (dK,IntKind.i64.wrap (Ed.2.1+(1:Int)),Ed.2.2.1,Ed.2.2.2.1,())) (Br (decide (dK<Ed.1)) (0=0/\Ed.2.2.2.1.length=Ed.2.2.2.1.length/\0=0/\Ed.2.2.1.length=Ed.2.2.1.length/\GN (dK,IntKind.i64.wrap (Ed.2.1+(1:Int)),Ed.2.2.1,Ed.2.2.2.1,())) (0=0/\Ed.2.2.2.1.length=Ed.2.2.2.1.length/\0=0/\Ed.2.2.1.length=Ed.2.2.1.length/\GN (Ed.1,IntKind.i64.wrap (Ed.2.1+(1:Int)),Ed.2.2.1,Ed.2.2.2.1,())))) (0=0/\Ed.2.2.2.1.length=Ed.2.2.2.1.length/\0=0/\Ed.2.2.1.length=Ed.2.2.1.length/\GN (Ed.1,IntKind.i64.wrap (Ed.2.1+(1:Int)),Ed.2.2.1,Ed.2.2.2.1,()))) (0=0/\Ed.2.2.2.1.length=Ed.2.2.2.1.length/\Ed.2.2.2.1.length+(List.take 1 (List.drop 0 [Ed.1])).length<=Db/\0=0/\(Ed.2.2.2.1++List.take 1 (List.drop 0 [Ed.1])).length=(Ed.2.2.2.1++List.take 1 (List.drop 0 [Ed.1])).length/\0=0/\Ed.2.2.1.length=Ed.2.2.1.length/\k11 (IntKind.i64.wrap (v10.1+(1:Int)),Ed.2.2.1,Ed.2.2.2.1++List.take 1 (List.drop 0 [Ed.1]),()))) ((-1:Int),(0:Int),v10.2.1,v10.2.2.1,PUnit.unit)) (0=0/\v10.2.1.length=v10.2.1.length/\v10.2.1.length+(List.take 1 (List.drop 0 [List.take v10.2.2.1.length (List.drop 0 v10.2.2.1)])).length<=Db/\0=0/\(v10.2.1++List.take 1 (List.drop 0 [List.take v10.2.2.1.length (List.drop 0 v10.2.2.1)])).length=(v10.2.1++List.take 1 (List.drop 0 [List.take v10.2.2.1.length (List.drop 0 v10.2.2.1)])).length/\k8 (IntKind.i64.wrap (v7.1+(1:Int)),v10.2.1++List.take 1 (List.drop 0 [List.take v10.2.2.1.length (List.drop 0 v10.2.2.1)]),()))) ((0:Int),v7.2.1,[],PUnit.unit)) (P (List.take v7.2.1.length (List.drop 0 v7.2.1)))) ((1:Int),[List.take v5.2.2.2.2.2.2.2.2.2.1.length (List.drop 0 v5.2.2.2.2.2.2.2.2.2.1)],PUnit.unit))) ((0:Int),f.1,f.2.1,f.2.2.1,f.2.2.2.1,g.1,g.2.1,g.2.2.1,g.2.2.2.1,[],PUnit.unit))=fnW Hf (look [(40,Ge)]) Zl Try.f43 (f,g,next,lim,()) P:=by kernel_rfl
theorem pV (p:PP):(Qg p).length=(Ae p).length:=by unfold Qg;rw [Ct,cS]
theorem HT {p:PP} {i:Nat} (h:i<(Ae p).length):(Qg p).getD i []=Cv p i:=by
 rw [Bw (by rw [pV];exact h)];unfold Qg;rw [Ps,List.getElem_range]
theorem Sq {α:Type} (f:Nat->α) (j:Nat):(List.range (j+1)).map f=(List.range j).map f++ [f j]:=by
 rw [Gc,Hj];rfl
theorem Us {α:Type} (f:Nat->α) (j:Nat):((List.range j).map f).length=j:=by rw [Ct,cS]
theorem Ur {α:Type} {f:Nat->α} {j i:Nat} (h:i<j):((List.range j).map f)[i]?=some (f i):=by
 rw [Fa,Rz h];rfl
theorem w5 {α:Type} {xs:List α} {j:Nat} (h:j<xs.length):xs.take (j+1)=xs.take j++ [xs[j]]:=by
 rw [Iu,Ad h];rfl
theorem Ac5 (p:PP) (f:SS) (h:Dc p=true/\f=Bq p.2.2.1 (upto p.1.toNat)):fnW Hf (look [(44,Hb),(75,Qu),(40,Ge)]) cC Try.f42 (p,f,()) (λ(z:List (List Int))=>z=Qg p):=by
 obtain ⟨Pd,rfl⟩:=h;have hv:=(Dl Pd).1;have hV:=valid hv;have YT:=Xn hv;have hc:=Mw Pd
 obtain ⟨ls,bD⟩: ∃ls,Aq p.2.2.1.length=ls:=⟨_,rfl⟩
 have hlf:=Sn hV;rw [bD] at hlf hc
 obtain ⟨F,hF⟩: ∃F:SS,Bq p.2.2.1 (upto p.1.toNat)=F:=⟨_,rfl⟩
 have hF1:F.1=Ae p:=by rw [<-hF];rfl
 have jq: ∀l∈ls,Ie (List.length p.2.2.1) l:= λl hl=>Jw (bD▸hl);rw [hF];refine Eq.mp (Adu p F _) ⟨ls,(Ac hV.eK.2).trans (Dz some bD),rfl,rfl,?_⟩;refine Bt (Ae p).length (λv=>v.1) (λj v=>v=((j:Int),p.1,p.2.1,p.2.2.1,F.1,F.2.1,F.2.2.1,F.2.2.2.1,(List.range j).map (Cv p),())) rfl rfl ?_;rintro j v K hj hi rfl hK;dsimp only;rw [hF1];have hol:=Us (Cv p) j;refine Br.dec (λhl=>?_) λhl=>?_
 ·have hl:j<(Ae p).length:=by omega
  have hx:(Ae p)[j]∈Ae p:=Ah hl;have hxp:=fo hv hx
  have Qd:Cv p j=ls.map λl=>Nr (Ae p) (Am (Ae p)[j] (Ax p.2.2.1 l)):=by
   unfold Cv oz;rw [Bw hl,bD];exact Er λl cU=>(Acg (hc.next _ hx _ cU)).symm
  refine ⟨rfl,rfl,rfl,rfl,?_⟩;refine Bt ls.length (λv=>v.1) (λi v=>v=((i:Int),p.1,p.2.1,p.2.2.1,Ae p,F.2.1,F.2.2.1,F.2.2.2.1,(List.range j).map (Cv p),(Cv p j).take i,())) rfl rfl ?_;rintro i v K2 cO hii rfl DT;dsimp only
  have htl:((Cv p j).take i).length<=i:=by rw [Dx];omega
  refine Br.dec (λcU=>?_) λcU=>?_
  ·have cU:i<ls.length:=by omega
   have sF:=Ah cU;have hy:=hc.next _ hx _ sF
   have e11:Ge.fn ((Ae p,F.2.1,F.2.2.1,F.2.2.2.1,()),Am (Ae p)[j] (Ax p.2.2.1 ls[i]),())=some (Nr (Ae p) (Am (Ae p)[j] (Ax p.2.2.1 ls[i]))):=by
    have h1:=sIx (p:=p) hv (fo hv hy).1;rw [hF] at h1;show Ge.fn ((Ae p,F.2.1,F.2.2.1,F.2.2.2.1,()),_,())=_
    have h2:(F.1,F.2.1,F.2.2.1,F.2.2.2.1,())=(Ae p,F.2.1,F.2.2.1,F.2.2.2.1,()):=by rw [hF1]
    exact Eq.trans (Dz (λ(z:SS)=>Ge.fn (z,Am (Ae p)[j] (Ax p.2.2.1 ls[i]),())) h2.symm) h1
   refine ⟨_,Bu hl,_,Bu cU,_,Ac ⟨hv,Acf hxp,IS hV hxp,jq _ sF⟩,_,e11,rfl,rfl,by show ((Cv p j).take i).length+1<=4294967296;omega,rfl,rfl,rfl,rfl,?_⟩;rw [Bm (by omega)];refine DT cU _ rfl ?_
   have hlr:i<(Cv p j).length:=by rw [Sv,bD];exact cU
   have he:(Cv p j)[i]=Nr (Ae p) (Am (Ae p)[j] (Ax p.2.2.1 ls[i])):=by
    simp only [Qd,Ps]
   rw [w5 hlr,he];rfl
  ·have:i=ls.length:=by omega
   subst this;have hr:(Cv p j).take ls.length=Cv p j:=Jh (by rw [Sv,bD];exact Ap _);rw [hr,Cl];refine ⟨rfl,rfl,by show ((List.range j).map (Cv p)).length+1<=4294967296;omega,rfl,rfl,?_⟩;rw [Bm (by omega)];refine hK hl _ rfl ?_;rw [Sq,hF1];rfl
 ·have:j=(Ae p).length:=by omega
  subst this;rw [Cl];rfl
theorem CF:Sound Try.prog 42 cC:=
 Sound.Ho Ez (Bf Qw (Bf br (Bf Qm Ce))) mixed Try.func42 (by kernel_rfl) (by kernel_rfl) λx h=>Ac5 x.1 x.2.1 h
theorem WK (f g:SS) (next:List (List Int)) (lim:Int) (h: ∃p t,Ks p t=true/\f=Bq p.2.2.1 (upto p.1.toNat)/\g=Bq (Bc p t).2.2.1 (upto p.1.toNat)/\next=Qg p/\0<=lim/\lim<=4000):
  fnW Hf (look [(40,Ge)]) Zl Try.f43 (f,g,next,lim,()) (λ(z:List (List Int))=>z=gf f g next (lim.toNat+1)):=by
 obtain ⟨p,t,hw,hF,hG,hN,h0,h4⟩:=h;obtain ⟨Pd,zO⟩:=Lq.1 hw;have cd:=Rj Pd zO;have hv:=(Dl Pd).1;have hvs:=(Dl cd).1;have YT:=Xn hv;have hR:=Tg Pd
 have hF1:f.1=Ae p:=by rw [hF];rfl
 have hG1:g.1=Ae (Bc p t):=by rw [hG];rfl
 have hG2:g.2.1.length=g.1.length:=by rw [hG1,hG];exact (cH hvs).len
 have hNl:next.length=(Ae p).length:=by rw [hN];exact pV p
 have hNa: ∀i,i<(Ae p).length->next.getD i []=Cv p i:= λi hi=>by rw [hN];exact HT hi
 obtain ⟨L,hL⟩: ∃L:Nat,lim=(L:Int):=Ba h0;subst hL
 obtain ⟨nx,hnx⟩: ∃nx:Nat->List Int,nx= λi=>next.getD i []:=⟨_,rfl⟩
 obtain ⟨r,hr⟩: ∃r:Int->Int,r=Abn f g:=⟨_,rfl⟩
 obtain ⟨m,hm⟩: ∃m,(Ae p).length=m:=⟨_,rfl⟩
 rw [hm] at YT hR hNl hNa;refine Eq.mp (YC f g next (L:Int) _) ⟨rfl,rfl,?_⟩
 have mI:gf f g next ((L:Int).toNat+1)=(List.range (L+1)).map λl=>(List.range m).map λ(k:Nat)=>tl nx r l (k:Int):=by
  unfold gf;rw [hNl,Ab,hnx,hr]
 rw [mI]
 have YP:f.1.length=m:=by rw [hF1,hm]
 refine Bt m (λv=>v.1) (λj v=>v=((j:Int),f.1,f.2.1,f.2.2.1,f.2.2.2.1,g.1,g.2.1,g.2.2.1,g.2.2.2.1,(List.range j).map (λ(k:Nat)=>r (k:Int)),())) rfl rfl ?_;rintro j v K hj hi rfl hK;dsimp only;have hol:=Us (λ(k:Nat)=>r (k:Int)) j;rw [YP];refine Br.dec (λhl=>?_) λhl=>?_
 ·have hl:j<m:=by omega
  have hjl:j<f.1.length:=by omega
  have hx:f.1[j]∈Ae p:=by rw [<-hF1];exact Ah hjl
  obtain ⟨x,LH⟩: ∃x,f.1[j]=x:=⟨_,rfl⟩
  rw [LH] at hx
  have hgx:f.1.getD j []=x:=by rw [Bw hjl,LH]
  have e8:Ge.fn (g,x,())=some (Nr g.1 x):=by
   have h1:=sIx (p:=Bc p t) hvs (fo hv hx).1;have h2:g=Bq (Bc p t).2.2.1 (upto (Bc p t).1.toNat):=hG;rw [<-h2,<-hG1] at h1;exact h1
  refine ⟨x,by rw [<-LH];exact Bu hjl,Nr g.1 x,e8,?_⟩
  have hrj:r (j:Int)=if x∈g.1 then g.2.1.getD (g.1.idxOf x) 0 else-1:=by rw [hr];unfold Abn;rw [Ab,hgx]
  rw [Bm (by omega)]
  by_cases Jq:x∈g.1
  ·rw [Ac Jq] at hrj
   have hp:Nr g.1 x=(g.1.idxOf x:Nat):=by unfold Nr;rw [Ac Jq]
   have hil:=Ga Jq;rw [hp];refine Br.dec (λ_=>?_) λhh=>absurd (show ((g.1.idxOf x:Nat):Int)>=0 by omega) hh;refine ⟨r (j:Int),by rw [hrj,Bu (by omega),Bw (by omega)],rfl,rfl,by show ((List.range j).map (λ(k:Nat)=>r (k:Int))).length+1<=4294967296;omega,rfl,rfl,?_⟩;refine hK hl _ rfl ?_;rw [Sq];rfl
  ·rw [Ai Jq] at hrj
   have hp:Nr g.1 x= -1:=by unfold Nr;rw [Ai Jq]
   rw [hp];refine Br.dec (λhh=>absurd hh (by decide)) λ_=>?_;refine ⟨rfl,rfl,by show ((List.range j).map (λ(k:Nat)=>r (k:Int))).length+1<=4294967296;omega,rfl,rfl,?_⟩;refine hK hl _ rfl ?_;rw [Sq,hrj];rfl
 ·have:j=m:=by omega
  subst this;rw [Cl];refine ⟨rfl,rfl,?_⟩;refine Dh.mk (λv=> ∃l:Nat,v=(((l+1:Nat):Int),(List.range (l+1)).map (λl=>(List.range j).map λ(k:Nat)=>tl nx r l (k:Int)),())/\l<=L) (λv=>((L:Int)+1-v.1).toNat) ⟨0,rfl,Iz _⟩ ?_;rintro v ⟨l,rfl,hlL⟩;dsimp only
  obtain ⟨R,hRe⟩: ∃R:Nat->List Int,R= λl=>(List.range j).map λ(k:Nat)=>tl nx r l (k:Int):=⟨_,rfl⟩
  have hRl: ∀l,(R l).length=j:= λl=>by rw [hRe];exact Us _ _
  have hRa: ∀l (y:Int),0<=y->y<j->idx (R l) y=some (tl nx r l y):= λl y y0 y1=>by
   obtain ⟨k,rfl⟩:=Ba y0;unfold idx;rw [Ac y0,Ab,hRe];exact Ur (f:= λ(k:Nat)=>tl nx r l (k:Int)) (by omega)
  rw [<-hRe];have GF:=Us R (l+1)
  have ew:IntKind.i64.wrap (((l+1:Nat):Int)-1)=(l:Int):=by rw [Co (by omega) (by omega)];omega
  rw [ew];refine Br.dec (λKr=>?_) λKr=>?_
  ·refine ⟨⟨by omega,by omega⟩,R l,by rw [Bl,Ab];exact Ur (by omega),rfl,rfl,rfl,rfl,?_⟩;refine Bt j (λv=>v.1) (λk v=>v=((k:Int),(List.range (l+1)).map R,(List.range k).map (λ(k:Nat)=>tl nx r (l+1) (k:Int)),())) rfl rfl ?_;rintro k v K2 hk hki rfl DT;dsimp only;have Ml:=Us (λ(k:Nat)=>tl nx r (l+1) (k:Int)) k;rw [hNl];refine Br.dec (λGC=>?_) λGC=>?_
   ·have GC:k<j:=by omega
    have hnk:next.getD k []=nx k:=by rw [hnx]
    have LD:idx next (k:Int)=some (nx k):=by rw [Bu (by omega),<-hnk,Bw (by omega)]
    have Ii: ∀y∈nx k,0<=y/\y<j:=by rw [<-hnk,hNa k GC];exact hR k GC
    have hnl:(nx k).length<=16:=by
     rw [<-hnk,hNa k GC,Sv];have:=Sn (valid hv);exact this
    refine ⟨rfl,rfl,rfl,rfl,?_⟩;refine Bt (nx k).length (λv=>v.2.1) (λi v=>v=(LJ (((nx k).take i).map (tl nx r l)) (-1),(i:Int),(List.range (l+1)).map R,(List.range k).map (λ(k:Nat)=>tl nx r (l+1) (k:Int)),())) rfl rfl ?_;rintro i v K3 hi3 Bbh rfl hK3;dsimp only;refine ⟨nx k,LD,Br.dec (λhi4=>?_) λhi4=>?_⟩
    ·have hi4:i<(nx k).length:=by omega
     obtain ⟨y,hy⟩: ∃y,(nx k)[i]=y:=⟨_,rfl⟩
     have hyb:=Ii _ (Ah hi4);rw [hy] at hyb
     have Qt:LJ (((nx k).take (i+1)).map (tl nx r l)) (-1)=mnS (LJ (((nx k).take i).map (tl nx r l)) (-1)) (tl nx r l y):=by
      rw [w5 hi4,hy,Hj];unfold LJ;rw [Fz];rfl
     obtain ⟨a,ha⟩: ∃a,LJ (((nx k).take i).map (tl nx r l)) (-1)=a:=⟨_,rfl⟩
     obtain ⟨z,hz⟩: ∃z,tl nx r l y=z:=⟨_,rfl⟩
     rw [ha,hz] at Qt;rw [ha];unfold mnS at Qt;refine ⟨nx k,LD,y,by rw [<-hy];exact Bu hi4,z,by rw [<-hz];exact hRa l y hyb.1 hyb.2,?_⟩;rw [Bm (by omega)];refine Br.dec (λc1=>?_) λc1=>?_
     ·refine Br.dec (λc2=>?_) λc2=>?_
      ·rw [Ac ⟨c1,Or.inl c2⟩] at Qt;exact ⟨rfl,rfl,rfl,rfl,hK3 hi4 _ rfl (by rw [Qt])⟩
      ·refine Br.dec (λc3=>?_) λc3=>?_
       ·rw [Ac ⟨c1,Or.inr c3⟩] at Qt;exact ⟨rfl,rfl,rfl,rfl,hK3 hi4 _ rfl (by rw [Qt])⟩
       ·rw [Ai λhh=>hh.2.elim c2 c3] at Qt;exact ⟨rfl,rfl,rfl,rfl,hK3 hi4 _ rfl (by rw [Qt])⟩
     ·rw [Ai λhh=>c1 hh.1] at Qt;exact ⟨rfl,rfl,rfl,rfl,hK3 hi4 _ rfl (by rw [Qt])⟩
    ·have:i=(nx k).length:=by omega
     subst this;rw [Az];refine ⟨rfl,rfl,by show ((List.range k).map (λ(k:Nat)=>tl nx r (l+1) (k:Int))).length+1<=4294967296;omega,rfl,rfl,rfl,rfl,?_⟩;rw [Bm (by omega)];refine DT GC _ rfl ?_;rw [Sq (λ(k:Nat)=>tl nx r (l+1) (k:Int)) k];rfl
   ·have:k=j:=by omega
    subst this;rw [Cl];refine ⟨rfl,rfl,by show ((List.range (l+1)).map R).length+1<=4294967296;omega,rfl,rfl,?_⟩;rw [Bm (by omega)];refine ⟨⟨l+1,?_,by omega⟩,by show ((L:Int)+1-((l+1+1:Nat):Int)).toNat<((L:Int)+1-((l+1:Nat):Int)).toNat;omega⟩;rw [Sq R (l+1),hRe];rfl
  ·have:l=L:=by omega
   subst this;rw [Cl,hRe]
theorem xo:Sound Try.prog 43 Zl:=
 Sound.Ho Ez (Bf Qm Ce) mixed Try.func43 (by kernel_rfl) (by kernel_rfl) λx h=>WK x.1 x.2.1 x.2.2.1 x.2.2.2.1 h
theorem wj (ls:List (List EN)): ∀(k:Nat) (n:Int) (out:List Int),lh ls k n out=out++lh ls k n []
 |0,_,out=>(iQ out).symm
 |k+1,n,out=>by
  rw [lh,lh,wj ls k _ (out++_),wj ls k _ ([]++_),Om,Bn]
section
variable {p:PP} {t:List Int}
noncomputable def wv (p:PP) (i:Int) (a n:Nat):Int:=((Hr p i a).getD n z0).1
theorem Amc (Pd:Dc p=true) {i:Int} (hi:0<=i/\i<(Ae p).length) {a n:Nat} (hn:n<(Hr p i a).length):0<=wv p i a n/\wv p i a n<(Ae p).length:=by
 have:=(kL Pd hi a).2 _ (Ah hn);unfold wv;rw [Bw hn];exact this
theorem Aj6 (Pd:Dc p=true) {i:Int} (hi:0<=i/\i<(Ae p).length) (Q:Int->Bool) (a:Nat):ZD (Cv p) (Aq p.2.2.1.length) Q (Hr p i a) (Hr p i a).length 0 (Hr p i (a+1)):=
 Ahr (Tg Pd) (λi _=>Sv p i) (kL Pd hi a).2 _ (Ap _)
theorem SY (Pd:Dc p=true) {i:Int} (hi:0<=i/\i<(Ae p).length) {K:Nat} : ∀(a:Nat) (Q:Int->Bool) (n:Nat),a<K->n<(Hr p i a).length->Q (wv p i a n)=true->(∀q,q<n->Q (wv p i a q)=false)->
  ((lh (Jp p i K) a (n:Int) []).reverse,wv p i a n)=gr (Cv p) (Aq p.2.2.1.length) Q a i
 |0,Q,n,_,hn,_,_=>by
  have hn:n<1:=hn
  obtain rfl:n=0:=by omega
  rfl
 |a+1,Q,n,ha,hn,hq,hf=>by
  rcases Aj6 Pd hi Q a with ⟨h1,_⟩|⟨n0,j0,q0,h1,h2,h3,h4,h5,h6,h7⟩
  ·have:=h1 _ (Ah hn);unfold wv at hq;rw [Bw hn,this] at hq;cases hq
  have YU:n0<(Hr p i a).length:=by omega
  have e4:wv p i (a+1) q0=stepT (Cv p) (Hr p i a) n0 j0:=by unfold wv;rw [h4]
  obtain rfl:n=q0:=by
   rcases Nat.lt_trichotomy n q0 with h|h|h
   ·have:=h6 n h;have hq:Q ((Hr p i (a+1)).getD n z0).1=true:=hq;rw [this] at hq;cases hq
   ·exact h
   ·have:=hf q0 h;rw [e4,h5] at this;cases this
  obtain ⟨b0,b1⟩:=Amc Pd hi YU;have GF: ∀y,((Cv p) y).length=(Aq p.2.2.1.length).length:= λy=>Sv p y
  have ih:=SY Pd hi (K:=K) a (R1 (Cv p) Q) n0 (by omega) YU (nz.2 ⟨j0,by rw [GF];exact h2,h5⟩) λq hq2=>by
   cases e:R1 (Cv p) Q (wv p i a q) with
   |false=>rfl
   |true=>
    obtain ⟨j,hj,u6⟩:=nz.1 e;rw [GF] at hj;have:=h7 q j (Or.inl hq2) hj;have u6:Q (stepT (Cv p) (Hr p i a) q j)=true:=u6;rw [this] at u6;cases u6
  have hfi:((Cv p) (wv p i a n0).toNat).findIdx Q=j0:=dR (d:=0) (by rw [GF];exact h2) h5 λj hj=>h7 n0 j (Or.inr ⟨rfl,hj⟩) (by omega);rw [RV,<-ih];dsimp only;rw [hfi,e4]
  have hen:zy (Jp p i K) (a+1) (n:Int)=(stepT (Cv p) (Hr p i a) n0 j0,(n0:Int),(Aq p.2.2.1.length).getD j0 0,()):=by
   unfold zy;rw [eV p i ha,Ab];exact h4
  refine Prod.ext ?_ rfl;show (lh (Jp p i K) (a+1) (n:Int) []).reverse=(lh (Jp p i K) a (n0:Int) []).reverse++ [(Aq p.2.2.1.length).getD j0 0];rw [lh,hen];show (lh (Jp p i K) a (n0:Int) ([]++ [(Aq p.2.2.1.length).getD j0 0])).reverse=_;rw [wj,List.reverse_append];rfl
theorem NX (Pd:Dc p=true) {i:Int} (hi:0<=i/\i<(Ae p).length): ∀(a:Nat) (Q:Int->Bool),VF (Cv p) a Q i=true↔ ∃n,n<(Hr p i a).length/\Q (wv p i a n)=true
 |0,Q=>⟨λh=>⟨0,by show 0<1;decide,h⟩,λ⟨n,hn,h⟩=>by
   have hn:n<1:=hn
   obtain rfl:n=0:=by omega
   exact h⟩
 |a+1,Q=>by
  refine Iff.trans (NX Pd hi a (R1 (Cv p) Q)) ?_;have GF: ∀y,((Cv p) y).length=(Aq p.2.2.1.length).length:= λy=>Sv p y;rcases Aj6 Pd hi Q a with ⟨h1,h2⟩|⟨n0,j0,q0,h1,h2,h3,h4,h5,h6,h7⟩
  ·refine ⟨λ⟨n,hn,h⟩=>?_,λ⟨n,hn,h⟩=>?_⟩
   ·obtain ⟨j,hj,u6⟩:=nz.1 h;rw [GF] at hj;have h3:=h2 n j (Or.inl hn) hj;have u6:Q (stepT (Cv p) (Hr p i a) n j)=true:=u6;rw [h3] at u6;cases u6
   ·have:=h1 _ (Ah hn);unfold wv at h;rw [Bw hn,this] at h;cases h
  ·refine ⟨λ_=>⟨q0,h3,by unfold wv;rw [h4];exact h5⟩,λ_=>⟨n0,by omega,nz.2 ⟨j0,by rw [GF];exact h2,h5⟩⟩⟩
def BsF (p:PP) (t:List Int) (i sh:Int) (v:Int×Int×Int):Prop:=
 0<=v.1->sh<=v.2.1/\ ∀a' n':Nat,((a':Int)<v.2.1\/(a':Int)=v.2.1/\(n':Int)<v.2.2)->n'<(Hr p i a').length->sh<=a'->kX p i a' n'∈Ae (Bc p t)->v.1<a'+tB p t (kX p i a' n')
theorem BsF.step {i sh:Int} {K N:Nat} {v:Int×Int×Int} (hI:BsI p t i sh K N v) (h:BsF p t i sh v):BsF p t i sh (fK p t sh (K:Int) (Hr p i K) v N):=by
 unfold fK
 by_cases hc:(sh<=(K:Int)/\(Ae p).getD ((Hr p i K).getD N z0).1.toNat []∈Ae (Bc p t))/\(v.1<0\/(K:Int)+Jc (Ae (Bc p t)) (Bj (Bc p t)) ((Ae p).getD ((Hr p i K).getD N z0).1.toNat [])<v.1)
 ·rw [Ac hc];obtain ⟨⟨c1,c2⟩,c3⟩:=hc;intro _;refine ⟨c1,λa' n' ha hn sG Jq=>?_⟩;have ha:(a':Int)<(K:Int)\/(a':Int)=(K:Int)/\(n':Int)<(N:Int):=ha;show (K:Int)+tB p t (kX p i K N)<a'+tB p t (kX p i a' n');obtain ⟨b1,b2⟩:=hI.LW a' n' (by omega) hn sG Jq;have c3:v.1<0\/(K:Int)+tB p t (kX p i K N)<v.1:=c3;omega
 ·rw [Ai hc];exact h
theorem BsF.row (cd:Dc (Bc p t)=true) {i sh:Int} {K:Nat} {v:Int×Int×Int} (hI:BsI p t i sh K 0 v) (h:BsF p t i sh v): ∀n,n<=(Hr p i K).length->BsF p t i sh (ag p t sh (K:Int) (Hr p i K) n v)
 |0,_=>h
 |n+1,hn=>by
  have e:ag p t sh (K:Int) (Hr p i K) (n+1) v=fK p t sh (K:Int) (Hr p i K) (ag p t sh (K:Int) (Hr p i K) n v) n:=by
   unfold ag;rw [Gc,Fz];rfl
  rw [e];exact BsF.step (hI.row cd n (by omega)) (BsF.row cd hI h n (by omega))
theorem ET (cd:Dc (Bc p t)=true) (i sh:Int): ∀K,BsF p t i sh (tu p t i sh K)
 |0=> λh=>absurd (show (0:Int)<= -1 from h) (by decide)
 |K+1=>by
  rw [py];exact BsF.row cd (RJ cd i sh K) (ET cd i sh K) _ (Ap _)
theorem pv {f:Nat->Int} {sh:Nat} (h0:0<=f sh): ∀n,sh<=Mk f sh n/\(Mk f sh n<sh+n\/Mk f sh n=sh)/\0<=f (Mk f sh n)/\
  (∀l,sh<=l->l<sh+n->0<=f l->(Mk f sh n:Int)+f (Mk f sh n)<=l+f l)/\ ∀l,sh<=l->l<Mk f sh n->0<=f l->(Mk f sh n:Int)+f (Mk f sh n)<l+f l
 |0=>⟨Ap _,Or.inr rfl,h0,λl h1 h2=>by omega,λl h1 h2=>by
   have h2:l<sh:=h2
   omega⟩
 |n+1=>by
  obtain ⟨a,b,c,d,e⟩:=pv h0 n;unfold Mk;split
  ·rename_i hc;refine ⟨by omega,Or.inl (by omega),hc.1,λl h1 h2 h3=>?_,λl h1 h2 h3=>?_⟩
   ·by_cases e2:l=sh+n
    ·rw [e2];exact Ku _
    ·have:=d l h1 (by omega) h3;omega
   ·have:=d l h1 h2 h3;omega
  ·rename_i hc;refine ⟨a,by omega,c,λl h1 h2 h3=>?_,e⟩
   by_cases e2:l=sh+n
   ·subst e2;omega
   ·exact d l h1 (by omega) h3
theorem TG {y:Int} {x:List Int} (hx:(Ae p).getD y.toNat []=x) (h:x∈Ae (Bc p t)):r0 p t y=tB p t x:=by
 unfold r0;rw [hx,Ac h]
theorem OZ {y:Int} (h:0<=r0 p t y):(Ae p).getD y.toNat []∈Ae (Bc p t):=by
 unfold r0 at h;split at h
 ·assumption
 ·omega
theorem Acs {nx:Nat->List Int} {r:Int->Int} {ls:List Int} : ∀(l:Nat) (y:Int),(sp nx r ls l y).1.length=l
 |0,_=>rfl
 |l+1,y=>by rw [sp,Aw,Acs l]
theorem KX {s:List Int} (hw:Ks p t=true) (hs:s∈Ae p) {k:Int} (hk:0<=k) {TT:Nat} (hT:Nc p (Ns p t) s+k+1=(TT:Int)):
  (0<=tl (Cv p) (r0 p t) (Nc p (Ns p t) s).toNat (Ir p s).1/\Nc p (Ns p t) s<=Nl p t s k/\Nl p t s k<TT/\0<=tl (Cv p) (r0 p t) (Nl p t s k) (Ir p s).1)/\
  ∃(n:Nat) (B1:Int),tu p t (Ir p s).1 (Nc p (Ns p t) s) TT=(B1,(Nl p t s k:Int),(n:Int))/\n<(Hr p (Ir p s).1 (Nl p t s k)).length/\kX p (Ir p s).1 (Nl p t s k) n∈Ae (Bc p t)/\
   (ao (Jp p (Ir p s).1 (Nl p t s k+1)) (n:Int),wv p (Ir p s).1 (Nl p t s k) n)=dq p t s k:=by
 obtain ⟨Pd,zO⟩:=Lq.1 hw;have cd:=Rj Pd zO;obtain ⟨w1,w2,w3,w4⟩:=Ag8 Pd zO hs;obtain ⟨o1,_,_⟩:=AT Pd zO hs;obtain ⟨i1,i2,_⟩:=GM hs;have hlh:=HG Pd hs (dZ p (Ns p t) s) (λl hl=>Jw (w2 l hl)) (dZ p (Ns p t) s).length (Ap _);rw [Az] at hlh;obtain ⟨h1,_⟩:=hlh
 obtain ⟨w,YW⟩: ∃w,dZ p (Ns p t) s=w:=⟨_,rfl⟩
 rw [YW] at w1 w2 w3 w4 h1;have hmb:Nl p t s k=Mk (λl=>tl (Cv p) (r0 p t) l (Ir p s).1) (Nc p (Ns p t) s).toNat (k+1).toNat:=rfl;have hmw:dq p t s k=sp (Cv p) (r0 p t) (Aq p.2.2.1.length) (Nl p t s k) (Ir p s).1:=rfl
 obtain ⟨i,hie⟩: ∃i,(Ir p s).1=i:=⟨_,rfl⟩
 obtain ⟨sh,Al6⟩: ∃sh,Nc p (Ns p t) s=sh:=⟨_,rfl⟩
 rw [hie] at i1 i2 h1 hmb hmw⊢;rw [Al6] at w1 o1 hmb hT⊢;obtain ⟨SH,rfl⟩:=Ba o1;obtain ⟨KK,rfl⟩:=Ba hk
 have hk1:((KK:Int)+1).toNat=KK+1:=by omega
 rw [Ab,hk1] at hmb;rw [Ab]
 have NJ:w.length=SH:=by omega
 have hi:0<=i/\i<(Ae p).length:=⟨i1,i2⟩
 obtain ⟨T,hTd⟩: ∃T:Nat->Int,T= λl=>tl (Cv p) (r0 p t) l i:=⟨_,rfl⟩
 have hTa: ∀l,tl (Cv p) (r0 p t) l i=T l:= λl=>by rw [hTd]
 have Sd: ∀a n,(Ae p).getD (wv p i a n).toNat []=kX p i a n:= λa n=>rfl
 have hA: ∀a n,n<(Hr p i a).length->kX p i a n∈Ae (Bc p t)->0<=T a/\T a<=tB p t (kX p i a n):= λa n hn Jq=>by
  have hd:0<=tB p t (kX p i a n):=(bV cd).nn _ Jq;rw [<-hTa];exact QX hd a i ((NX Pd hi a _).2 ⟨n,hn,Ci (TG (Sd a n) Jq)⟩)
 have hB: ∀a,0<=T a-> ∃n,n<(Hr p i a).length/\kX p i a n∈Ae (Bc p t)/\tB p t (kX p i a n)=T a:= λa h0=>by
  obtain ⟨n,hn,hq⟩:=(NX Pd hi a _).1 (QN (nx:=Cv p) (r0:=r0 p t) h0 a i (hTa a));have hq:r0 p t (wv p i a n)=T a:=Cx hq;have Jq:=OZ (p:=p) (t:=t) (y:=wv p i a n) (by omega);rw [Sd] at Jq;exact ⟨n,hn,Jq,by rw [<-TG (Sd a n) Jq,hq]⟩
 obtain ⟨en,hen,e1⟩:=Bh.1 h1;obtain ⟨n0,YU,e2⟩:=Bg.1 hen;have Ap7:=Ga w3
 have Aqf:kX p i SH n0=So p.2.2.1 s w:=by
  subst NJ;unfold kX;rw [Bw YU,e2,e1,Ab,Bw Ap7,Ug Ap7]
 have Apg:n0<(Hr p i SH).length:=by subst NJ;exact YU
 have hC:=hA SH n0 Apg (by rw [Aqf];exact w4);rw [hTa,hTa];have hb:=pv (f:=T) hC.1 (KK+1)
 have hmb:Nl p t s (KK:Int)=Mk T SH (KK+1):=by rw [hmb,hTd]
 rw [hmb] at hmw⊢
 obtain ⟨b,hbe⟩: ∃b,Mk T SH (KK+1)=b:=⟨_,rfl⟩
 rw [hbe] at hb hmw⊢;obtain ⟨b1,b2,b3,b4,b5⟩:=hb;refine ⟨⟨hC.1,by omega,by omega,b3⟩,?_⟩;have hI:=RJ (t:=t) cd i (SH:Int) TT;have hF:=ET (t:=t) cd i (SH:Int) TT
 obtain ⟨B,hBe⟩: ∃B,tu p t i (SH:Int) TT=B:=⟨_,rfl⟩
 rw [hBe] at hI hF⊢;obtain ⟨B1,B2,B3⟩:=B;obtain ⟨p1,_⟩:=hI.LW SH n0 (Or.inl (by omega)) Apg (Ku _) (by rw [Aqf];exact w4);have p1:0<=B1:=p1;rcases hI.got with g|⟨a,n,g1,g2,g3,g4,g5,g6,g7⟩
 ·have g:B1<0:=g;omega
 have g1:B2=a:=g1;have g2:B3=n:=g2;have g7:B1=a+tB p t (kX p i a n):=g7;subst g1 g2;obtain ⟨f1,f2⟩:=hF p1;have f1:(SH:Int)<=a:=f1
 have haT:a<SH+(KK+1):=by omega
 obtain ⟨t1,t2⟩:=hA a n g5 g6;obtain ⟨nb,m1,m2,m3⟩:=hB b b3;have q1:=(hI.LW b nb (Or.inl (by omega)) m1 (by omega) m2).2;have q1:B1<=b+tB p t (kX p i b nb):=q1;have q2:=b4 a (by omega) haT t1
 have qU:a=b:=by
  rcases Nat.lt_trichotomy a b with h|h|h
  ·have:=b5 a (by omega) h t1;omega
  ·exact h
  ·have h3:B1<(b:Int)+tB p t (kX p i b nb):=f2 b nb (Or.inl (show (b:Int)<(a:Int) by omega)) m1 (by omega) m2;omega
 subst qU
 have hda:tB p t (kX p i a n)=T a:=by omega
 refine ⟨n,B1,rfl,g5,g6,?_⟩
 have hlw:=SY Pd hi (K:=a+1) a (qv (r0 p t) (T a)) n (Nat.lt_succ_self _) g5 (Ci (by rw [TG (Sd a n) g6,hda])) λq hq=>by
  cases e:qv (r0 p t) (T a) (wv p i a q) with
  |false=>rfl
  |true=>
   have e:r0 p t (wv p i a q)=T a:=Cx e;have Jq:=OZ (p:=p) (t:=t) (y:=wv p i a q) (by omega);rw [Sd] at Jq;have h4:B1<(a:Int)+tB p t (kX p i a q):=f2 a q (Or.inr ⟨rfl,show (q:Int)<(n:Int) by omega⟩) (by omega) f1 Jq;rw [<-TG (Sd a q) Jq,e] at h4;omega
 rw [hmw,Aja t1 a i (hTa a),<-hlw];unfold ao;rw [cn];rfl
end
end Go.Proofs.Ytfgfigkbgecfnaa
