/-
  Part 45 of the proof that the statement FnExactPhaseTwoWord holds.
-/
import Derived.Test.YtebabhocakedaaaCPhaseTwoWord43
namespace Go.Proofs.Ytebabhocakedaaa
open Go.RowKit
noncomputable abbrev Jq:Bl:=mkM [none] [(false, .dat tLO)] false [none] [.row tI 2] (fun x=>List.length x.1≤20) (fun x=>((Gx x.1,()),()))
noncomputable abbrev Om:Spec:=mkS (.pair tL (.pair tL .unit)) tO false true (fun x=>(0<x.1.length∧x.1.length≤20)∧Nu x.2.1.length x.1) (fun x=>some (Aa x.1 x.2.1))
noncomputable abbrev Xu:Spec:=mkS (.pair tL (.pair tL .unit)) tL false false (fun x=>x.1.length≤20∧Nu x.2.1.length x.1) (fun x=>Aa x.1 x.2.1)
noncomputable abbrev Ms:Spec:=mkS (.pair tI .unit) tL false true (fun x=>0≤x.1∧x.1≤20) (fun x=>upto x.1.toNat)
noncomputable abbrev Tw:Spec:=mkS (.pair tI .unit) tO false true (fun x=>1≤x.1∧x.1≤20) (fun x=>some (upto x.1.toNat))
abbrev teG:TypeId:=22
structure Ajp (N L:Nat) (n:Int) (G T:Cw) (l:Int) (p:List Int):Prop where
 n1:1≤N
 n2:N≤20
 en:n=N
 el:l=L
 le:L≤N
 v:V N (N-L) L (G,T)
 pm:Pm N p
 fx:Fx L p
noncomputable abbrev Ape:Spec:=mkS (.pair (.ptr Asa) (.pair tI (.pair tL .unit))) .bool false true (fun x=> ∃N L,Ajp N L x.1.1 x.1.2.1 x.1.2.2.1 x.2.1 x.2.2.1) (fun x=>Hw x.1.2.2.1 (x.1.1-x.2.1).toNat x.2.1.toNat x.2.2.1)
noncomputable abbrev Bgq:Bl:= {ptr:=some (143,3),shapes:= [none,none],ins:= [(false, .dat tI),(false, .grid tO teG true),(false, .grid tO teG true),(false, .dat tI),(false, .dat tO)],multi:=false,rshapes:= [],outs:= [.dat tI, .grid tO teG false, .grid tO teG false],fn:=fun _=>none,keeps:= [(1,1),(2,2)],Cr:=fun x=>x.2.2.2.1.toNat}
noncomputable abbrev Mq (m:Nat):Bl:=mkK Bgq (fun x=>(∃N L q,x.2.2.2.2.1=some q∧Ajp N L x.1 x.2.1 x.2.2.1 x.2.2.2.1 q)∧(x.1-x.2.2.2.1).toNat<m)
 (fun x=>((x.1,(Di (x.1-x.2.2.2.1).toNat x.2.2.2.1.toNat (x.2.2.2.2.1.getD []) (x.2.1,x.2.2.1)).1,(Di (x.1-x.2.2.2.1).toNat x.2.2.2.1.toNat (x.2.2.2.2.1.getD []) (x.2.1,x.2.2.1)).2,()),()))
theorem Aw7 (n:Int) (P:List Int→Prop):(((0:Int)≤n∧n<(↑Ap:Int)+(1:Int))∧
 n=n∧
 (0:Nat)=(0:Nat)∧
 (List.replicate n.toNat (Int.ofNat (nat_lit 0))).length=(List.replicate n.toNat (Int.ofNat (nat_lit 0))).length∧
 Bx
 (fun (v2:Int×List Int×PUnit) (k3:Int×List Int×PUnit→Prop)=>
 Br (decide (v2.1<(↑(List.replicate n.toNat (Int.ofNat (nat_lit 0))).length:Int)))
 (((0:Int)≤v2.1∧v2.1<(↑v2.2.1.length:Int))∧
 (0:Nat)+v2.1.toNat<v2.2.1.length∧
 (0:Nat)=(0:Nat)∧
 v2.2.1.length=(v2.2.1.set ((0:Nat)+v2.1.toNat) v2.1).length∧k3 (IntKind.i64.wrap (v2.1+(1:Int)),v2.2.1.set ((0:Nat)+v2.1.toNat) v2.1,()))
 (P (List.take v2.2.1.length (List.drop ((0:Nat)) v2.2.1))))
 ((0:Int),List.replicate n.toNat (Int.ofNat (nat_lit 0)),PUnit.unit))=fnW tab (look []) Ms Try.f110 (n,()) P:=by kernel_rfl
theorem Bcg (row:List (Option (List Int))) (P:(List Int×Unit)×Unit→Prop):((0:Nat)=(0:Nat)∧
 (0:Nat)=([]:List Int).length∧
 Bx
 (fun (v2:Int×List Int×PUnit) (k3:Int×List Int×PUnit→Prop)=>
 Br (decide (v2.1<(↑row.length:Int)))
 (∃(y4:Option (List Int)),
 idx row v2.1=some y4∧
 Br (!y4.isNone)
 ((0:Nat)=(0:Nat)∧
 v2.2.1.length=v2.2.1.length∧
 v2.2.1.length+(List.take (1:Nat) (List.drop (0:Nat) [v2.1])).length≤Ap∧
 (0:Nat)=(0:Nat)∧
 (v2.2.1++List.take (1:Nat) (List.drop (0:Nat) [v2.1])).length=(v2.2.1++List.take (1:Nat) (List.drop (0:Nat) [v2.1])).length∧
 k3 (IntKind.i64.wrap (v2.1+(1:Int)),v2.2.1++List.take (1:Nat) (List.drop (0:Nat) [v2.1]),()))
 ((0:Nat)=(0:Nat)∧v2.2.1.length=v2.2.1.length∧k3 (IntKind.i64.wrap (v2.1+(1:Int)),v2.2.1,())))
 (P ((List.take v2.2.1.length (List.drop ((0:Nat)) v2.2.1),()),())))
 ((0:Int),[],PUnit.unit))=Hy Re (look []) Jq Try.f172 (row,()) P:=by kernel_rfl
theorem Bit (c:Int×List (List (Option (List Int)))×List (List (Option (List Int)))×Unit) (l:Int) (p:List Int) (P:Bool→Prop):(Bx
 (fun (v4:List Int×Int×PUnit) (k5:List Int×Int×PUnit→Prop)=>
 Br (decide (v4.2.1<c.1))
 (∃(y6:List (Option (List Int))),
 idx c.2.2.1 v4.2.1=some y6∧
 ∃(y7:Int),
 idx v4.1 v4.2.1=some y7∧
 ∃(y8:Option (List Int)),
 idx y6 y7=some y8∧
 Br y8.isNone (P false)
 (∃(y9:List Int),
 Ea.fn (y8.getD [],())=some y9∧ ∃(y10:List Int),Xu.fn (v4.1,y9,())=some y10∧k5 (y10,IntKind.i64.wrap (v4.2.1+(1:Int)),())))
 (P true))
 (p,l,PUnit.unit))=fnW Re (look [(165,Ea),(131,Xu)]) Ape Try.f180 (c,l,p,()) P:=by kernel_rfl
theorem Sound.loose {P:Program} {f:FuncId} {arg res:Ty} {pre:arg.den→Prop} {val:arg.den→res.den} (h:Sound P f (Go.Proofs.Ytebabhocakedaaa.mkS arg res false true pre val)):Sound P f (Go.Proofs.Ytebabhocakedaaa.mkS arg res false false pre val):=
 ⟨h.enter,fun w S vs x y h1 h2 h3=>Calls.mono (h.calls w S vs x y h1 h2 h3) fun e' w' hr=>by
  obtain ⟨v,g1,g2,g3⟩:=hr
  exact ⟨v,g1,g2,Bd.Ei (S:=fun b=>S b∨(true=true∧b<w.heap.size)) g3 fun k _ hk=>hk.elim .inl fun hh=>absurd (show false=true from hh.1) (by simp)⟩⟩
theorem Alv:Sound Try.prog 131 Xu:=Sound.loose Nm
theorem Alw:Sound Try.prog 131 Om:=Sound.toO Nm fun x h=>⟨⟨h.1.2,h.2⟩,fun e=>by
 have:=Mi x.1 x.2.1
 rw [e] at this
 have:=h.1.1
 simp only [List.length_nil] at*
 omega⟩
theorem Av2 (n:Int) (h:0≤n∧n≤20):fnW tab (look []) Ms Try.f110 (n,()) (fun (z:List Int)=>z=upto n.toNat):=by
 refine Eq.mp (Aw7 n _) ⟨⟨by omega,by show n<(4294967296:Int)+1;omega⟩,rfl,rfl,rfl,?_⟩
 refine Ao n.toNat (fun v=>v.1) (fun j v=>v.2.1.length=n.toNat∧v.2.1.take j=upto j) rfl ⟨by simp,by simp [upto]⟩ ?_
 rintro j ⟨i,ys,⟨⟩⟩ K hj hi ⟨h1,h2⟩ hK
 dsimp only at hi h1 h2⊢
 subst hi
 rw [List.length_replicate]
 simp only [Int.toNat_natCast,Nat.zero_add]
 refine Br.dec (fun hl=>⟨⟨by omega,by omega⟩,by omega,trivial,by rw [List.length_set],?_⟩) fun hl=>?_
 ·rw [An (by omega)]
  refine hK (by omega) _ rfl ⟨by rw [List.length_set];exact h1,?_⟩
  rw [List.take_add_one,List.take_set_of_le (by omega),h2,List.getElem?_set_self (by omega),Wh]
  rfl
 ·have:j=ys.length:=by omega
  subst this
  rw [List.take_length] at h2
  rw [List.drop_zero,List.take_length,h2,h1]
theorem Yy:Sound Try.prog 110 Ms:=
 Sound.mkS Cc As mixed Try.func110 (by kernel_rfl) (by kernel_rfl) fun x h=>Av2 x.1 h
theorem Bga {n:Int} (h:1≤n∧n≤20):(0≤n∧n≤20)∧upto n.toNat≠ []:=⟨by omega,fun e=>by
 have:=congrArg List.length e
 simp [upto] at this
 omega⟩
theorem Aj4:Sound Try.prog 110 Tw:=Sound.toO Yy fun x h=>Bga h
theorem Aux {row:Row} {j:Nat} :(upto (j+1)).filter (fun y=>(row.getD y.toNat none).isSome)=(upto j).filter (fun y=>(row.getD y.toNat none).isSome)++if (row.getD j none).isSome=true then [(j:Int)] else []:=by
 rw [Wh,List.filter_append]
 congr 1
 simp only [List.filter_cons,List.filter_nil,Int.toNat_natCast]
theorem Bbd (row:List (Option (List Int))) (h:List.length row≤20):Hy Re (look []) Jq Try.f172 (row,()) (fun (z:(List Int×Unit)×Unit)=>z=((Gx row,()),())):=by
 refine Eq.mp (Bcg row _) ⟨rfl,rfl,?_⟩
 refine Ao row.length (fun v=>v.1) (fun j v=>v.2.1=(upto j).filter (fun y=>(row.getD y.toNat none).isSome)) rfl rfl ?_
 rintro j ⟨i,ys,⟨⟩⟩ K hj hi h1 hK
 dsimp only at hi h1⊢
 subst hi
 refine Br.dec (fun hl=>?_) fun hl=>?_
 ·have hl:j<row.length:=by omega
  have hlen:ys.length≤j:=by rw [h1];refine Nat.le_trans (List.length_filter_le _ _) (by simp [upto])
  have hg:row.getD j none=row[j]:=by rw [List.getD_eq_getElem?_getD,List.getElem?_eq_getElem hl];rfl
  refine ⟨_,Aw hl,Br.of (fun hb=>⟨rfl,rfl,?_,rfl,rfl,?_⟩) fun hb=>⟨rfl,rfl,?_⟩⟩
  ·show ys.length+1≤4294967296
   omega
  ·rw [An (by omega)]
   refine hK hl _ rfl ?_
   show ys++ [(j:Int)]=_
   rw [Aux,hg,h1,if_pos (by cases e:row[j] with
    |none=>rw [e] at hb;simp at hb
    |some t=>rfl)]
  ·rw [An (by omega)]
   refine hK hl _ rfl ?_
   show ys=_
   rw [Aux,hg,h1,if_neg (by cases e:row[j] with
    |none=>simp
    |some t=>rw [e] at hb;simp at hb),List.append_nil]
 ·have:j=row.length:=by omega
  subst this
  rw [List.drop_zero,List.take_length,h1]
  rfl
theorem Acw:Bn Try.prog 172 Jq:=
 Bn.mkM Aho As mixed Try.func172 (by kernel_rfl) (by kernel_rfl) fun x h=>Bbd x.1 h
theorem Aeo {n:Nat} {s:Cw×Cw} : ∀(k l:Nat),Adc n k l s→ ∀i,l≤i→i<l+k→Lvl n i (s.1.getD i []) (s.2.getD i []) (fun q=>Hw s.2 (l+k-i-1) (i+1) q=true)
 |0,_,_,i,h1,h2=>by omega
 |k+1,l,hc,i,h1,h2=>by
  obtain ⟨c1,c2,_⟩:=hc
  by_cases e:i=l
  ·subst e
   rw [show i+(k+1)-i-1=k by omega]
   exact c2
  ·have:=Aeo k (l+1) c1 i (by omega) (by omega)
   rwa [show l+1+k-i-1=l+(k+1)-i-1 by omega] at this
theorem Atx {α:Type} {xs:List (List α)} {i:Nat} (h:i<xs.length):xs.getD i []=xs[i]:=by
 rw [List.getD_eq_getElem?_getD,List.getElem?_eq_getElem h];rfl
theorem Bd3 {α:Type} {xs:List (Option α)} {i:Nat} (h:i<xs.length):xs.getD i none=xs[i]:=by
 rw [List.getD_eq_getElem?_getD,List.getElem?_eq_getElem h];rfl
theorem Pm.row {n:Nat} {p:List Int} (h:Pm n p):Nu n p:=by
 have:=h.2.row
 rwa [h.1] at this
theorem Bif (c:Int×List (List (Option (List Int)))×List (List (Option (List Int)))×Unit) (l:Int) (p:List Int) (h: ∃N L,Ajp N L c.1 c.2.1 c.2.2.1 l p):
  fnW Re (look [(165,Ea),(131,Xu)]) Ape Try.f180 (c,l,p,()) (fun (z:Bool)=>z=Hw c.2.2.1 (c.1-l).toNat l.toNat p):=by
 obtain ⟨n,G,T,⟨⟩⟩:=c
 obtain ⟨N,L,h⟩:=h
 obtain ⟨n1,n2,en,el,hle,v,pm,fx⟩:=h
 dsimp only at en el v⊢
 subst en el
 refine Eq.mp (Bit ((N:Int),G,T,()) (L:Int) p _) ?_
 obtain ⟨v1,v2,v3,v4⟩:=v
 dsimp only at v1 v2
 refine ⟨fun v=> ∃i:Nat,L≤i∧i≤N∧v.2.1=i∧Pm N v.1∧Fx i v.1∧Hw T (N-i) i v.1=Hw T (N-L) L p,fun v=>N-v.2.1.toNat,⟨L,Nat.le_refl _,hle,rfl,pm,fx,rfl⟩,?_⟩
 rintro ⟨p',i',⟨⟩⟩ ⟨i,h1,h2,h3,h4,h5,h6⟩
 dsimp only at h3 h4 h5 h6⊢
 subst h3
 rw [show (((N:Int)-(L:Int)).toNat)=N-L by omega,show ((L:Int)).toNat=L by omega,←h6]
 refine Br.dec (fun hl=>?_) fun hl=>?_
 ·have hl:i<N:=by omega
  have hrow:=Aeo (N-L) L v3 i h1 (by omega)
  obtain ⟨a1,a2⟩:=h4.at' hl
  have hT:i<T.length:=by omega
  have hlen:T[i].length=N:=by have:=hrow.rl;dsimp only at this;rwa [Atx hT] at this
  refine ⟨_,Aw hT,_,Aw (by rw [h4.1];exact hl),?_⟩
  have e1:p'[i]'(by rw [h4.1];exact hl)=(ap p' i:Int):=by rw [←a1,He]
  rw [e1]
  refine ⟨_,Aw (by omega),?_⟩
  have e2:N-i=(N-i-1)+1:=by omega
  have e3:(T.getD i []).getD (Bv p' (i:Int)).toNat none=T[i][ap p' i]'(by omega):=by
   rw [Atx hT];exact Bd3 (by show ap p' i<_;omega)
  rw [e2]
  simp only [Hw,e3]
  refine Br.of (fun hb=>?_) fun hb=>?_
  ·cases e:T[i][ap p' i]'(by omega) with
   |none=>rfl
   |some t=>rw [e] at hb;simp at hb
  ·cases e:T[i][ap p' i]'(by omega) with
   |none=>rw [e] at hb;simp at hb
   |some t=>
    have ht:(T.getD i []).getD (ap p' i) none=some t:=by rw [←e];exact e3
    obtain ⟨t1,t2,t3,t4⟩:=hrow.rt _ _ ht
    simp only [Option.getD_some]
    refine ⟨_,if_pos ⟨by show t.length≤20;rw [t1.1];exact n2,t1.2.row⟩,_,if_pos ⟨by show p'.length≤20;rw [h4.1];exact n2,by show Nu (Ak t).length p';rw [Ajk,t1.1];exact h4.row⟩,⟨i+1,by omega,by omega,An (by omega),h4.comp t1.inv,Fx.div h4 t1 h5 t2 hl t3,?_⟩,?_⟩
    ·rw [show N-(i+1)=N-i-1 by omega]
    ·show N-(IntKind.i64.wrap ((i:Int)+1)).toNat<N-((i:Int)).toNat
     rw [An (by omega)]
     omega
 ·rw [show N-i=0 by omega]
  rfl
theorem Bbt:Sound Try.prog 180 Ape:=
 Sound.mkS Aho (Ag Nn (Ag Alv As)) mixed Try.func180 (by kernel_rfl) (by kernel_rfl) fun x h=>Bif x.1 x.2.1 x.2.2.1 h
end Go.Proofs.Ytebabhocakedaaa

namespace Go.Proofs.Ytebabhocakedaaa
open Go.RowKit
theorem Bio {m:Nat} (n:Int) (G T:List (List (Option (List Int)))) (l:Int) (p:Option (List Int)) (P:(Int×List (List (Option (List Int)))×List (List (Option (List Int)))×Unit)×Unit→Prop):(∃(y7:Bool),
 Ape.fn ((n,List.take G.length (List.drop (0:Nat) G),List.take T.length (List.drop (0:Nat) T),()),l,p.getD [],())=some y7∧
 Br y7
 (((0:Nat)=(0:Nat)∧G.length=G.length)∧
 ((0:Nat)=(0:Nat)∧T.length=T.length)∧
 (Mq (m+(1:Nat))).Cr (n,G,T,l,p,())≤G.length∧(Mq (m+(1:Nat))).Cr (n,G,T,l,p,())≤T.length∧P ((n,G,T,()),()))
 (((0:Int)≤l∧l<(↑G.length:Int))∧
 (0:Nat)=(0:Nat)∧
 (G.getD ((0:Nat)+l.toNat) []).length=(G.getD ((0:Nat)+l.toNat) []).length∧
 (G.getD ((0:Nat)+l.toNat) []).length+(List.take (1:Nat) (List.drop (0:Nat) [p])).length≤Ap∧
 ((0:Int)≤l∧l<(↑G.length:Int))∧
 (0:Nat)=(0:Nat)∧
 (G.getD ((0:Nat)+l.toNat) []++List.take (1:Nat) (List.drop (0:Nat) [p])).length=
 (G.getD ((0:Nat)+l.toNat) []++List.take (1:Nat) (List.drop (0:Nat) [p])).length∧
 (0:Nat)+l.toNat=(0:Nat)+l.toNat∧
 (((0:Int)≤l∧l<(↑T.length:Int))∧
 ∃(y8:(List Int×PUnit)×PUnit),
 Jq.fn (T.getD ((0:Nat)+l.toNat) [],())=some y8∧
 (0:Nat)=(0:Nat)∧
 (List.take y8.1.1.length (List.drop (0:Nat) y8.1.1)).length=(List.take y8.1.1.length (List.drop (0:Nat) y8.1.1)).length∧
 (0:Nat)=(0:Nat)∧
 G.length=(G.set ((0:Nat)+l.toNat) (G.getD ((0:Nat)+l.toNat) []++List.take (1:Nat) (List.drop (0:Nat) [p]))).length∧
 (0:Nat)=(0:Nat)∧
 T.length=T.length∧
 Bx
 (fun (v9:Nat×List (List (Option (List Int)))×Nat×List (List (Option (List Int)))×Nat×List Int×Int×PUnit)
 (k10:Nat×List (List (Option (List Int)))×Nat×List (List (Option (List Int)))×Nat×List Int×Int×PUnit→Prop)=>
 Br (decide ((↑v9.2.2.2.2.2.1.length:Int)>(0:Int)))
 (((0:Int)≤l∧l<(↑v9.2.1.length:Int))∧
 (0:Nat)=(0:Nat)∧
 (List.take v9.2.2.2.2.2.1.length (List.drop ((0:Nat)) v9.2.2.2.2.2.1)).length=
 (List.take v9.2.2.2.2.2.1.length (List.drop ((0:Nat)) v9.2.2.2.2.2.1)).length∧
 (0:Nat)=(0:Nat)∧
 v9.2.1.length=v9.2.1.length∧
 (0:Nat)=(0:Nat)∧
 v9.2.2.2.1.length=v9.2.2.2.1.length∧
 Bx
 (fun (v11:Nat×Nat×Int×List (List (Option (List Int)))×Nat×List (List (Option (List Int)))×Nat×List Int×Int×PUnit)
 (k12:
 Nat×Nat×Int×List (List (Option (List Int)))×Nat×List (List (Option (List Int)))×Nat×List Int×Int×PUnit→
 Prop)=>
 Br (decide (v11.2.2.1<(↑(v9.2.1.getD ((0:Nat)+l.toNat) []).length:Int)))
 (((0:Int)≤v11.2.2.1∧v11.2.2.1<(↑(v11.2.2.2.1.getD v11.2.1 []).length:Int))∧
 ((0:Int)≤(0:Int)∧(0:Int)<(↑v11.2.2.2.2.2.2.2.1.length:Int))∧
 ∃(y13:Int),
 v11.2.2.2.2.2.2.2.1[(0:Nat)+Int.toNat (0:Int)]?=some y13∧
 ∃(y14:Int),
 idx (((v11.2.2.2.1.getD v11.2.1 []).getD v11.2.2.1.toNat none).getD []) y13=some y14∧
 ((0:Int)≤y14∧y14<(↑(v11.2.2.2.2.2.1.getD v11.1 []).length:Int))∧
 Br ((v11.2.2.2.2.2.1.getD v11.1 []).getD y14.toNat none).isNone
 (((0:Int)≤(0:Int)∧(0:Int)<(↑v11.2.2.2.2.2.2.2.1.length:Int))∧
 ∃(y15:Int),
 v11.2.2.2.2.2.2.2.1[(0:Nat)+Int.toNat (0:Int)]?=some y15∧
 ((0:Int)≤y15∧y15<(↑(v11.2.2.2.2.2.1.getD v11.1 []).length:Int))∧
 ∃(y16:Option (List Int)),
 Om.fn
 (((v11.2.2.2.2.2.1.getD v11.1 []).getD y15.toNat none).getD [],
 ((v11.2.2.2.1.getD v11.2.1 []).getD v11.2.2.1.toNat none).getD [],())=
 some y16∧
 ((0:Int)≤y14∧y14<(↑(v11.2.2.2.2.2.1.getD v11.1 []).length:Int))∧
 (0:Nat)=(0:Nat)∧
 v11.2.2.2.2.2.2.2.1.length=v11.2.2.2.2.2.2.2.1.length∧
 v11.2.2.2.2.2.2.2.1.length+(List.take (1:Nat) (List.drop (0:Nat) [y14])).length≤
 Ap∧
 (0:Nat)=(0:Nat)∧
 (List.take
 (v11.2.2.2.2.2.2.2.1++
 List.take (1:Nat) (List.drop (0:Nat) [y14])).length
 (List.drop (0:Nat)
 (v11.2.2.2.2.2.2.2.1++
 List.take (1:Nat) (List.drop (0:Nat) [y14])))).length=
 (List.take
 (v11.2.2.2.2.2.2.2.1++
 List.take (1:Nat) (List.drop (0:Nat) [y14])).length
 (List.drop (0:Nat)
 (v11.2.2.2.2.2.2.2.1++
 List.take (1:Nat) (List.drop (0:Nat) [y14])))).length∧
 (0:Nat)=(0:Nat)∧
 v11.2.2.2.1.length=v11.2.2.2.1.length∧
 (0:Nat)=(0:Nat)∧
 v11.2.2.2.2.2.1.length=
 (v11.2.2.2.2.2.1.set v11.1
 ((v11.2.2.2.2.2.1.getD v11.1 []).set y14.toNat y16)).length∧
 k12
 (v11.1,v11.2.1,IntKind.i64.wrap (v11.2.2.1+(1:Int)),
 v11.2.2.2.1,v11.2.2.2.2.1,
 v11.2.2.2.2.2.1.set v11.1
 ((v11.2.2.2.2.2.1.getD v11.1 []).set y14.toNat y16),
 v11.2.2.2.2.2.2.1,
 List.take
 (v11.2.2.2.2.2.2.2.1++
 List.take (1:Nat) (List.drop (0:Nat) [y14])).length
 (List.drop (0:Nat)
 (v11.2.2.2.2.2.2.2.1++
 List.take (1:Nat) (List.drop (0:Nat) [y14]))),
 v11.2.2.2.2.2.2.2.2.1,()))
 ((0:Nat)=(0:Nat)∧
 (List.take v11.2.2.2.2.2.2.2.1.length (List.drop ((0:Nat)) v11.2.2.2.2.2.2.2.1)).length=
 (List.take v11.2.2.2.2.2.2.2.1.length (List.drop ((0:Nat)) v11.2.2.2.2.2.2.2.1)).length∧
 (0:Nat)=(0:Nat)∧
 v11.2.2.2.1.length=v11.2.2.2.1.length∧
 (0:Nat)=(0:Nat)∧
 v11.2.2.2.2.2.1.length=v11.2.2.2.2.2.1.length∧
 k12
 (v11.1,v11.2.1,IntKind.i64.wrap (v11.2.2.1+(1:Int)),v11.2.2.2.1,
 v11.2.2.2.2.1,v11.2.2.2.2.2.1,v11.2.2.2.2.2.2.1,
 List.take v11.2.2.2.2.2.2.2.1.length (List.drop ((0:Nat)) v11.2.2.2.2.2.2.2.1),
 v11.2.2.2.2.2.2.2.2.1,())))
 (((0:Int)≤(1:Int)∧
 (1:Int)≤(↑v11.2.2.2.2.2.2.2.1.length:Int)∧
 (↑v11.2.2.2.2.2.2.2.1.length:Int)≤(↑v11.2.2.2.2.2.2.2.1.length:Int))∧
 (0:Nat)=(0:Nat)∧
 (List.take ((↑v11.2.2.2.2.2.2.2.1.length:Int).toNat-Int.toNat (1:Int))
 (List.drop ((0:Nat)+Int.toNat (1:Int)) v11.2.2.2.2.2.2.2.1)).length=
 (List.take ((↑v11.2.2.2.2.2.2.2.1.length:Int).toNat-Int.toNat (1:Int))
 (List.drop ((0:Nat)+Int.toNat (1:Int)) v11.2.2.2.2.2.2.2.1)).length∧
 (0:Nat)=(0:Nat)∧
 v11.2.2.2.1.length=v11.2.2.2.1.length∧
 (0:Nat)=(0:Nat)∧
 v11.2.2.2.2.2.1.length=v11.2.2.2.2.2.1.length∧
 k10
 (v11.1,v11.2.2.2.1,v11.2.2.2.2.1,v11.2.2.2.2.2.1,v11.2.2.2.2.2.2.1,
 List.take ((↑v11.2.2.2.2.2.2.2.1.length:Int).toNat-Int.toNat (1:Int))
 (List.drop ((0:Nat)+Int.toNat (1:Int)) v11.2.2.2.2.2.2.2.1),
 v11.2.2.2.2.2.2.2.2.1,())))
 (v9.1,(0:Nat)+l.toNat,(0:Int),v9.2.1,v9.2.2.1,v9.2.2.2.1,v9.2.2.2.2.1,
 List.take v9.2.2.2.2.2.1.length (List.drop ((0:Nat)) v9.2.2.2.2.2.1),v9.2.2.2.2.2.2.1,PUnit.unit))
 (∃(y11:(List Int×PUnit)×PUnit),
 Jq.fn (v9.2.2.2.1.getD v9.1 [],())=some y11∧
 (0:Nat)=(0:Nat)∧
 y11.1.1.length=y11.1.1.length∧
 (0:Nat)=(0:Nat)∧
 v9.2.1.length=v9.2.1.length∧
 (0:Nat)=(0:Nat)∧
 v9.2.2.2.1.length=v9.2.2.2.1.length∧
 Bx
 (fun (v12:Nat×Int×List (List (Option (List Int)))×Nat×List (List (Option (List Int)))×Nat×List Int×Int×PUnit)
 (k13:
 Nat×Int×List (List (Option (List Int)))×Nat×List (List (Option (List Int)))×Nat×List Int×Int×PUnit→Prop)=>
 Br (decide (v12.2.1<(↑y11.1.1.length:Int)))
 (((0:Int)≤v12.2.1∧v12.2.1<(↑v12.2.2.2.2.2.2.1.length:Int))∧
 ∃(y14:Int),
 v12.2.2.2.2.2.2.1[(0:Nat)+v12.2.1.toNat]?=some y14∧
 ((0:Int)≤l∧l<(↑v12.2.2.1.length:Int))∧
 (0:Nat)=(0:Nat)∧
 v12.2.2.2.2.2.2.1.length=v12.2.2.2.2.2.2.1.length∧
 (0:Nat)=(0:Nat)∧
 v12.2.2.1.length=v12.2.2.1.length∧
 (0:Nat)=(0:Nat)∧
 v12.2.2.2.2.1.length=v12.2.2.2.2.1.length∧
 Bx
 (fun
 (v15:
 Nat×
 Nat×
 Int×
 List (List (Option (List Int)))×
 Nat×List (List (Option (List Int)))×Nat×List Int×Int×PUnit)
 (k16:
 Nat×
 Nat×
 Int×
 List (List (Option (List Int)))×
 Nat×List (List (Option (List Int)))×Nat×List Int×Int×PUnit→
 Prop)=>
 Br (decide (v15.2.2.1<(↑(v12.2.2.1.getD ((0:Nat)+l.toNat) []).length:Int)))
 (((0:Int)≤v15.2.2.1∧v15.2.2.1<(↑(v15.2.2.2.1.getD v15.2.1 []).length:Int))∧
 ((0:Int)≤y14∧y14<(↑(v15.2.2.2.2.2.1.getD v15.1 []).length:Int))∧
 ∃(y17:Option (List Int)),
 Om.fn
 (((v15.2.2.2.2.2.1.getD v15.1 []).getD y14.toNat none).getD [],
 ((v15.2.2.2.1.getD v15.2.1 []).getD v15.2.2.1.toNat none).getD [],())=
 some y17∧
 ∃(y18:Int),
 idx (((v15.2.2.2.1.getD v15.2.1 []).getD v15.2.2.1.toNat none).getD []) y14=
 some y18∧
 ((0:Int)≤y18∧y18<(↑(v15.2.2.2.2.2.1.getD v15.1 []).length:Int))∧
 ∃(y19:List Int),
 Ea.fn
 (((v15.2.2.2.2.2.1.getD v15.1 []).getD y18.toNat none).getD [],())=
 some y19∧
 ∃(y20:Option (List Int)),
 Om.fn (y17.getD [],y19,())=some y20∧
 (0:Nat)=(0:Nat)∧
 v15.2.2.2.1.length=v15.2.2.2.1.length∧
 (0:Nat)=(0:Nat)∧
 v15.2.2.2.2.2.1.length=v15.2.2.2.2.2.1.length∧
 ∃(y21:
 (Int×
 List (List (Option (List Int)))×
 List (List (Option (List Int)))×PUnit)×
 PUnit),
 (Mq m).fn
 (v15.2.2.2.2.2.2.2.2.1,v15.2.2.2.1,
 v15.2.2.2.2.2.1,IntKind.i64.wrap (l+(1:Int)),y20,
 ())=
 some y21∧
 (v15.1<
 (Mq m).Cr
 (v15.2.2.2.2.2.2.2.2.1,v15.2.2.2.1,
 v15.2.2.2.2.2.1,IntKind.i64.wrap (l+(1:Int)),
 y20,())∧
 v15.1<(List.length y21.1.2.2.1))∧
 (v15.2.1<
 (Mq m).Cr
 (v15.2.2.2.2.2.2.2.2.1,v15.2.2.2.1,
 v15.2.2.2.2.2.1,IntKind.i64.wrap (l+(1:Int)),
 y20,())∧
 v15.2.1<(List.length y21.1.2.1))∧
 (v15.1<
 (Mq m).Cr
 (v15.2.2.2.2.2.2.2.2.1,v15.2.2.2.1,
 v15.2.2.2.2.2.1,IntKind.i64.wrap (l+(1:Int)),
 y20,())∧
 v15.1<(List.length y21.1.2.2.1))∧
 (v15.1<
 (Mq m).Cr
 (v15.2.2.2.2.2.2.2.2.1,v15.2.2.2.1,
 v15.2.2.2.2.2.1,
 IntKind.i64.wrap (l+(1:Int)),y20,())∧
 v15.1<
 (List.length y21.1.2.2.1))∧
 (0:Nat)=(0:Nat)∧
 v15.2.2.2.2.2.2.2.1.length=
 v15.2.2.2.2.2.2.2.1.length∧
 (0:Nat)=(0:Nat)∧
 y21.1.2.1.length=y21.1.2.1.length∧
 (0:Nat)=(0:Nat)∧
 y21.1.2.2.1.length=y21.1.2.2.1.length∧
 k16
 (v15.1,v15.2.1,
 IntKind.i64.wrap (v15.2.2.1+(1:Int)),
 y21.1.2.1,
 min v15.2.2.2.2.1
 ((Mq m).Cr
 (v15.2.2.2.2.2.2.2.2.1,
 v15.2.2.2.1,v15.2.2.2.2.2.1,
 IntKind.i64.wrap (l+(1:Int)),y20,
 ())),
 y21.1.2.2.1,
 min v15.2.2.2.2.2.2.1
 ((Mq m).Cr
 (v15.2.2.2.2.2.2.2.2.1,
 v15.2.2.2.1,v15.2.2.2.2.2.1,
 IntKind.i64.wrap (l+(1:Int)),y20,
 ())),
 v15.2.2.2.2.2.2.2.1,y21.1.1,()))
 ((0:Nat)=(0:Nat)∧
 v15.2.2.2.2.2.2.2.1.length=v15.2.2.2.2.2.2.2.1.length∧
 (0:Nat)=(0:Nat)∧
 v15.2.2.2.1.length=v15.2.2.2.1.length∧
 (0:Nat)=(0:Nat)∧
 v15.2.2.2.2.2.1.length=v15.2.2.2.2.2.1.length∧
 k13
 (v15.1,IntKind.i64.wrap (v12.2.1+(1:Int)),v15.2.2.2.1,v15.2.2.2.2.1,
 v15.2.2.2.2.2.1,v15.2.2.2.2.2.2.1,v15.2.2.2.2.2.2.2.1,
 v15.2.2.2.2.2.2.2.2.1,())))
 (v12.1,(0:Nat)+l.toNat,(0:Int),v12.2.2.1,v12.2.2.2.1,v12.2.2.2.2.1,
 v12.2.2.2.2.2.1,v12.2.2.2.2.2.2.1,v12.2.2.2.2.2.2.2.1,PUnit.unit))
 (((0:Nat)=(0:Nat)∧v12.2.2.1.length=v12.2.2.1.length)∧
 ((0:Nat)=(0:Nat)∧v12.2.2.2.2.1.length=v12.2.2.2.2.1.length)∧
 (Mq (m+(1:Nat))).Cr (n,G,T,l,p,())≤v12.2.2.2.1∧
 (Mq (m+(1:Nat))).Cr (n,G,T,l,p,())≤v12.2.2.2.2.2.1∧
 P ((v12.2.2.2.2.2.2.2.1,v12.2.2.1,v12.2.2.2.2.1,()),())))
 (v9.1,(0:Int),v9.2.1,v9.2.2.1,v9.2.2.2.1,v9.2.2.2.2.1,y11.1.1,v9.2.2.2.2.2.2.1,PUnit.unit)))
 ((0:Nat)+l.toNat,G.set ((0:Nat)+l.toNat) (G.getD ((0:Nat)+l.toNat) []++List.take (1:Nat) (List.drop (0:Nat) [p])),
 min G.length ((0:Nat)+l.toNat),T,T.length,List.take y8.1.1.length (List.drop (0:Nat) y8.1.1),n,PUnit.unit))∧
 (((((0:Int)≤l∧l<(↑G.length:Int))∧
 ((0:Nat)=(0:Nat)∧
 (G.getD ((0:Nat)+l.toNat) []).length=(G.getD ((0:Nat)+l.toNat) []).length∧
 (G.getD ((0:Nat)+l.toNat) []).length+(List.take (1:Nat) (List.drop (0:Nat) [p])).length≤Ap∧
 ((0:Int)≤l∧l<(↑G.length:Int))∧
 (0:Nat)=(0:Nat)∧
 (G.getD ((0:Nat)+l.toNat) []++List.take (1:Nat) (List.drop (0:Nat) [p])).length=
 (G.getD ((0:Nat)+l.toNat) []++List.take (1:Nat) (List.drop (0:Nat) [p])).length∧
 (0:Nat)+l.toNat=(0:Nat)+l.toNat∧
 [((0:Nat),G.length),((0:Nat),G.length),((0:Nat),G.length),((0:Nat),T.length)]=
 [((0:Nat),G.length),((0:Nat),G.length),((0:Nat),G.length),((0:Nat),T.length)]∧
 (l,p,l,p,y7,l,l,(0:Nat)+l.toNat,p,List.take (1:Nat) (List.drop (0:Nat) [p]),(0:Nat)+l.toNat,
 G.set ((0:Nat)+l.toNat) (G.getD ((0:Nat)+l.toNat) []++List.take (1:Nat) (List.drop (0:Nat) [p])),
 min G.length ((0:Nat)+l.toNat),T,T.length,n,())=
 (l,p,l,p,y7,l,l,(0:Nat)+l.toNat,p,List.take (1:Nat) (List.drop (0:Nat) [p]),(0:Nat)+l.toNat,
 G.set ((0:Nat)+l.toNat) (G.getD ((0:Nat)+l.toNat) []++List.take (1:Nat) (List.drop (0:Nat) [p])),
 min G.length ((0:Nat)+l.toNat),T,T.length,n,PUnit.unit))∧
 (0:Nat)=(0:Nat)∧
 (G.getD ((0:Nat)+l.toNat) []).length=(G.getD ((0:Nat)+l.toNat) []).length∧
 (G.getD ((0:Nat)+l.toNat) []).length+(List.take (1:Nat) (List.drop (0:Nat) [p])).length≤Ap∧
 ((0:Int)≤l∧l<(↑G.length:Int))∧
 (0:Nat)=(0:Nat)∧
 (G.getD ((0:Nat)+l.toNat) []++List.take (1:Nat) (List.drop (0:Nat) [p])).length=
 (G.getD ((0:Nat)+l.toNat) []++List.take (1:Nat) (List.drop (0:Nat) [p])).length∧
 (0:Nat)+l.toNat=(0:Nat)+l.toNat∧
 [((0:Nat),G.length),((0:Nat),G.length),((0:Nat),G.length),((0:Nat),T.length)]=
 [((0:Nat),G.length),((0:Nat),G.length),((0:Nat),G.length),((0:Nat),T.length)]∧
 (l,p,l,p,y7,l,l,(0:Nat)+l.toNat,p,List.take (1:Nat) (List.drop (0:Nat) [p]),(0:Nat)+l.toNat,
 G.set ((0:Nat)+l.toNat) (G.getD ((0:Nat)+l.toNat) []++List.take (1:Nat) (List.drop (0:Nat) [p])),
 min G.length ((0:Nat)+l.toNat),T,T.length,n,())=
 (l,p,l,p,y7,l,l,(0:Nat)+l.toNat,p,List.take (1:Nat) (List.drop (0:Nat) [p]),(0:Nat)+l.toNat,
 G.set ((0:Nat)+l.toNat) (G.getD ((0:Nat)+l.toNat) []++List.take (1:Nat) (List.drop (0:Nat) [p])),
 min G.length ((0:Nat)+l.toNat),T,T.length,n,PUnit.unit))∧
 ((0:Int)≤l∧l<(↑G.length:Int))∧
 (0:Nat)=(0:Nat)∧
 (G.getD ((0:Nat)+l.toNat) []).length=(G.getD ((0:Nat)+l.toNat) []).length∧
 (G.getD ((0:Nat)+l.toNat) []).length+(List.take (1:Nat) (List.drop (0:Nat) [p])).length≤Ap∧
 ((0:Int)≤l∧l<(↑G.length:Int))∧
 (0:Nat)=(0:Nat)∧
 (G.getD ((0:Nat)+l.toNat) []++List.take (1:Nat) (List.drop (0:Nat) [p])).length=
 (G.getD ((0:Nat)+l.toNat) []++List.take (1:Nat) (List.drop (0:Nat) [p])).length∧
 (0:Nat)+l.toNat=(0:Nat)+l.toNat∧
 [((0:Nat),G.length),((0:Nat),G.length),((0:Nat),G.length),((0:Nat),T.length)]=
 [((0:Nat),G.length),((0:Nat),G.length),((0:Nat),G.length),((0:Nat),T.length)]∧
 (l,p,l,p,y7,l,l,(0:Nat)+l.toNat,p,List.take (1:Nat) (List.drop (0:Nat) [p]),(0:Nat)+l.toNat,
 G.set ((0:Nat)+l.toNat) (G.getD ((0:Nat)+l.toNat) []++List.take (1:Nat) (List.drop (0:Nat) [p])),min G.length ((0:Nat)+l.toNat),
 T,T.length,n,())=
 (l,p,l,p,y7,l,l,(0:Nat)+l.toNat,p,List.take (1:Nat) (List.drop (0:Nat) [p]),(0:Nat)+l.toNat,
 G.set ((0:Nat)+l.toNat) (G.getD ((0:Nat)+l.toNat) []++List.take (1:Nat) (List.drop (0:Nat) [p])),min G.length ((0:Nat)+l.toNat),
 T,T.length,n,PUnit.unit))∧
 ((0:Int)≤l∧l<(↑G.length:Int))∧
 (0:Nat)=(0:Nat)∧
 (G.getD ((0:Nat)+l.toNat) []).length=(G.getD ((0:Nat)+l.toNat) []).length∧
 (G.getD ((0:Nat)+l.toNat) []).length+(List.take (1:Nat) (List.drop (0:Nat) [p])).length≤Ap∧
 ((0:Int)≤l∧l<(↑G.length:Int))∧
 (0:Nat)=(0:Nat)∧
 (G.getD ((0:Nat)+l.toNat) []++List.take (1:Nat) (List.drop (0:Nat) [p])).length=
 (G.getD ((0:Nat)+l.toNat) []++List.take (1:Nat) (List.drop (0:Nat) [p])).length∧
 (0:Nat)+l.toNat=(0:Nat)+l.toNat∧
 [((0:Nat),G.length),((0:Nat),G.length),((0:Nat),G.length),((0:Nat),T.length)]=
 [((0:Nat),G.length),((0:Nat),G.length),((0:Nat),G.length),((0:Nat),T.length)]∧
 (l,p,l,p,y7,l,l,(0:Nat)+l.toNat,p,List.take (1:Nat) (List.drop (0:Nat) [p]),(0:Nat)+l.toNat,
 G.set ((0:Nat)+l.toNat) (G.getD ((0:Nat)+l.toNat) []++List.take (1:Nat) (List.drop (0:Nat) [p])),min G.length ((0:Nat)+l.toNat),T,
 T.length,n,())=
 (l,p,l,p,y7,l,l,(0:Nat)+l.toNat,p,List.take (1:Nat) (List.drop (0:Nat) [p]),(0:Nat)+l.toNat,
 G.set ((0:Nat)+l.toNat) (G.getD ((0:Nat)+l.toNat) []++List.take (1:Nat) (List.drop (0:Nat) [p])),min G.length ((0:Nat)+l.toNat),T,
 T.length,n,PUnit.unit))∧
 (((((0:Int)≤l∧l<(↑G.length:Int))∧
 ((0:Nat)=(0:Nat)∧
 (G.getD ((0:Nat)+l.toNat) []).length=(G.getD ((0:Nat)+l.toNat) []).length∧
 (G.getD ((0:Nat)+l.toNat) []).length+(List.take (1:Nat) (List.drop (0:Nat) [p])).length≤Ap∧
 ((0:Int)≤l∧l<(↑G.length:Int))∧
 (0:Nat)=(0:Nat)∧
 (G.getD ((0:Nat)+l.toNat) []++List.take (1:Nat) (List.drop (0:Nat) [p])).length=
 (G.getD ((0:Nat)+l.toNat) []++List.take (1:Nat) (List.drop (0:Nat) [p])).length∧
 (0:Nat)+l.toNat=(0:Nat)+l.toNat∧
 [((0:Nat),G.length),((0:Nat),G.length),((0:Nat),G.length),((0:Nat),T.length)]=
 [((0:Nat),G.length),((0:Nat),G.length),((0:Nat),G.length),((0:Nat),T.length)]∧
 (l,p,l,p,y7,l,l,(0:Nat)+l.toNat,p,List.take (1:Nat) (List.drop (0:Nat) [p]),(0:Nat)+l.toNat,
 G.set ((0:Nat)+l.toNat) (G.getD ((0:Nat)+l.toNat) []++List.take (1:Nat) (List.drop (0:Nat) [p])),
 min G.length ((0:Nat)+l.toNat),T,T.length,n,())=
 (l,p,l,p,y7,l,l,(0:Nat)+l.toNat,p,List.take (1:Nat) (List.drop (0:Nat) [p]),(0:Nat)+l.toNat,
 G.set ((0:Nat)+l.toNat) (G.getD ((0:Nat)+l.toNat) []++List.take (1:Nat) (List.drop (0:Nat) [p])),
 min G.length ((0:Nat)+l.toNat),T,T.length,n,PUnit.unit))∧
 (0:Nat)=(0:Nat)∧
 (G.getD ((0:Nat)+l.toNat) []).length=(G.getD ((0:Nat)+l.toNat) []).length∧
 (G.getD ((0:Nat)+l.toNat) []).length+(List.take (1:Nat) (List.drop (0:Nat) [p])).length≤Ap∧
 ((0:Int)≤l∧l<(↑G.length:Int))∧
 (0:Nat)=(0:Nat)∧
 (G.getD ((0:Nat)+l.toNat) []++List.take (1:Nat) (List.drop (0:Nat) [p])).length=
 (G.getD ((0:Nat)+l.toNat) []++List.take (1:Nat) (List.drop (0:Nat) [p])).length∧
 (0:Nat)+l.toNat=(0:Nat)+l.toNat∧
 [((0:Nat),G.length),((0:Nat),G.length),((0:Nat),G.length),((0:Nat),T.length)]=
 [((0:Nat),G.length),((0:Nat),G.length),((0:Nat),G.length),((0:Nat),T.length)]∧
 (l,p,l,p,y7,l,l,(0:Nat)+l.toNat,p,List.take (1:Nat) (List.drop (0:Nat) [p]),(0:Nat)+l.toNat,
 G.set ((0:Nat)+l.toNat) (G.getD ((0:Nat)+l.toNat) []++List.take (1:Nat) (List.drop (0:Nat) [p])),
 min G.length ((0:Nat)+l.toNat),T,T.length,n,())=
 (l,p,l,p,y7,l,l,(0:Nat)+l.toNat,p,List.take (1:Nat) (List.drop (0:Nat) [p]),(0:Nat)+l.toNat,
 G.set ((0:Nat)+l.toNat) (G.getD ((0:Nat)+l.toNat) []++List.take (1:Nat) (List.drop (0:Nat) [p])),
 min G.length ((0:Nat)+l.toNat),T,T.length,n,PUnit.unit))∧
 ((0:Int)≤l∧l<(↑G.length:Int))∧
 (0:Nat)=(0:Nat)∧
 (G.getD ((0:Nat)+l.toNat) []).length=(G.getD ((0:Nat)+l.toNat) []).length∧
 (G.getD ((0:Nat)+l.toNat) []).length+(List.take (1:Nat) (List.drop (0:Nat) [p])).length≤Ap∧
 ((0:Int)≤l∧l<(↑G.length:Int))∧
 (0:Nat)=(0:Nat)∧
 (G.getD ((0:Nat)+l.toNat) []++List.take (1:Nat) (List.drop (0:Nat) [p])).length=
 (G.getD ((0:Nat)+l.toNat) []++List.take (1:Nat) (List.drop (0:Nat) [p])).length∧
 (0:Nat)+l.toNat=(0:Nat)+l.toNat∧
 [((0:Nat),G.length),((0:Nat),G.length),((0:Nat),G.length),((0:Nat),T.length)]=
 [((0:Nat),G.length),((0:Nat),G.length),((0:Nat),G.length),((0:Nat),T.length)]∧
 (l,p,l,p,y7,l,l,(0:Nat)+l.toNat,p,List.take (1:Nat) (List.drop (0:Nat) [p]),(0:Nat)+l.toNat,
 G.set ((0:Nat)+l.toNat) (G.getD ((0:Nat)+l.toNat) []++List.take (1:Nat) (List.drop (0:Nat) [p])),
 min G.length ((0:Nat)+l.toNat),T,T.length,n,())=
 (l,p,l,p,y7,l,l,(0:Nat)+l.toNat,p,List.take (1:Nat) (List.drop (0:Nat) [p]),(0:Nat)+l.toNat,
 G.set ((0:Nat)+l.toNat) (G.getD ((0:Nat)+l.toNat) []++List.take (1:Nat) (List.drop (0:Nat) [p])),
 min G.length ((0:Nat)+l.toNat),T,T.length,n,PUnit.unit))∧
 (((0:Int)≤l∧l<(↑G.length:Int))∧
 (((0:Nat)=(0:Nat)∧
 (G.getD ((0:Nat)+l.toNat) []).length=(G.getD ((0:Nat)+l.toNat) []).length∧
 (G.getD ((0:Nat)+l.toNat) []).length+(List.take (1:Nat) (List.drop (0:Nat) [p])).length≤Ap∧
 ((0:Int)≤l∧l<(↑G.length:Int))∧
 (0:Nat)=(0:Nat)∧
 (G.getD ((0:Nat)+l.toNat) []++List.take (1:Nat) (List.drop (0:Nat) [p])).length=
 (G.getD ((0:Nat)+l.toNat) []++List.take (1:Nat) (List.drop (0:Nat) [p])).length∧
 (0:Nat)+l.toNat=(0:Nat)+l.toNat∧
 [((0:Nat),G.length),((0:Nat),G.length),((0:Nat),G.length),((0:Nat),T.length)]=
 [((0:Nat),G.length),((0:Nat),G.length),((0:Nat),G.length),((0:Nat),T.length)]∧
 (l,p,l,p,y7,l,l,(0:Nat)+l.toNat,p,List.take (1:Nat) (List.drop (0:Nat) [p]),(0:Nat)+l.toNat,
 G.set ((0:Nat)+l.toNat) (G.getD ((0:Nat)+l.toNat) []++List.take (1:Nat) (List.drop (0:Nat) [p])),
 min G.length ((0:Nat)+l.toNat),T,T.length,n,())=
 (l,p,l,p,y7,l,l,(0:Nat)+l.toNat,p,List.take (1:Nat) (List.drop (0:Nat) [p]),(0:Nat)+l.toNat,
 G.set ((0:Nat)+l.toNat) (G.getD ((0:Nat)+l.toNat) []++List.take (1:Nat) (List.drop (0:Nat) [p])),
 min G.length ((0:Nat)+l.toNat),T,T.length,n,PUnit.unit))∧
 (0:Nat)=(0:Nat)∧
 (G.getD ((0:Nat)+l.toNat) []).length=(G.getD ((0:Nat)+l.toNat) []).length∧
 (G.getD ((0:Nat)+l.toNat) []).length+(List.take (1:Nat) (List.drop (0:Nat) [p])).length≤Ap∧
 ((0:Int)≤l∧l<(↑G.length:Int))∧
 (0:Nat)=(0:Nat)∧
 (G.getD ((0:Nat)+l.toNat) []++List.take (1:Nat) (List.drop (0:Nat) [p])).length=
 (G.getD ((0:Nat)+l.toNat) []++List.take (1:Nat) (List.drop (0:Nat) [p])).length∧
 (0:Nat)+l.toNat=(0:Nat)+l.toNat∧
 [((0:Nat),G.length),((0:Nat),G.length),((0:Nat),G.length),((0:Nat),T.length)]=
 [((0:Nat),G.length),((0:Nat),G.length),((0:Nat),G.length),((0:Nat),T.length)]∧
 (l,p,l,p,y7,l,l,(0:Nat)+l.toNat,p,List.take (1:Nat) (List.drop (0:Nat) [p]),(0:Nat)+l.toNat,
 G.set ((0:Nat)+l.toNat) (G.getD ((0:Nat)+l.toNat) []++List.take (1:Nat) (List.drop (0:Nat) [p])),
 min G.length ((0:Nat)+l.toNat),T,T.length,n,())=
 (l,p,l,p,y7,l,l,(0:Nat)+l.toNat,p,List.take (1:Nat) (List.drop (0:Nat) [p]),(0:Nat)+l.toNat,
 G.set ((0:Nat)+l.toNat) (G.getD ((0:Nat)+l.toNat) []++List.take (1:Nat) (List.drop (0:Nat) [p])),
 min G.length ((0:Nat)+l.toNat),T,T.length,n,PUnit.unit))∧
 (((0:Nat)=(0:Nat)∧
 (G.getD ((0:Nat)+l.toNat) []).length=(G.getD ((0:Nat)+l.toNat) []).length∧
 (G.getD ((0:Nat)+l.toNat) []).length+(List.take (1:Nat) (List.drop (0:Nat) [p])).length≤Ap∧
 ((0:Int)≤l∧l<(↑G.length:Int))∧
 (0:Nat)=(0:Nat)∧
 (G.getD ((0:Nat)+l.toNat) []++List.take (1:Nat) (List.drop (0:Nat) [p])).length=
 (G.getD ((0:Nat)+l.toNat) []++List.take (1:Nat) (List.drop (0:Nat) [p])).length∧
 (0:Nat)+l.toNat=(0:Nat)+l.toNat∧
 [((0:Nat),G.length),((0:Nat),G.length),((0:Nat),G.length),((0:Nat),T.length)]=
 [((0:Nat),G.length),((0:Nat),G.length),((0:Nat),G.length),((0:Nat),T.length)]∧
 (l,p,l,p,y7,l,l,(0:Nat)+l.toNat,p,List.take (1:Nat) (List.drop (0:Nat) [p]),(0:Nat)+l.toNat,
 G.set ((0:Nat)+l.toNat) (G.getD ((0:Nat)+l.toNat) []++List.take (1:Nat) (List.drop (0:Nat) [p])),
 min G.length ((0:Nat)+l.toNat),T,T.length,n,())=
 (l,p,l,p,y7,l,l,(0:Nat)+l.toNat,p,List.take (1:Nat) (List.drop (0:Nat) [p]),(0:Nat)+l.toNat,
 G.set ((0:Nat)+l.toNat) (G.getD ((0:Nat)+l.toNat) []++List.take (1:Nat) (List.drop (0:Nat) [p])),
 min G.length ((0:Nat)+l.toNat),T,T.length,n,PUnit.unit))∧
 ((0:Nat)=(0:Nat)∧
 (G.getD ((0:Nat)+l.toNat) []).length=(G.getD ((0:Nat)+l.toNat) []).length∧
 (G.getD ((0:Nat)+l.toNat) []).length+(List.take (1:Nat) (List.drop (0:Nat) [p])).length≤Ap∧
 ((0:Int)≤l∧l<(↑G.length:Int))∧
 (0:Nat)=(0:Nat)∧
 (G.getD ((0:Nat)+l.toNat) []++List.take (1:Nat) (List.drop (0:Nat) [p])).length=
 (G.getD ((0:Nat)+l.toNat) []++List.take (1:Nat) (List.drop (0:Nat) [p])).length∧
 (0:Nat)+l.toNat=(0:Nat)+l.toNat∧
 [((0:Nat),G.length),((0:Nat),G.length),((0:Nat),G.length),((0:Nat),T.length)]=
 [((0:Nat),G.length),((0:Nat),G.length),((0:Nat),G.length),((0:Nat),T.length)]∧
 (l,p,l,p,y7,l,l,(0:Nat)+l.toNat,p,List.take (1:Nat) (List.drop (0:Nat) [p]),(0:Nat)+l.toNat,
 G.set ((0:Nat)+l.toNat) (G.getD ((0:Nat)+l.toNat) []++List.take (1:Nat) (List.drop (0:Nat) [p])),
 min G.length ((0:Nat)+l.toNat),T,T.length,n,())=
 (l,p,l,p,y7,l,l,(0:Nat)+l.toNat,p,List.take (1:Nat) (List.drop (0:Nat) [p]),(0:Nat)+l.toNat,
 G.set ((0:Nat)+l.toNat) (G.getD ((0:Nat)+l.toNat) []++List.take (1:Nat) (List.drop (0:Nat) [p])),
 min G.length ((0:Nat)+l.toNat),T,T.length,n,PUnit.unit))∧
 (0:Nat)=(0:Nat)∧
 (G.getD ((0:Nat)+l.toNat) []).length=(G.getD ((0:Nat)+l.toNat) []).length∧
 (G.getD ((0:Nat)+l.toNat) []).length+(List.take (1:Nat) (List.drop (0:Nat) [p])).length≤Ap∧
 ((0:Int)≤l∧l<(↑G.length:Int))∧
 (0:Nat)=(0:Nat)∧
 (G.getD ((0:Nat)+l.toNat) []++List.take (1:Nat) (List.drop (0:Nat) [p])).length=
 (G.getD ((0:Nat)+l.toNat) []++List.take (1:Nat) (List.drop (0:Nat) [p])).length∧
 (0:Nat)+l.toNat=(0:Nat)+l.toNat∧
 [((0:Nat),G.length),((0:Nat),G.length),((0:Nat),G.length),((0:Nat),T.length)]=
 [((0:Nat),G.length),((0:Nat),G.length),((0:Nat),G.length),((0:Nat),T.length)]∧
 (l,p,l,p,y7,l,l,(0:Nat)+l.toNat,p,List.take (1:Nat) (List.drop (0:Nat) [p]),(0:Nat)+l.toNat,
 G.set ((0:Nat)+l.toNat) (G.getD ((0:Nat)+l.toNat) []++List.take (1:Nat) (List.drop (0:Nat) [p])),
 min G.length ((0:Nat)+l.toNat),T,T.length,n,())=
 (l,p,l,p,y7,l,l,(0:Nat)+l.toNat,p,List.take (1:Nat) (List.drop (0:Nat) [p]),(0:Nat)+l.toNat,
 G.set ((0:Nat)+l.toNat) (G.getD ((0:Nat)+l.toNat) []++List.take (1:Nat) (List.drop (0:Nat) [p])),
 min G.length ((0:Nat)+l.toNat),T,T.length,n,PUnit.unit))∧
 ((0:Nat)=(0:Nat)∧
 (G.getD ((0:Nat)+l.toNat) []).length=(G.getD ((0:Nat)+l.toNat) []).length∧
 (G.getD ((0:Nat)+l.toNat) []).length+(List.take (1:Nat) (List.drop (0:Nat) [p])).length≤Ap∧
 ((0:Int)≤l∧l<(↑G.length:Int))∧
 (0:Nat)=(0:Nat)∧
 (G.getD ((0:Nat)+l.toNat) []++List.take (1:Nat) (List.drop (0:Nat) [p])).length=
 (G.getD ((0:Nat)+l.toNat) []++List.take (1:Nat) (List.drop (0:Nat) [p])).length∧
 (0:Nat)+l.toNat=(0:Nat)+l.toNat∧
 [((0:Nat),G.length),((0:Nat),G.length),((0:Nat),G.length),((0:Nat),T.length)]=
 [((0:Nat),G.length),((0:Nat),G.length),((0:Nat),G.length),((0:Nat),T.length)]∧
 (l,p,l,p,y7,l,l,(0:Nat)+l.toNat,p,List.take (1:Nat) (List.drop (0:Nat) [p]),(0:Nat)+l.toNat,
 G.set ((0:Nat)+l.toNat) (G.getD ((0:Nat)+l.toNat) []++List.take (1:Nat) (List.drop (0:Nat) [p])),
 min G.length ((0:Nat)+l.toNat),T,T.length,n,())=
 (l,p,l,p,y7,l,l,(0:Nat)+l.toNat,p,List.take (1:Nat) (List.drop (0:Nat) [p]),(0:Nat)+l.toNat,
 G.set ((0:Nat)+l.toNat) (G.getD ((0:Nat)+l.toNat) []++List.take (1:Nat) (List.drop (0:Nat) [p])),
 min G.length ((0:Nat)+l.toNat),T,T.length,n,PUnit.unit))∧
 ((0:Nat)=(0:Nat)∧
 (G.getD ((0:Nat)+l.toNat) []).length=(G.getD ((0:Nat)+l.toNat) []).length∧
 (G.getD ((0:Nat)+l.toNat) []).length+(List.take (1:Nat) (List.drop (0:Nat) [p])).length≤Ap∧
 ((0:Int)≤l∧l<(↑G.length:Int))∧
 (0:Nat)=(0:Nat)∧
 (G.getD ((0:Nat)+l.toNat) []++List.take (1:Nat) (List.drop (0:Nat) [p])).length=
 (G.getD ((0:Nat)+l.toNat) []++List.take (1:Nat) (List.drop (0:Nat) [p])).length∧
 (0:Nat)+l.toNat=(0:Nat)+l.toNat∧
 [((0:Nat),G.length),((0:Nat),G.length),((0:Nat),G.length),((0:Nat),T.length)]=
 [((0:Nat),G.length),((0:Nat),G.length),((0:Nat),G.length),((0:Nat),T.length)]∧
 (l,p,l,p,y7,l,l,(0:Nat)+l.toNat,p,List.take (1:Nat) (List.drop (0:Nat) [p]),(0:Nat)+l.toNat,
 G.set ((0:Nat)+l.toNat) (G.getD ((0:Nat)+l.toNat) []++List.take (1:Nat) (List.drop (0:Nat) [p])),
 min G.length ((0:Nat)+l.toNat),T,T.length,n,())=
 (l,p,l,p,y7,l,l,(0:Nat)+l.toNat,p,List.take (1:Nat) (List.drop (0:Nat) [p]),(0:Nat)+l.toNat,
 G.set ((0:Nat)+l.toNat) (G.getD ((0:Nat)+l.toNat) []++List.take (1:Nat) (List.drop (0:Nat) [p])),
 min G.length ((0:Nat)+l.toNat),T,T.length,n,PUnit.unit))∧
 (0:Nat)=(0:Nat)∧
 (G.getD ((0:Nat)+l.toNat) []).length=(G.getD ((0:Nat)+l.toNat) []).length∧
 (G.getD ((0:Nat)+l.toNat) []).length+(List.take (1:Nat) (List.drop (0:Nat) [p])).length≤Ap∧
 ((0:Int)≤l∧l<(↑G.length:Int))∧
 (0:Nat)=(0:Nat)∧
 (G.getD ((0:Nat)+l.toNat) []++List.take (1:Nat) (List.drop (0:Nat) [p])).length=
 (G.getD ((0:Nat)+l.toNat) []++List.take (1:Nat) (List.drop (0:Nat) [p])).length∧
 (0:Nat)+l.toNat=(0:Nat)+l.toNat∧
 [((0:Nat),G.length),((0:Nat),G.length),((0:Nat),G.length),((0:Nat),T.length)]=
 [((0:Nat),G.length),((0:Nat),G.length),((0:Nat),G.length),((0:Nat),T.length)]∧
 (l,p,l,p,y7,l,l,(0:Nat)+l.toNat,p,List.take (1:Nat) (List.drop (0:Nat) [p]),(0:Nat)+l.toNat,
 G.set ((0:Nat)+l.toNat) (G.getD ((0:Nat)+l.toNat) []++List.take (1:Nat) (List.drop (0:Nat) [p])),
 min G.length ((0:Nat)+l.toNat),T,T.length,n,())=
 (l,p,l,p,y7,l,l,(0:Nat)+l.toNat,p,List.take (1:Nat) (List.drop (0:Nat) [p]),(0:Nat)+l.toNat,
 G.set ((0:Nat)+l.toNat) (G.getD ((0:Nat)+l.toNat) []++List.take (1:Nat) (List.drop (0:Nat) [p])),
 min G.length ((0:Nat)+l.toNat),T,T.length,n,PUnit.unit))∧
 (((0:Int)≤l∧l<(↑G.length:Int))∧
 (0:Nat)=(0:Nat)∧
 (G.getD ((0:Nat)+l.toNat) []).length=(G.getD ((0:Nat)+l.toNat) []).length∧
 (G.getD ((0:Nat)+l.toNat) []).length+(List.take (1:Nat) (List.drop (0:Nat) [p])).length≤Ap∧
 ((0:Int)≤l∧l<(↑G.length:Int))∧
 (0:Nat)=(0:Nat)∧
 (G.getD ((0:Nat)+l.toNat) []++List.take (1:Nat) (List.drop (0:Nat) [p])).length=
 (G.getD ((0:Nat)+l.toNat) []++List.take (1:Nat) (List.drop (0:Nat) [p])).length∧
 (0:Nat)+l.toNat=(0:Nat)+l.toNat∧
 [((0:Nat),G.length),((0:Nat),G.length),((0:Nat),G.length),((0:Nat),T.length)]=
 [((0:Nat),G.length),((0:Nat),G.length),((0:Nat),G.length),((0:Nat),T.length)]∧
 (l,p,l,p,y7,l,l,(0:Nat)+l.toNat,p,List.take (1:Nat) (List.drop (0:Nat) [p]),(0:Nat)+l.toNat,
 G.set ((0:Nat)+l.toNat) (G.getD ((0:Nat)+l.toNat) []++List.take (1:Nat) (List.drop (0:Nat) [p])),
 min G.length ((0:Nat)+l.toNat),T,T.length,n,())=
 (l,p,l,p,y7,l,l,(0:Nat)+l.toNat,p,List.take (1:Nat) (List.drop (0:Nat) [p]),(0:Nat)+l.toNat,
 G.set ((0:Nat)+l.toNat) (G.getD ((0:Nat)+l.toNat) []++List.take (1:Nat) (List.drop (0:Nat) [p])),
 min G.length ((0:Nat)+l.toNat),T,T.length,n,PUnit.unit))∧
 ((0:Int)≤l∧l<(↑G.length:Int))∧
 ((0:Nat)=(0:Nat)∧
 (G.getD ((0:Nat)+l.toNat) []).length=(G.getD ((0:Nat)+l.toNat) []).length∧
 (G.getD ((0:Nat)+l.toNat) []).length+(List.take (1:Nat) (List.drop (0:Nat) [p])).length≤Ap∧
 ((0:Int)≤l∧l<(↑G.length:Int))∧
 (0:Nat)=(0:Nat)∧
 (G.getD ((0:Nat)+l.toNat) []++List.take (1:Nat) (List.drop (0:Nat) [p])).length=
 (G.getD ((0:Nat)+l.toNat) []++List.take (1:Nat) (List.drop (0:Nat) [p])).length∧
 (0:Nat)+l.toNat=(0:Nat)+l.toNat∧
 [((0:Nat),G.length),((0:Nat),G.length),((0:Nat),G.length),((0:Nat),T.length)]=
 [((0:Nat),G.length),((0:Nat),G.length),((0:Nat),G.length),((0:Nat),T.length)]∧
 (l,p,l,p,y7,l,l,(0:Nat)+l.toNat,p,List.take (1:Nat) (List.drop (0:Nat) [p]),(0:Nat)+l.toNat,
 G.set ((0:Nat)+l.toNat) (G.getD ((0:Nat)+l.toNat) []++List.take (1:Nat) (List.drop (0:Nat) [p])),
 min G.length ((0:Nat)+l.toNat),T,T.length,n,())=
 (l,p,l,p,y7,l,l,(0:Nat)+l.toNat,p,List.take (1:Nat) (List.drop (0:Nat) [p]),(0:Nat)+l.toNat,
 G.set ((0:Nat)+l.toNat) (G.getD ((0:Nat)+l.toNat) []++List.take (1:Nat) (List.drop (0:Nat) [p])),
 min G.length ((0:Nat)+l.toNat),T,T.length,n,PUnit.unit))∧
 ((0:Nat)=(0:Nat)∧
 (G.getD ((0:Nat)+l.toNat) []).length=(G.getD ((0:Nat)+l.toNat) []).length∧
 (G.getD ((0:Nat)+l.toNat) []).length+(List.take (1:Nat) (List.drop (0:Nat) [p])).length≤Ap∧
 ((0:Int)≤l∧l<(↑G.length:Int))∧
 (0:Nat)=(0:Nat)∧
 (G.getD ((0:Nat)+l.toNat) []++List.take (1:Nat) (List.drop (0:Nat) [p])).length=
 (G.getD ((0:Nat)+l.toNat) []++List.take (1:Nat) (List.drop (0:Nat) [p])).length∧
 (0:Nat)+l.toNat=(0:Nat)+l.toNat∧
 [((0:Nat),G.length),((0:Nat),G.length),((0:Nat),G.length),((0:Nat),T.length)]=
 [((0:Nat),G.length),((0:Nat),G.length),((0:Nat),G.length),((0:Nat),T.length)]∧
 (l,p,l,p,y7,l,l,(0:Nat)+l.toNat,p,List.take (1:Nat) (List.drop (0:Nat) [p]),(0:Nat)+l.toNat,
 G.set ((0:Nat)+l.toNat) (G.getD ((0:Nat)+l.toNat) []++List.take (1:Nat) (List.drop (0:Nat) [p])),
 min G.length ((0:Nat)+l.toNat),T,T.length,n,())=
 (l,p,l,p,y7,l,l,(0:Nat)+l.toNat,p,List.take (1:Nat) (List.drop (0:Nat) [p]),(0:Nat)+l.toNat,
 G.set ((0:Nat)+l.toNat) (G.getD ((0:Nat)+l.toNat) []++List.take (1:Nat) (List.drop (0:Nat) [p])),
 min G.length ((0:Nat)+l.toNat),T,T.length,n,PUnit.unit))∧
 (0:Nat)=(0:Nat)∧
 (G.getD ((0:Nat)+l.toNat) []).length=(G.getD ((0:Nat)+l.toNat) []).length∧
 (G.getD ((0:Nat)+l.toNat) []).length+(List.take (1:Nat) (List.drop (0:Nat) [p])).length≤Ap∧
 ((0:Int)≤l∧l<(↑G.length:Int))∧
 (0:Nat)=(0:Nat)∧
 (G.getD ((0:Nat)+l.toNat) []++List.take (1:Nat) (List.drop (0:Nat) [p])).length=
 (G.getD ((0:Nat)+l.toNat) []++List.take (1:Nat) (List.drop (0:Nat) [p])).length∧
 (0:Nat)+l.toNat=(0:Nat)+l.toNat∧
 [((0:Nat),G.length),((0:Nat),G.length),((0:Nat),G.length),((0:Nat),T.length)]=
 [((0:Nat),G.length),((0:Nat),G.length),((0:Nat),G.length),((0:Nat),T.length)]∧
 (l,p,l,p,y7,l,l,(0:Nat)+l.toNat,p,List.take (1:Nat) (List.drop (0:Nat) [p]),(0:Nat)+l.toNat,
 G.set ((0:Nat)+l.toNat) (G.getD ((0:Nat)+l.toNat) []++List.take (1:Nat) (List.drop (0:Nat) [p])),
 min G.length ((0:Nat)+l.toNat),T,T.length,n,())=
 (l,p,l,p,y7,l,l,(0:Nat)+l.toNat,p,List.take (1:Nat) (List.drop (0:Nat) [p]),(0:Nat)+l.toNat,
 G.set ((0:Nat)+l.toNat) (G.getD ((0:Nat)+l.toNat) []++List.take (1:Nat) (List.drop (0:Nat) [p])),
 min G.length ((0:Nat)+l.toNat),T,T.length,n,PUnit.unit))∧
 (((0:Int)≤l∧l<(↑G.length:Int))∧
 (0:Nat)=(0:Nat)∧
 (G.getD ((0:Nat)+l.toNat) []).length=(G.getD ((0:Nat)+l.toNat) []).length∧
 (G.getD ((0:Nat)+l.toNat) []).length+(List.take (1:Nat) (List.drop (0:Nat) [p])).length≤Ap∧
 ((0:Int)≤l∧l<(↑G.length:Int))∧
 (0:Nat)=(0:Nat)∧
 (G.getD ((0:Nat)+l.toNat) []++List.take (1:Nat) (List.drop (0:Nat) [p])).length=
 (G.getD ((0:Nat)+l.toNat) []++List.take (1:Nat) (List.drop (0:Nat) [p])).length∧
 (0:Nat)+l.toNat=(0:Nat)+l.toNat∧
 [((0:Nat),G.length),((0:Nat),G.length),((0:Nat),G.length),((0:Nat),T.length)]=
 [((0:Nat),G.length),((0:Nat),G.length),((0:Nat),G.length),((0:Nat),T.length)]∧
 (l,p,l,p,y7,l,l,(0:Nat)+l.toNat,p,List.take (1:Nat) (List.drop (0:Nat) [p]),(0:Nat)+l.toNat,
 G.set ((0:Nat)+l.toNat) (G.getD ((0:Nat)+l.toNat) []++List.take (1:Nat) (List.drop (0:Nat) [p])),min G.length ((0:Nat)+l.toNat),
 T,T.length,n,())=
 (l,p,l,p,y7,l,l,(0:Nat)+l.toNat,p,List.take (1:Nat) (List.drop (0:Nat) [p]),(0:Nat)+l.toNat,
 G.set ((0:Nat)+l.toNat) (G.getD ((0:Nat)+l.toNat) []++List.take (1:Nat) (List.drop (0:Nat) [p])),min G.length ((0:Nat)+l.toNat),
 T,T.length,n,PUnit.unit))∧
 (((0:Int)≤l∧l<(↑G.length:Int))∧
 (0:Nat)=(0:Nat)∧
 (G.getD ((0:Nat)+l.toNat) []).length=(G.getD ((0:Nat)+l.toNat) []).length∧
 (G.getD ((0:Nat)+l.toNat) []).length+(List.take (1:Nat) (List.drop (0:Nat) [p])).length≤Ap∧
 ((0:Int)≤l∧l<(↑G.length:Int))∧
 (0:Nat)=(0:Nat)∧
 (G.getD ((0:Nat)+l.toNat) []++List.take (1:Nat) (List.drop (0:Nat) [p])).length=
 (G.getD ((0:Nat)+l.toNat) []++List.take (1:Nat) (List.drop (0:Nat) [p])).length∧
 (0:Nat)+l.toNat=(0:Nat)+l.toNat∧
 [((0:Nat),G.length),((0:Nat),G.length),((0:Nat),G.length),((0:Nat),T.length)]=
 [((0:Nat),G.length),((0:Nat),G.length),((0:Nat),G.length),((0:Nat),T.length)]∧
 (l,p,l,p,y7,l,l,(0:Nat)+l.toNat,p,List.take (1:Nat) (List.drop (0:Nat) [p]),(0:Nat)+l.toNat,
 G.set ((0:Nat)+l.toNat) (G.getD ((0:Nat)+l.toNat) []++List.take (1:Nat) (List.drop (0:Nat) [p])),
 min G.length ((0:Nat)+l.toNat),T,T.length,n,())=
 (l,p,l,p,y7,l,l,(0:Nat)+l.toNat,p,List.take (1:Nat) (List.drop (0:Nat) [p]),(0:Nat)+l.toNat,
 G.set ((0:Nat)+l.toNat) (G.getD ((0:Nat)+l.toNat) []++List.take (1:Nat) (List.drop (0:Nat) [p])),
 min G.length ((0:Nat)+l.toNat),T,T.length,n,PUnit.unit))∧
 ((0:Int)≤l∧l<(↑G.length:Int))∧
 ((0:Nat)=(0:Nat)∧
 (G.getD ((0:Nat)+l.toNat) []).length=(G.getD ((0:Nat)+l.toNat) []).length∧
 (G.getD ((0:Nat)+l.toNat) []).length+(List.take (1:Nat) (List.drop (0:Nat) [p])).length≤Ap∧
 ((0:Int)≤l∧l<(↑G.length:Int))∧
 (0:Nat)=(0:Nat)∧
 (G.getD ((0:Nat)+l.toNat) []++List.take (1:Nat) (List.drop (0:Nat) [p])).length=
 (G.getD ((0:Nat)+l.toNat) []++List.take (1:Nat) (List.drop (0:Nat) [p])).length∧
 (0:Nat)+l.toNat=(0:Nat)+l.toNat∧
 [((0:Nat),G.length),((0:Nat),G.length),((0:Nat),G.length),((0:Nat),T.length)]=
 [((0:Nat),G.length),((0:Nat),G.length),((0:Nat),G.length),((0:Nat),T.length)]∧
 (l,p,l,p,y7,l,l,(0:Nat)+l.toNat,p,List.take (1:Nat) (List.drop (0:Nat) [p]),(0:Nat)+l.toNat,
 G.set ((0:Nat)+l.toNat) (G.getD ((0:Nat)+l.toNat) []++List.take (1:Nat) (List.drop (0:Nat) [p])),
 min G.length ((0:Nat)+l.toNat),T,T.length,n,())=
 (l,p,l,p,y7,l,l,(0:Nat)+l.toNat,p,List.take (1:Nat) (List.drop (0:Nat) [p]),(0:Nat)+l.toNat,
 G.set ((0:Nat)+l.toNat) (G.getD ((0:Nat)+l.toNat) []++List.take (1:Nat) (List.drop (0:Nat) [p])),
 min G.length ((0:Nat)+l.toNat),T,T.length,n,PUnit.unit))∧
 ((0:Nat)=(0:Nat)∧
 (G.getD ((0:Nat)+l.toNat) []).length=(G.getD ((0:Nat)+l.toNat) []).length∧
 (G.getD ((0:Nat)+l.toNat) []).length+(List.take (1:Nat) (List.drop (0:Nat) [p])).length≤Ap∧
 ((0:Int)≤l∧l<(↑G.length:Int))∧
 (0:Nat)=(0:Nat)∧
 (G.getD ((0:Nat)+l.toNat) []++List.take (1:Nat) (List.drop (0:Nat) [p])).length=
 (G.getD ((0:Nat)+l.toNat) []++List.take (1:Nat) (List.drop (0:Nat) [p])).length∧
 (0:Nat)+l.toNat=(0:Nat)+l.toNat∧
 [((0:Nat),G.length),((0:Nat),G.length),((0:Nat),G.length),((0:Nat),T.length)]=
 [((0:Nat),G.length),((0:Nat),G.length),((0:Nat),G.length),((0:Nat),T.length)]∧
 (l,p,l,p,y7,l,l,(0:Nat)+l.toNat,p,List.take (1:Nat) (List.drop (0:Nat) [p]),(0:Nat)+l.toNat,
 G.set ((0:Nat)+l.toNat) (G.getD ((0:Nat)+l.toNat) []++List.take (1:Nat) (List.drop (0:Nat) [p])),
 min G.length ((0:Nat)+l.toNat),T,T.length,n,())=
 (l,p,l,p,y7,l,l,(0:Nat)+l.toNat,p,List.take (1:Nat) (List.drop (0:Nat) [p]),(0:Nat)+l.toNat,
 G.set ((0:Nat)+l.toNat) (G.getD ((0:Nat)+l.toNat) []++List.take (1:Nat) (List.drop (0:Nat) [p])),
 min G.length ((0:Nat)+l.toNat),T,T.length,n,PUnit.unit))∧
 (0:Nat)=(0:Nat)∧
 (G.getD ((0:Nat)+l.toNat) []).length=(G.getD ((0:Nat)+l.toNat) []).length∧
 (G.getD ((0:Nat)+l.toNat) []).length+(List.take (1:Nat) (List.drop (0:Nat) [p])).length≤Ap∧
 ((0:Int)≤l∧l<(↑G.length:Int))∧
 (0:Nat)=(0:Nat)∧
 (G.getD ((0:Nat)+l.toNat) []++List.take (1:Nat) (List.drop (0:Nat) [p])).length=
 (G.getD ((0:Nat)+l.toNat) []++List.take (1:Nat) (List.drop (0:Nat) [p])).length∧
 (0:Nat)+l.toNat=(0:Nat)+l.toNat∧
 [((0:Nat),G.length),((0:Nat),G.length),((0:Nat),G.length),((0:Nat),T.length)]=
 [((0:Nat),G.length),((0:Nat),G.length),((0:Nat),G.length),((0:Nat),T.length)]∧
 (l,p,l,p,y7,l,l,(0:Nat)+l.toNat,p,List.take (1:Nat) (List.drop (0:Nat) [p]),(0:Nat)+l.toNat,
 G.set ((0:Nat)+l.toNat) (G.getD ((0:Nat)+l.toNat) []++List.take (1:Nat) (List.drop (0:Nat) [p])),
 min G.length ((0:Nat)+l.toNat),T,T.length,n,())=
 (l,p,l,p,y7,l,l,(0:Nat)+l.toNat,p,List.take (1:Nat) (List.drop (0:Nat) [p]),(0:Nat)+l.toNat,
 G.set ((0:Nat)+l.toNat) (G.getD ((0:Nat)+l.toNat) []++List.take (1:Nat) (List.drop (0:Nat) [p])),
 min G.length ((0:Nat)+l.toNat),T,T.length,n,PUnit.unit)))=Hy (Beo [Kh+7]) (look [(180,Ape),(172,Jq),(131,Om),(165,Ea),(171,Tg.m (Mq m))]) (Mq (m+1)) Try.f171 (n,G,T,l,p,()) P:=by kernel_rfl
theorem Asy {k l:Nat} {p:List Int} {s:Cw×Cw} (h:Hw s.2 k l p=true):Di k l p s=s:=by
 cases k with
 |zero=>rfl
 |succ k=>unfold Di;rw [if_pos h]
theorem Asx (k l:Nat) (p:List Int) (s:Cw×Cw):Di (k+1) l p s=if Hw s.2 (k+1) l p=true then s else
   (Yt (Pg (s.1.getD l []++ [some p]) (s.2.getD l [])) (s.1.getD l []++ [some p])).foldl (fun s q=>Di k (l+1) q s)
    (s.1.set l (s.1.getD l []++ [some p]),s.2.set l (Pg (s.1.getD l []++ [some p]) (s.2.getD l []))):=rfl
theorem Bd6 {n:Nat} {p:List Int} (h:Pm n p) {i:Nat} (hi:i<n):idx p (i:Int)=some (ap p i:Int):=by
 have hi':i<p.length:=by rw [h.1];exact hi
 rw [Aw hi',←(h.at' hi).1,He hi']
theorem Aws {x:Int} {gs:List PO} {j:Nat} (hj:j<gs.length) (s:Row×List Int):Qm x (gs.take (j+1)) s=Qu x (Qm x (gs.take j) s) gs[j]:=by
 unfold Qm
 rw [List.take_add_one,List.getElem?_eq_getElem hj,Option.toList_some,List.foldl_append]
 rfl
theorem Awt {gs:List PO} {f:Nat} {row:Row} :Qf gs f [] row=row:=by cases f<;>rfl
theorem Ayi (m:Nat) (a:Int) (b c:Cw) (d:Int) (e:PO):(Mq m).Cr (a,b,c,d,e,())=d.toNat:=rfl
theorem Adn {n:Nat} {p:List Int} (h:Pm n p):0<p.length∧p.length≤20:=⟨by rw [h.1];exact h.n1,by rw [h.1];exact h.n2⟩
theorem Ayf {n:Nat} {p q:List Int} (h:Pm n p) (k:Pm n q):Nu q.length p:=by rw [k.1];exact h.row
theorem Bia {m:Nat} (n:Int) (G T:List (List (Option (List Int)))) (l:Int) (p:Option (List Int)) (h:(∃N L q,p=some q∧Ajp N L n G T l q)∧(n-l).toNat<m+1):
  Hy (Beo [Kh+7]) (look [(180,Ape),(172,Jq),(131,Om),(165,Ea),(171,Tg.m (Mq m))]) (Mq (m+1)) Try.f171 (n,G,T,l,p,()) (fun (z:(Int×List (List (Option (List Int)))×List (List (Option (List Int)))×Unit)×Unit)=>z=((n,(Di (n-l).toNat l.toNat (p.getD []) (G,T)).1,(Di (n-l).toNat l.toNat (p.getD []) (G,T)).2,()),())):=by
 obtain ⟨⟨N,L,q,rfl,h⟩,hm⟩:=h
 have h':=h
 obtain ⟨n1,n2,en,el,hle,v,pm,fx⟩:=h
 subst en el
 have hk:((N:Int)-(L:Int)).toNat=N-L:=by omega
 rw [hk,Int.toNat_natCast]
 refine Eq.mp (Bio (N:Int) G T (L:Int) (some q) _) ⟨_,if_pos ⟨N,L,?a⟩,?b⟩
 case a=>
  simp only [List.drop_zero,List.take_length,Option.getD_some]
  exact h'
 obtain ⟨v1,v2,v3,v4⟩:=v
 dsimp only at v1 v2
 have hw:IntKind.i64.wrap ((L:Int)+1)=((L+1:Nat):Int):=An (by omega)
 simp only [List.drop_zero,List.take_length,Option.getD_some,hk,Int.toNat_natCast,Nat.zero_add,eq_self,true_and,and_true,List.take_succ_cons,List.take_zero,List.length_cons,List.length_nil,List.length_set,Ayi,hw]
 refine Br.of (fun hh=>⟨by show Int.toNat (L:Int)≤G.length;omega,by show Int.toNat (L:Int)≤T.length;omega,?_⟩) fun hh=>?_
 ·rw [Asy (s:=(G,T)) hh]
 obtain ⟨k,hNk⟩: ∃k,N-L=k+1:=by
  cases e:N-L with
  |zero=>rw [e] at hh;simp [Hw] at hh
  |succ k=>exact ⟨k,rfl⟩
 have hLN:L<N:=by omega
 have hv:V N (k+1) L (G,T):=by rw [←hNk];exact ⟨v1,v2,v3,v4⟩
 rw [hNk] at hh⊢
 have e1:(0:Int)≤(L:Int)∧(L:Int)<(G.length:Int):=by omega
 have e1':(0:Int)≤(L:Int)∧(L:Int)<(T.length:Int):=by omega
 have hgl:(G.getD L []).length≤400:=Bfi n2 (by omega) hv
 have e2:(G.getD L []).length+1≤Ap:=by show _≤4294967296;omega
 simp only [e1,e1',e2,and_self,true_and,and_true]
 generalize hgs:G.getD L []++ [some q]=gs
 have hgsl:gs.length≤401:=by rw [←hgs,List.length_append,List.length_singleton];omega
 have hg:PG N L gs:=by rw [←hgs];exact hv.pg pm fx
 have hr0:Pk N L gs (T.getD L []):=by rw [←hgs];exact hv.Bj1 q
 obtain ⟨r1,r2,r3⟩:=Auy hLN n2 hg hr0
 generalize hR:Pg gs (T.getD L [])=R at r1 r2 r3
 have hval:Di (k+1) L q (G,T)=(Yt R gs).foldl (fun s q=>Di k (L+1) q s) (G.set L gs,T.set L R):=by
  rw [Asx,if_neg (by rw [hh];simp)]
  dsimp only
  rw [hgs,hR]
 rw [hval]
 have hTl:L<T.length:=by omega
 have hGl:L<G.length:=by omega
 have hG1:(G.set L gs).getD L []=gs:=Acj G L hGl gs
 have hT1: ∀row:Row,(T.set L row).getD L []=row:=Acj T L hTl
 refine ⟨_,if_pos (by show (T.getD L []).length≤20;rw [hr0.rl];exact n2),?_⟩
 dsimp only
 have hn0:(Gx (T.getD L [])).length+Kf (T.getD L [])≤40:=by have:=Ar3 (T.getD L []);have:=Auu (T.getD L []);have:=hr0.rl;omega
 have hq0:Ba8 gs (Gx (T.getD L [])) (T.getD L []):=⟨fun y hy=>Lr.1 hy,fun y hy=> .inl (Lr.2 ⟨y,rfl,hy⟩)⟩
 refine ⟨fun v=> ∃(row:Row) (qu:List Int) (kg kt:Nat),v=(L,G.set L gs,kg,T.set L row,kt,qu,(N:Int),())∧L≤kg∧L≤kt∧qu.length+Kf row≤40∧Pk N L gs row∧Ba8 gs qu row∧Qf gs (qu.length+Kf row) qu row=R,
  fun v=>v.2.2.2.2.2.1.length+Kf (v.2.2.2.1.getD v.1 []),⟨T.getD L [],Gx (T.getD L []),min G.length L,T.length,?_,by omega,by omega,hn0,hr0,hq0,?_⟩,?_⟩
 ·rw [Anf T L hTl]
 ·rw [←At7 hLN hg 100 _ _ (by omega) hr0 hq0];exact hR
 rintro v ⟨row,qu,kg,kt,rfl,hkg,hkt,hb,hro,hqi,hbf⟩
 dsimp only
 simp only [hG1,hT1,List.length_set]
 refine Br.dec (fun hl=>⟨e1.2,?_⟩) fun hl=>?_
 ·cases qu with
  |nil=>simp at hl
  |cons x qu=>
  obtain ⟨p1,p2,xn,t,rfl,ht⟩:=Ay6 hLN hg hro hqi
  have hxn:xn<N:=by rw [←hro.rl];exact Ajh ht
  refine Ao gs.length (fun v=>v.2.2.1) (fun j v=> ∃kg kt:Nat,v=(L,L,(j:Int),G.set L gs,kg,T.set L (Qm (xn:Int) (gs.take j) (row,qu)).1,kt,(xn:Int)::(Qm (xn:Int) (gs.take j) (row,qu)).2,(N:Int),())∧L≤kg∧L≤kt) rfl ⟨kg,kt,rfl,hkg,hkt⟩ ?_
  rintro j v K hj hi ⟨kg,kt,rfl,h1,h2⟩ hK
  dsimp only
  simp only [hG1,hT1,List.length_set,Int.toNat_natCast]
  refine Br.dec (fun hl=>?_) fun hl=>?_
  ·have hl:j<gs.length:=by omega
   obtain ⟨x1,x2⟩:=Be7 hLN hg (gs.take j) (q:=qu) (fun o ho=>List.mem_of_mem_take ho) hro ht
   have hst:=Aws (x:=(xn:Int)) hl (row,qu)
   generalize Qm (xn:Int) (gs.take j) (row,qu)=s at x1 x2 hst⊢
   obtain ⟨r,qq⟩:=s
   dsimp only at x1 x2⊢
   obtain ⟨g,hge,hgp,hgf⟩:=hg gs[j] (List.getElem_mem hl)
   have htx:r.getD xn none=some t:=x1.mono _ _ ht
   obtain ⟨t1,t2,t3,t4⟩:=x1.ok.rt _ _ htx
   have hrl:r.length=N:=x1.ok.rl
   have hgj:gs.getD j none=some g:=by rw [Bd3 hl];exact hge
   have hy:=hgp.lt hxn
   have hga:=(hgp.at' hxn).1
   have hphi:qq.length+Kf r=qu.length+Kf row:=x1.phi
   simp only [List.length_cons] at hb
   simp only [hgj,Option.getD_some]
   refine ⟨⟨by omega,by omega⟩,⟨by omega,by simp only [List.length_cons];omega⟩,_,rfl,_,Bd6 hgp hxn,⟨by omega,by omega⟩,?_⟩
   rw [hge] at hst
   unfold Qu at hst
   dsimp only at hst
   rw [Option.getD_some,hga,Int.toNat_natCast,Int.toNat_natCast,htx,Option.getD_some] at hst
   rw [Int.toNat_natCast]
   refine Br.of (fun hn=>?_) fun hn=>?_
   ·have hn:r.getD (ap g xn) none=none:=by
     cases e:r.getD (ap g xn) none with
     |none=>rfl
     |some u=>rw [e] at hn;simp at hn
    rw [hn] at hst
    refine ⟨⟨by omega,by simp only [List.length_cons];omega⟩,_,rfl,⟨by omega,by omega⟩,some (Aa t g),?_,⟨by omega,by omega⟩,?_,?_⟩
    ·rw [Int.toNat_natCast,htx,Option.getD_some]
     exact if_pos ⟨Adn t1,Ayf t1 hgp⟩
    ·show qq.length+1+1≤4294967296
     omega
    ·rw [An (by omega)]
     refine hK hl _ rfl ⟨kg,kt,?_,h1,h2⟩
     rw [hst,List.set_set]
     rfl
   ·have hn: ∃u,r.getD (ap g xn) none=some u:=by
     cases e:r.getD (ap g xn) none with
     |none=>rw [e] at hn;simp at hn
     |some u=>exact ⟨u,rfl⟩
    obtain ⟨u,hn⟩:=hn
    rw [hn] at hst
    rw [An (by omega)]
    refine hK hl _ rfl ⟨kg,kt,?_,h1,h2⟩
    rw [hst]
  ·have:j=gs.length:=by omega
   subst this
   rw [List.take_length]
   generalize hs:Qm (xn:Int) gs (row,qu)=s at p1 p2⊢
   obtain ⟨r,qq⟩:=s
   dsimp only at p1 p2⊢
   have hphi:qq.length+Kf r=qu.length+Kf row:=p1.phi
   simp only [List.length_cons] at hb hbf
   refine ⟨⟨by omega,by simp only [List.length_cons];omega,Int.le_refl _⟩,⟨r,qq,kg,kt,?_,h1,h2,by omega,p1.ok,p2,?_⟩,?_⟩
   ·simp
   ·rw [show qu.length+1+Kf row=(qu.length+Kf row)+1 by omega] at hbf
    simp only [Qf,hs] at hbf
    rw [hphi]
    exact hbf
   ·simp only [hT1,List.length_cons]
    have:(List.take (qq.length+1-Int.toNat 1) (List.drop (Int.toNat 1) ((xn:Int)::qq))).length=qq.length:=by simp
    rw [this]
    omega
 ·have:qu= []:=List.eq_nil_of_length_eq_zero (by omega)
  subst this
  rw [Awt] at hbf
  subst hbf
  have hpr:=Be3 hLN hg hro r3
  have hvl:=hv.lower gs row
  have hfold: ∀qs:List (List Int),(∀q∈qs,q∈Yt row gs)→V N k (L+1) (qs.foldl (fun s q=>Di k (L+1) q s) (G.set L gs,T.set L row))∧Uf (L+1) (G.set L gs,T.set L row) (qs.foldl (fun s q=>Di k (L+1) q s) (G.set L gs,T.set L row)):=
   fun qs hqs=>Azn n1 n2 (by omega) qs _ (fun q hq=>hpr q (hqs q hq)) hvl
  refine ⟨_,if_pos (by show row.length≤20;rw [hro.rl];exact n2),?_⟩
  dsimp only
  have hol:=Ar3 row
  have hrl:=hro.rl
  refine Ao (Gx row).length (fun v=>v.2.1) (fun i v=> ∃(s:Cw×Cw) (kg kt:Nat),v=(L,(i:Int),s.1,kg,s.2,kt,Gx row,(N:Int),())∧L≤kg∧L≤kt∧s=(((Gx row).take i).flatMap fun y=>gs.map (Lo row y)).foldl (fun s q=>Di k (L+1) q s) (G.set L gs,T.set L row)) rfl ⟨_,kg,kt,rfl,hkg,hkt,rfl⟩ ?_
  rintro i v K hi hi' ⟨s,kg,kt,rfl,h1,h2,hs⟩ hK
  dsimp only
  have hsub: ∀q∈((Gx row).take i).flatMap (fun y=>gs.map (Lo row y)),q∈Yt row gs:=fun q hq=>by
   obtain ⟨y,hy,hq⟩:=List.mem_flatMap.1 hq
   exact List.mem_flatMap.2 ⟨y,List.mem_of_mem_take hy,hq⟩
  refine Br.dec (fun hl=>?_) fun hl=>?_
  ·have hl:i<(Gx row).length:=by omega
   obtain ⟨f1,f2⟩:=hfold _ hsub
   rw [←hs] at f1 f2
   have g1:s.1.getD L []=gs:=by rw [(f2.low L (by omega)).1];exact hG1
   have g2:s.1.length=N:=f1.1
   obtain ⟨yn,hyn,hyr⟩:=Lr.1 (List.getElem_mem hl)
   obtain ⟨t,ht⟩:=Option.ne_none_iff_exists'.1 hyr
   have hyN:yn<N:=by rw [←hrl];exact Ajh ht
   obtain ⟨t1,t2,t3,t4⟩:=hro.rt _ _ ht
   refine ⟨⟨by omega,by omega⟩,(yn:Int),by rw [Int.toNat_natCast,List.getElem?_eq_getElem hl,hyn],by omega,?_⟩
   rw [g1]
   refine Ao gs.length (fun v=>v.2.2.1) (fun j v=> ∃(s':Cw×Cw) (kg kt:Nat),v=(L,L,(j:Int),s'.1,kg,s'.2,kt,Gx row,(N:Int),())∧L≤kg∧L≤kt∧s'=(((Gx row).take i).flatMap (fun y=>gs.map (Lo row y))++(gs.take j).map (Lo row (yn:Int))).foldl (fun s q=>Di k (L+1) q s) (G.set L gs,T.set L row)) rfl ⟨s,kg,kt,rfl,h1,h2,by simpa using hs⟩ ?_
   rintro j v K' hj hj' ⟨s',kg,kt,rfl,h1,h2,hs'⟩ hK'
   dsimp only
   refine Br.dec (fun hl'=>?_) fun hl'=>?_
   ·have hl':j<gs.length:=by omega
    have hsub': ∀q∈((Gx row).take i).flatMap (fun y=>gs.map (Lo row y))++(gs.take j).map (Lo row (yn:Int)),q∈Yt row gs:=fun q hq=>by
     rcases List.mem_append.1 hq with hq|hq
     ·exact hsub q hq
     ·obtain ⟨o,ho,rfl⟩:=List.mem_map.1 hq
      exact List.mem_flatMap.2 ⟨(yn:Int),Lr.2 ⟨yn,rfl,hyr⟩,List.mem_map.2 ⟨o,List.mem_of_mem_take ho,rfl⟩⟩
    obtain ⟨f1',f2'⟩:=hfold _ hsub'
    rw [←hs'] at f1' f2'
    obtain ⟨G',T'⟩:=s'
    dsimp only at f1' f2'⊢
    have g1':G'.getD L []=gs:=by have:=(f2'.low L (by omega)).1;dsimp only at this;rw [this];exact hG1
    have g3':T'.getD L []=row:=by have:=(f2'.low L (by omega)).2;dsimp only at this;rw [this];exact hT1 row
    have g4':G'.length=N:=f1'.1
    have g5':T'.length=N:=f1'.2.1
    obtain ⟨g,hge,hgp,hgf⟩:=hg gs[j] (List.getElem_mem hl')
    have hgj:gs.getD j none=some g:=by rw [Bd3 hl'];exact hge
    have hgm:some g∈gs:=by rw [←hge];exact List.getElem_mem hl'
    have hy:=hgp.lt hyN
    obtain ⟨t',ht'⟩:=Option.ne_none_iff_exists'.1 (r3 yn t g ht hgm)
    obtain ⟨u1,u2,u3,u4⟩:=hro.rt _ _ ht'
    have hsch:Lo row (yn:Int) gs[j]=Aa (Aa t g) (Ak t'):=by rw [hge];exact Ab1 ht ht'
    have hqm:=hpr _ (List.mem_flatMap.2 ⟨(yn:Int),Lr.2 ⟨yn,rfl,hyr⟩,List.mem_map.2 ⟨gs[j],List.getElem_mem hl',hsch⟩⟩)
    simp only [g1',g3',Int.toNat_natCast,hgj,ht,Option.getD_some]
    have hkp:L<Int.toNat ((L+1:Nat):Int):=by omega
    have hadd:=Apy n1 n2 k (L+1) _ (G',T') (by omega) f1' hqm.1 hqm.2
    have hadd1:((Di k (L+1) (Aa (Aa t g) (Ak t')) (G',T')).1).length=N:=hadd.v.1
    have hadd2:((Di k (L+1) (Aa (Aa t g) (Ak t')) (G',T')).2).length=N:=hadd.v.2.1
    have hkk:((N:Int)-((L+1:Nat):Int)).toNat=k:=by omega
    refine ⟨⟨by omega,by omega⟩,⟨by omega,by omega⟩,some (Aa t g),if_pos ⟨Adn t1,Ayf t1 hgp⟩,_,Bd6 hgp hyN,⟨by omega,by omega⟩,Ak t',?_,some (Aa (Aa t g) (Ak t')),?_,_,if_pos ⟨⟨N,L+1,_,rfl,?pr⟩,?lt⟩,⟨hkp,?k1⟩,⟨hkp,?k2⟩,⟨hkp,?k3⟩,⟨hkp,?k4⟩,?go⟩
    case pr=>exact ⟨n1,n2,rfl,rfl,by omega,by rw [show N-(L+1)=k by omega];exact f1',hqm.1,hqm.2⟩
    case lt=>
     show ((N:Int)-((L+1:Nat):Int)).toNat<m
     omega
    case go=>
     dsimp only
     rw [An (by omega)]
     refine hK' hl' _ rfl ⟨_,_,_,rfl,?_,?_,?_⟩
     ·show L≤min kg (Int.toNat ((L+1:Nat):Int));omega
     ·show L≤min kt (Int.toNat ((L+1:Nat):Int));omega
     ·rw [List.take_add_one,List.getElem?_eq_getElem hl',Option.toList_some,List.map_append,←List.append_assoc,List.foldl_append,←hs']
      simp only [List.map_cons,List.map_nil,List.foldl_cons,List.foldl_nil,hsch,hkk,Int.toNat_natCast,Option.getD_some]
    case k1=>simp only [hkk,Int.toNat_natCast,Option.getD_some];omega
    case k2=>simp only [hkk,Int.toNat_natCast,Option.getD_some];omega
    case k3=>simp only [hkk,Int.toNat_natCast,Option.getD_some];omega
    case k4=>simp only [hkk,Int.toNat_natCast,Option.getD_some];omega
    ·rw [Int.toNat_natCast,ht',Option.getD_some]
     exact if_pos ⟨by show t'.length≤20;rw [u1.1];exact n2,u1.2.row⟩
    ·exact if_pos ⟨Adn (t1.comp hgp),Ayf (t1.comp hgp) u1.inv⟩
   ·have:j=gs.length:=by omega
    subst this
    rw [An (by omega)]
    refine hK hl _ rfl ⟨s',kg,kt,rfl,h1,h2,?_⟩
    rw [hs',List.take_length,List.take_add_one,List.getElem?_eq_getElem hl,Option.toList_some,List.flatMap_append,hyn]
    simp
  ·have:i=(Gx row).length:=by omega
   subst this
   rw [List.take_length] at hs
   refine ⟨h1,h2,?_⟩
   rw [hs]
   rfl
theorem Beh {m:Nat} (ih_add:Bn Try.prog 171 (Mq m)):Bn Try.prog 171 (Mq (m+1)):=
 Bn.mkK (Bg7 [Kh+7]) (Ag Bbt (Es Acw (Ag Alw (Ag Nn (Es ih_add As))))) mixed Try.func171 (by kernel_rfl) (by kernel_rfl) fun x h=>Bia x.1 x.2.1 x.2.2.1 x.2.2.2.1 x.2.2.2.2.1 h
theorem Ayn:Bn Try.prog 171 (Mq 0):=
 Bn.mkK Aho As mixed Try.func171 (by kernel_rfl) (by kernel_rfl) fun _ h=>absurd h.2 (Nat.not_lt_zero _)
theorem Alu: ∀m,Bn Try.prog 171 (Mq m)
 |0=>Ayn
 |m+1=>Beh (Alu m)
noncomputable abbrev Arp:Bl:=mkK Bgq (fun x=> ∃N L q,x.2.2.2.2.1=some q∧Ajp N L x.1 x.2.1 x.2.2.1 x.2.2.2.1 q)
 (fun x=>((x.1,(Di (x.1-x.2.2.2.1).toNat x.2.2.2.1.toNat (x.2.2.2.2.1.getD []) (x.2.1,x.2.2.1)).1,(Di (x.1-x.2.2.2.1).toNat x.2.2.2.1.toNat (x.2.2.2.2.1.getD []) (x.2.1,x.2.2.1)).2,()),()))
theorem Ayo:Bn Try.prog 171 Arp:=Bn.Bi9 (fun x=>(x.1-x.2.2.2.1).toNat) Alu
end Go.Proofs.Ytebabhocakedaaa

namespace Go.Proofs.Ytebabhocakedaaa
open Go.RowKit
def Qk (n:Nat):Cw:=List.replicate n []
def Wf (n i:Nat):Row:=(List.replicate n none).set i (some (upto n))
def Uw (n:Nat):Cw:=(List.range n).map fun i=>Wf n i
def Lw (n:Nat) (gens:List PO):Cw×Cw:=gens.foldl (fun s o=>Di n 0 (o.getD []) s) (Qk n,Uw n)
noncomputable abbrev Axe:Bl:= {shapes:= [none,none],ins:= [(false, .dat tI),(false, .dat tLO)],multi:=false,rshapes:= [none,none,none],outs:= [.dat tI, .grid tO teG false, .grid tO teG false],fn:=fun _=>none,rp:=some 143}
noncomputable abbrev Aaz:Bl:=mkK Axe (fun x=>(1≤x.1∧x.1≤20)∧List.length x.2.1≤4294967296∧ ∀o∈(x.2.1:List PO),∃g,o=some g∧Pm x.1.toNat g)
 (fun x=>((x.1,(Lw x.1.toNat x.2.1).1,(Lw x.1.toNat x.2.1).2,()),()))
theorem Awa (n:Int) (gens:List (Option (List Int))) (P:(Int×List (List (Option (List Int)))×List (List (Option (List Int)))×Unit)×Unit→Prop):(((0:Int)≤n∧n<(↑Ap:Int)+(1:Int))∧
 n=n∧
 (0:Nat)=(0:Nat)∧
 (List.replicate n.toNat ([]:List (Option (List Int)))).length=(List.replicate n.toNat ([]:List (Option (List Int)))).length∧
 (0:Nat)=(0:Nat)∧
 (0:Nat)=([]:List Int).length∧
 Bx
 (fun (v3:Int×List (List (Option (List Int)))×Int×List (List (Option (List Int)))×PUnit)
 (k4:Int×List (List (Option (List Int)))×Int×List (List (Option (List Int)))×PUnit→Prop)=>
 Br (decide (v3.1<n))
 (((0:Int)≤n∧n<(↑Ap:Int)+(1:Int))∧
 n=n∧
 ∃(y5:Option (List Int)),
 Tw.fn (n,())=some y5∧
 ((0:Int)≤v3.1∧v3.1<(↑(List.replicate n.toNat (none:Option (List Int))).length:Int))∧
 (0:Nat)+v3.1.toNat<(List.replicate n.toNat (none:Option (List Int))).length∧
 (0:Nat)=(0:Nat)∧
 (List.replicate n.toNat (none:Option (List Int))).length=((List.replicate n.toNat (none:Option (List Int))).set ((0:Nat)+v3.1.toNat) y5).length∧
 ((0:Nat)=(0:Nat)∧v3.2.2.2.1.length=v3.2.2.2.1.length)∧
 ((0:Nat)=(0:Nat)∧(1:Nat)= [(List.replicate n.toNat (none:Option (List Int))).set ((0:Nat)+v3.1.toNat) y5].length)∧
 (0:Nat)< [(List.replicate n.toNat (none:Option (List Int))).set ((0:Nat)+v3.1.toNat) y5].length∧
 v3.2.2.2.1.length+ [(List.replicate n.toNat (none:Option (List Int))).set ((0:Nat)+v3.1.toNat) y5].length≤Ap∧
 (0:Nat)=(0:Nat)∧
 v3.2.1.length=v3.2.1.length∧
 (0:Nat)=(0:Nat)∧
 (v3.2.2.2.1++ [(List.replicate n.toNat (none:Option (List Int))).set ((0:Nat)+v3.1.toNat) y5]).length=
 (v3.2.2.2.1++ [(List.replicate n.toNat (none:Option (List Int))).set ((0:Nat)+v3.1.toNat) y5]).length∧
 k4
 (IntKind.i64.wrap (v3.1+(1:Int)),v3.2.1,v3.2.2.1,v3.2.2.2.1++ [(List.replicate n.toNat (none:Option (List Int))).set ((0:Nat)+v3.1.toNat) y5],
 ()))
 ((0:Nat)=(0:Nat)∧
 v3.2.1.length=v3.2.1.length∧
 (0:Nat)=(0:Nat)∧
 v3.2.2.2.1.length=v3.2.2.2.1.length∧
 Bx
 (fun (v5:Int×List (List (Option (List Int)))×Int×List (List (Option (List Int)))×PUnit)
 (k6:Int×List (List (Option (List Int)))×Int×List (List (Option (List Int)))×PUnit→Prop)=>
 Br (decide (v5.1<(↑gens.length:Int)))
 (∃(y7:Option (List Int)),
 idx gens v5.1=some y7∧
 (0:Nat)=(0:Nat)∧
 v5.2.1.length=v5.2.1.length∧
 (0:Nat)=(0:Nat)∧
 v5.2.2.2.1.length=v5.2.2.2.1.length∧
 ∃(y8:(Int×List (List (Option (List Int)))×List (List (Option (List Int)))×PUnit)×PUnit),
 Arp.fn (v5.2.2.1,v5.2.1,v5.2.2.2.1,(0:Int),y7,())=some y8∧
 (0:Nat)=(0:Nat)∧
 y8.1.2.1.length=y8.1.2.1.length∧
 (0:Nat)=(0:Nat)∧
 y8.1.2.2.1.length=y8.1.2.2.1.length∧k6 (IntKind.i64.wrap (v5.1+(1:Int)),y8.1.2.1,y8.1.1,y8.1.2.2.1,()))
 (((0:Nat)=(0:Nat)∧v5.2.1.length=v5.2.1.length)∧
 ((0:Nat)=(0:Nat)∧v5.2.2.2.1.length=v5.2.2.2.1.length)∧P ((v5.2.2.1,v5.2.1,v5.2.2.2.1,()),())))
 ((0:Int),v3.2.1,v3.2.2.1,v3.2.2.2.1,PUnit.unit)))
 ((0:Int),List.replicate n.toNat ([]:List (Option (List Int))),n,[],PUnit.unit))=Hy Re (look [(110,Tw),(171,Arp)]) Aaz Try.f153 (n,gens,()) P:=by kernel_rfl
theorem Ta (n i:Nat):(Qk n).getD i []= []:=by
 unfold Qk
 rw [List.getD_eq_getElem?_getD,List.getElem?_replicate]
 split<;>rfl
theorem Aec {n i:Nat} (h:i<n):(Uw n).getD i []=Wf n i:=by
 unfold Uw
 rw [List.getD_eq_getElem?_getD,List.getElem?_map,List.getElem?_range h]
 rfl
theorem Ag1 {n i y:Nat} (h:i<n):(Wf n i).getD y none=if i=y then some (upto n) else none:=by
 unfold Wf
 rw [Of,List.length_replicate]
 by_cases e:i=y
 ·rw [if_pos ⟨e,h⟩,if_pos e]
 ·rw [if_neg (fun hh=>e hh.1),if_neg e,List.getD_eq_getElem?_getD,List.getElem?_replicate]
  split<;>rfl
theorem Am9 {n:Nat} (h1:1≤n) (h2:n≤20): ∀(k l:Nat),l+k=n→Adc n k l (Qk n,Uw n)
 |0,l,hk=>Ta n l
 |k+1,l,hk=>by
  have hl:l<n:=by omega
  have hg: ∀(g:List Int) (j:Nat),some g∈(Qk n).getD j []→False:=fun g j hg=>by rw [Ta] at hg;cases hg
  refine ⟨Am9 h1 h2 k (l+1) (by omega),⟨fun o ho=>?_,?_,?_,fun y t e0=>?_,fun y t g _ hg'=>(hg _ _ hg').elim,fun y t g t' _ hg'=>(hg _ _ hg').elim⟩,fun g hg'=>(hg _ _ hg').elim⟩
  ·have ho:o∈(Qk n).getD l []:=ho
   rw [Ta] at ho;cases ho
  ·show ((Uw n).getD l []).length=n
   rw [Aec hl];simp [Wf]
  ·show ((Uw n).getD l []).getD l none=_
   rw [Aec hl,Ag1 hl,if_pos rfl]
  ·replace e0:((Uw n).getD l []).getD y none=some t:=e0
   rw [Aec hl,Ag1 hl] at e0
   by_cases hy:l=y
   ·rw [if_pos hy] at e0
    have e1:=Option.some.inj e0
    subst e1 hy
    exact ⟨Pm.id h1 h2,fun i hi=>Ac9 (by omega),Ac9 hl, .id⟩
   ·rw [if_neg hy] at e0;cases e0
theorem Avt (n:Nat): ∀(k l:Nat),GBf k l (Qk n,Uw n)
 |0,_=>trivial
 |k+1,l=>⟨Avt n k (l+1),by show ((Qk n).getD l []).length≤_;rw [Ta];exact Nat.zero_le _⟩
theorem Ba4 {n:Nat} (h1:1≤n) (h2:n≤20):V n n 0 (Qk n,Uw n):=⟨by simp [Qk],by simp [Uw],Am9 h1 h2 n 0 (by omega),Avt n n 0⟩
def PmL (n:Nat) (gens:List PO):Prop:= ∀o∈gens,∃g,o=some g∧Pm n g
theorem Asw {n:Nat} {gens:List PO} {j:Nat} (hj:j<gens.length):Lw n (gens.take (j+1))=Di n 0 (gens[j].getD []) (Lw n (gens.take j)):=by
 unfold Lw
 rw [List.take_add_one,List.getElem?_eq_getElem hj,Option.toList_some,List.foldl_append]
 rfl
theorem Ag9 {n:Nat} (h1:1≤n) (h2:n≤20): ∀(gens:List PO) (s:Cw×Cw),PmL n gens→V n n 0 s→V n n 0 (gens.foldl (fun s o=>Di n 0 (o.getD []) s) s)∧
  Uf 0 s (gens.foldl (fun s o=>Di n 0 (o.getD []) s) s)∧(∀g,some g∈gens→Gn n ((gens.foldl (fun s o=>Di n 0 (o.getD []) s) s).1.getD 0 []) g)∧ ∀o∈(gens.foldl (fun s o=>Di n 0 (o.getD []) s) s).1.getD 0 [],o∈s.1.getD 0 []∨o∈gens
 | [],s,_,hv=>⟨hv,Uf.refl _ _,(fun _ hg=>by cases hg),fun _ ho=> .inl ho⟩
 |o::gens,s,hg,hv=>by
  obtain ⟨g,rfl,hgp⟩:=hg o (by simp)
  have ha:=Apy h1 h2 n 0 g s (by omega) hv hgp (fun i hi=>absurd hi (Nat.not_lt_zero _))
  obtain ⟨a1,a2,a3,a4⟩:=Ag9 h1 h2 gens (Di n 0 g s) (fun o ho=>hg o (by simp [ho])) ha.v
  refine ⟨a1,ha.grow.trans a2 (Nat.le_refl _),fun g' hg'=>?_,fun o ho=>?_⟩
  ·rcases List.mem_cons.1 hg' with e|hg'
   ·cases e;exact ha.isin.mono fun g hg=>a2.gmono _ _ hg
   ·exact a3 g' hg'
  ·rcases a4 o ho with h|h
   ·rcases ha.gens o h with h|h
    ·exact .inl h
    ·exact .inr (by simp [h])
   ·exact .inr (by simp [h])
theorem Asv {n:Nat} (h1:1≤n) (h2:n≤20) {gens:List PO} (hg:PmL n gens):V n n 0 (Lw n gens):=(Ag9 h1 h2 gens _ hg (Ba4 h1 h2)).1
theorem Akr {n:Nat} (h1:1≤n) (h2:n≤20) {gens:List PO} (hg:PmL n gens) {p:List Int} (hp:Pm n p):Hw (Lw n gens).2 n 0 p=true↔Gn n gens p:=by
 obtain ⟨a1,a2,a3,a4⟩:=Ag9 h1 h2 gens _ hg (Ba4 h1 h2)
 have hS:PmS n fun g=>some g∈gens:=⟨⟨h1,h2⟩,fun g hg'=>by obtain ⟨g',e,h⟩:=hg _ hg';cases e;exact h⟩
 have hsub: ∀g,some g∈(Lw n gens).1.getD 0 []→some g∈gens:=fun g hg'=>by
  rcases a4 _ hg' with h|h
  ·have h:some g∈(Qk n).getD 0 []:=h
   rw [Ta] at h;cases h
  ·exact h
 have hS':PmS n fun g=>some g∈(Lw n gens).1.getD 0 []:=⟨⟨h1,h2⟩,fun g hg'=>hS.2 g (hsub g hg')⟩
 refine (Af5 h1 h2 n 0 (Lw n gens) (by omega) a1.2.2.1 p hp fun i hi=>absurd hi (Nat.not_lt_zero _)).trans ⟨fun h=>h.mono hsub,fun h=>h.trans hS' fun g hg'=>a3 g hg'⟩
theorem Av5 (n:Int) (gens:List (Option (List Int))) (h:(1≤n∧n≤20)∧List.length gens≤4294967296∧ ∀o∈(gens:List PO),∃g,o=some g∧Pm n.toNat g):
  Hy Re (look [(110,Tw),(171,Arp)]) Aaz Try.f153 (n,gens,()) (fun (z:(Int×List (List (Option (List Int)))×List (List (Option (List Int)))×Unit)×Unit)=>z=((n,(Lw n.toNat gens).1,(Lw n.toNat gens).2,()),())):=by
 obtain ⟨⟨h1,h2⟩,h3,hg⟩:=h
 obtain ⟨N,rfl⟩: ∃N:Nat,n=N:=⟨n.toNat,by omega⟩
 rw [Int.toNat_natCast] at hg⊢
 have h1:1≤N:=by omega
 have h2:N≤20:=by omega
 refine Eq.mp (Awa (N:Int) gens _) ?_
 have hm:((0:Int)≤(N:Int)∧(N:Int)<(Ap:Int)+1):=⟨by omega,by show (N:Int)<(4294967296:Int)+1;omega⟩
 simp only [hm,and_self,eq_self,true_and,Int.toNat_natCast,Nat.zero_add,List.length_nil,List.length_set,List.length_replicate,List.length_cons,Nat.lt_add_one,List.length_append]
 refine Ao N (fun v=>v.1) (fun j v=>v=((j:Int),Qk N,(N:Int),(List.range j).map (Wf N),())) rfl rfl ?_
 rintro j v K hj hi rfl hK
 dsimp only
 refine Br.dec (fun hl=>?_) fun hl=>?_
 ·refine ⟨_,if_pos ⟨by show (1:Int)≤N;omega,by show (N:Int)≤20;omega⟩,⟨by omega,by omega⟩,by rw [Int.toNat_natCast];omega,?_,?_⟩
  ·show _≤4294967296
   simp only [List.length_map,List.length_range]
   omega
  ·rw [An (by omega)]
   refine hK (by omega) _ rfl ?_
   rw [List.range_succ,List.map_append]
   rfl
 ·have:j=N:=by omega
  subst this
  refine Ao gens.length (fun v=>v.1) (fun i v=>v=((i:Int),(Lw j (gens.take i)).1,(j:Int),(Lw j (gens.take i)).2,())) rfl rfl ?_
  rintro i v K' hi' hi'' rfl hK'
  dsimp only
  refine Br.dec (fun hl'=>?_) fun hl'=>?_
  ·have hl':i<gens.length:=by omega
   obtain ⟨g,hge,hgp⟩:=hg gens[i] (List.getElem_mem hl')
   have hv:=Asv h1 h2 (gens:=gens.take i) fun o ho=>hg o (List.mem_of_mem_take ho)
   refine ⟨_,Aw hl',_,if_pos ⟨j,0,g,hge,h1,h2,rfl,rfl,Nat.zero_le _,hv,hgp,fun i hi=>absurd hi (Nat.not_lt_zero _)⟩,?_⟩
   rw [An (by omega)]
   refine hK' hl' _ rfl ?_
   rw [Asw hl']
   simp only [Int.sub_zero,Int.toNat_natCast]
   rfl
  ·have:i=gens.length:=by omega
   subst this
   rw [List.take_length]
theorem Aj6:Bn Try.prog 153 Aaz:=
 Bn.mkK Aho (Ag Aj4 (Es Ayo As)) mixed Try.func153 (by kernel_rfl) (by kernel_rfl) fun x h=>Av5 x.1 x.2.1 h
end Go.Proofs.Ytebabhocakedaaa

namespace Go.Proofs.Ytebabhocakedaaa
open Go.RowKit
def Su (T:Cw):Nat→Nat
 |0=>1
 |j+1=>Su T j*(Gx (T.getD j [])).length
noncomputable abbrev Ac2:Spec:=mkS (.pair (.ptr Asa) (.pair tI .unit)) tI false true (fun x=>x.2.1=0∧ ∃N:Nat,(1≤N∧N≤20)∧x.1.1=N∧V N N 0 (x.1.2.1,x.1.2.2.1)) (fun x=>(Su x.1.2.2.1 x.1.1.toNat:Int))
noncomputable abbrev Au2:Bl:= {shapes:= [none,none],ins:= [(false, .dat tI),(false, .dat tLL)],multi:=false,rshapes:= [none,none,none],outs:= [.dat tI, .grid tO teG false, .grid tO teG false],fn:=fun _=>none,rp:=some 143}
def Qv (n:Int) (g:List (List Int)):Cw×Cw:=Lw n.toNat (g.map some)
noncomputable abbrev Ot:Bl:=mkK Au2 (fun x=>(1≤x.1∧x.1≤20)∧List.length x.2.1≤4294967296∧ ∀g∈(x.2.1:List (List Int)),Pm x.1.toNat g)
 (fun x=>((x.1,(Qv x.1 x.2.1).1,(Qv x.1 x.2.1).2,()),()))
noncomputable def Nb (p:PP):Int:=if Bg p=true then (Su (Qv p.1 p.2.2.1).2 p.1.toNat:Int) else 0
noncomputable abbrev Kq:Spec:=mkS (.pair Cq .unit) tI false true (fun x=>Cg x.1) (fun x=>Nb x.1)
theorem Bgg (c:Int×List (List (Option (List Int)))×List (List (Option (List Int)))×Unit) (l:Int) (P:Int→Prop):(Bx
 (fun (v3:Int×Int×PUnit) (k4:Int×Int×PUnit→Prop)=>
 Br (decide (v3.2.1<c.1))
 (∃(y5:List (Option (List Int))),
 idx c.2.2.1 v3.2.1=some y5∧
 ∃(y6:(List Int×PUnit)×PUnit),
 Jq.fn (y5,())=some y6∧
 ∃(y7:Int),Lc.fn (List.take y6.1.1.length (List.drop (0:Nat) y6.1.1),())=some y7∧k4 (IntKind.i64.wrap (v3.1*y7),IntKind.i64.wrap (v3.2.1+(1:Int)),()))
 (P v3.1))
 ((1:Int),l,PUnit.unit))=fnW Re (look [(172,Jq),(127,Lc)]) Ac2 Try.f154 (c,l,()) P:=by kernel_rfl
theorem Asq (p:Int×ByteArray×List (List Int)×Unit) (P:Int→Prop):(∃(y2:Bool),
 Ec.fn ((p.1,p.2.1,p.2.2.1,()),())=some y2∧
 Br (!y2) (P (0:Int))
 (∃(y3:(Int×List (List (Option (List Int)))×List (List (Option (List Int)))×PUnit)×PUnit),
 Ot.fn (p.1,p.2.2.1,())=some y3∧
 ∃(y4:Int),
 Ac2.fn ((y3.1.1,List.take y3.1.2.1.length (List.drop (0:Nat) y3.1.2.1),List.take y3.1.2.2.1.length (List.drop (0:Nat) y3.1.2.2.1),()),(0:Int),())=
 some y4∧
 P y4))=fnW tab (look [(124,Ec),(153,Ot),(154,Ac2)]) Kq Try.f109 (p,()) P:=by kernel_rfl
theorem Bg9 (n i:Nat):(upto n).countP (fun y=>decide ((i:Int)≤y))=n-i:=by
 induction n with
 |zero=>simp [upto]
 |succ n ih=>
  rw [Wh,List.countP_append,ih]
  simp only [List.countP_cons,List.countP_nil,decide_eq_true_eq]
  split<;>omega
theorem Bfo {n i:Nat} {gs:List PO} {row:Row} {H:List Int→Prop} (hi:i<n) (h:Lvl n i gs row H):(Gx row).length≤n-i:=by
 rw [←Bg9 n i]
 unfold Gx
 rw [h.rl,←List.countP_eq_length_filter]
 refine List.countP_mono_left fun y hy hs=>?_
 obtain ⟨h1,h2⟩:=Hk.1 hy
 obtain ⟨t,ht⟩:=Option.isSome_iff_exists.1 hs
 obtain ⟨t1,t2,t3,_⟩:=h.rt _ _ ht
 refine decide_eq_true ?_
 refine Classical.byContradiction fun hn=>?_
 have hy':y.toNat<i:=by omega
 have:=t1.inj hi (by omega:y.toNat<n) (by rw [t3,t2 _ hy'])
 omega
def fact:Nat→Nat
 |0=>1
 |n+1=>(n+1)*fact n
theorem Atr: ∀n,1≤fact n
 |0=>Nat.le_refl _
 |n+1=>by have:=Atr n;simp only [fact];exact Nat.le_trans this (Nat.le_mul_of_pos_left _ (by omega))
theorem Bah {a b:Nat} (h:a≤b):fact a≤fact b:=by
 induction h with
 |refl=>exact Nat.le_refl _
 |step _ ih=>simp only [fact];exact Nat.le_trans ih (Nat.le_mul_of_pos_left _ (by omega))
theorem Bds {n:Nat} {s:Cw×Cw} (hc:Adc n n 0 s): ∀j,j≤n→Su s.2 j*fact (n-j)≤fact n
 |0,_=>by simp [Su]
 |j+1,hj=>by
  have ih:=Bds hc j (by omega)
  have h1:=Bfo (by omega) (Aeo n 0 hc j (by omega) (by omega))
  have e:n-j=(n-(j+1))+1:=by omega
  simp only [Su]
  rw [e] at ih h1
  simp only [fact] at ih
  rw [Nat.mul_assoc]
  exact Nat.le_trans (Nat.mul_le_mul_left _ (Nat.mul_le_mul_right _ h1)) ih
theorem Bb2 {n:Nat} (h2:n≤20) {s:Cw×Cw} (hc:Adc n n 0 s) {j:Nat} (hj:j≤n):Su s.2 j≤2432902008176640000:=by
 have h1:=Bds hc j hj
 have h3:=Atr (n-j)
 have h4:fact n≤2432902008176640000:=Nat.le_trans (Bah h2) (by decide)
 have h5:Su s.2 j*1≤Su s.2 j*fact (n-j):=Nat.mul_le_mul_left _ h3
 omega
theorem Bfu (c:Int×List (List (Option (List Int)))×List (List (Option (List Int)))×Unit) (l:Int) (h:l=0∧ ∃N:Nat,(1≤N∧N≤20)∧c.1=N∧V N N 0 (c.2.1,c.2.2.1)):
  fnW Re (look [(172,Jq),(127,Lc)]) Ac2 Try.f154 (c,l,()) (fun (z:Int)=>z=(Su c.2.2.1 c.1.toNat:Int)):=by
 obtain ⟨rfl,N,⟨h1,h2⟩,hN,v⟩:=h
 obtain ⟨n,G,T,⟨⟩⟩:=c
 dsimp only at hN v⊢
 subst hN
 refine Eq.mp (Bgg ((N:Int),G,T,()) 0 _) ?_
 obtain ⟨v1,v2,v3,v4⟩:=v
 dsimp only at v1 v2⊢
 rw [Int.toNat_natCast]
 refine Ao N (fun v=>v.2.1) (fun j v=>v.1=(Su T j:Int)) rfl rfl ?_
 rintro j ⟨o,i,⟨⟩⟩ K hj hi ho hK
 dsimp only at hi ho⊢
 subst hi ho
 refine Br.dec (fun hl=>?_) fun hl=>?_
 ·have hl:j<N:=by omega
  have hT:j<T.length:=by omega
  have hrow:=Aeo N 0 v3 j (by omega) (by omega)
  have hrl:=hrow.rl
  dsimp only at hrl
  rw [Atx hT] at hrl
  refine ⟨_,Aw hT,_,if_pos (by show (T[j]).length≤20;omega),_,if_pos trivial,?_⟩
  rw [List.drop_zero,List.take_length,An (by omega)]
  have hb:=Bb2 h2 v3 (j:=j+1) (by omega)
  simp only [Su] at hb
  rw [Atx hT] at hb
  have e:(Su T j:Int)*((Gx T[j]).length:Int)=((Su T j*(Gx T[j]).length:Nat):Int):=by push_cast;rfl
  show K (IntKind.i64.wrap ((Su T j:Int)*((Gx T[j]).length:Int)),_,())
  rw [e,Bj (by omega) (by omega)]
  refine hK hl _ rfl ?_
  simp only [Su]
  rw [Atx hT]
 ·have:j=N:=by omega
  subst this
  rfl
theorem Avn:Sound Try.prog 154 Ac2:=
 Sound.mkS Aho (Es Acw (Ag Xz As)) mixed Try.func154 (by kernel_rfl) (by kernel_rfl) fun x h=>Bfu x.1 x.2.1 h
theorem Cells.told {w:World} {S:Nat→Prop} {e:Ty} {cs:List Value} {xs:List e.den} (h:Cells w S (.slice e) cs xs): ∃o:Option (List e.den),Cells w S (.oslice e) cs o∧o.getD []=xs:=by
 simp only [Cells] at h
 obtain ⟨a,len,cap,rfl,h1,h2,h3⟩:=h
 cases a with
 |none=>
  rcases h3 with rfl|⟨g,o,h,_⟩
  ·refine ⟨none,?_,rfl⟩
   simp only [Cells]
   exact .inl ⟨trivial,cap,by rw [h1];rfl⟩
  ·cases h
 |some ad=>
  refine ⟨some xs,?_,rfl⟩
  simp only [Cells]
  exact .inr ⟨xs,ad,len,cap,rfl,rfl,h1,h2,h3.imp id fun ⟨g,o,h,h4⟩=>⟨g,o,Option.some.inj h,h4⟩⟩
theorem Awo {α β:Type} (Q:Nat→α→β→Prop): ∀(xs:List α),(∀i x,xs[i]?=some x→ ∃y,Q i x y)→ ∃ys:List β,ys.length=xs.length∧ ∀i x y,xs[i]?=some x→ys[i]?=some y→Q i x y:=by
 intro xs h
 refine ⟨List.ofFn fun i:Fin xs.length=>Classical.choose (h i xs[i] (List.getElem?_eq_getElem i.2)),by simp,fun i x y h1 h2=>?_⟩
 obtain ⟨hi,rfl⟩:=List.getElem?_eq_some_iff.1 h1
 obtain ⟨hi',rfl⟩:=List.getElem?_eq_some_iff.1 h2
 rw [List.getElem_ofFn]
 exact Classical.choose_spec (h i xs[i] (List.getElem?_eq_getElem hi))
theorem Bd.Bin {w:World} {S:Nat→Prop} {e:Ty} {v:Value} {xs:List (List e.den)} (h:Bd w S (.slice (.slice e)) v xs): ∃os:List (Option (List e.den)),Bd w S (.slice (.oslice e)) v os∧os.map (·.getD [])=xs:=by
 obtain ⟨cs,hc,rfl⟩:=h
 simp only [Cells] at hc
 obtain ⟨a,len,cap,rfl,h1,h2,h3⟩:=hc
 rcases h3 with rfl|⟨g,o,rfl,hg,hS,h4⟩
 ·refine ⟨[],⟨_,?_,rfl⟩,rfl⟩
  simp only [Cells]
  exact ⟨a,len,cap,rfl,h1,h2, .inl trivial⟩
 ·obtain ⟨os,e1,e2⟩:=Awo (fun i (x:List e.den) (y:Option (List e.den))=>y.getD []=x∧ ∃es:List Value,es.length=1∧(∀j u,es[j]?=some u→w.cell? ⟨g,o+i*1+j,none⟩=some u)∧Cells w S (.oslice e) es y) xs fun i x hx=>by
   obtain ⟨es,k1,k2,k3⟩:=h4 i x hx
   obtain ⟨y,k4,k5⟩:=Cells.told (e:=e) (by simp only [Cells];exact k3)
   exact ⟨y,k5,es,k1,k2,k4⟩
  refine ⟨os,⟨_,?_,rfl⟩,?_⟩
  ·simp only [Cells]
   refine ⟨_,len,cap,rfl,by rw [h1,e1],h2, .inr ⟨g,o,rfl,hg,hS,fun i y hy=>?_⟩⟩
   obtain ⟨hi,_⟩:=List.getElem?_eq_some_iff.1 hy
   obtain ⟨_,es,k1,k2,k3⟩:=e2 i _ y (List.getElem?_eq_getElem (by omega)) hy
   simp only [Cells] at k3
   exact ⟨es,k1,k2,k3⟩
  ·refine List.ext_getElem (by simp [e1]) fun i g1 g2=>?_
   rw [List.getElem_map]
   exact (e2 i _ _ (List.getElem?_eq_getElem g2) (List.getElem?_eq_getElem (by omega))).1
theorem Am0:Bn Try.prog 153 Ot:=by
 have h:=Aj6
 refine ⟨h.enter,fun w S π us x r o g vs h1 hg h2 h3 hS h4 h5=>?_⟩
 obtain ⟨n,gens,⟨⟩⟩:=x
 match us,h2 with
 |u1::u2::us,h2=>
  obtain ⟨h6,⟨h7,h8⟩,h9⟩:=h2
  obtain ⟨os,h10,h11⟩:=Bd.Bin (e:=tI) h8
  have h11:os.map (·.getD [])=(gens:List (List Int)):=h11
  have hpre:(1≤n∧n≤20)∧List.length gens≤4294967296∧ ∀g∈(gens:List (List Int)),Pm n.toNat g:=Classical.byContradiction fun hn=>by
   have:Ot.fn (n,gens,())=none:=if_neg hn
   rw [this] at h5;cases h5
  have hos:os=gens.map some:=by
   rw [←h11,List.map_map]
   refine (List.map_id os).symm.trans (List.map_congr_left fun x hx=>?_)
   cases x with
   |some y=>rfl
   |none=>
    have:=hpre.2.2 [] (by rw [←h11];exact List.mem_map.2 ⟨none,hx,rfl⟩)
    have h1:=this.n1
    have h2:=this.1
    simp at h2
    omega
  have hv:Ot.fn (n,gens,())=some ((n,(Qv n gens).1,(Qv n gens).2,()),()):=if_pos hpre
  rw [hv] at h5
  have h5:=Option.some.inj h5
  refine h.calls w S π (u1::u2::us) (n,os,()) r o g vs h1 hg ⟨h6,⟨h7,h10⟩,h9⟩ h3 hS h4 ?_
  refine (if_pos ⟨hpre.1,by rw [hos,List.length_map];exact hpre.2.1,fun y hy=>?pp⟩).trans (congrArg some ?qq)
  case pp=>
   replace hy:y∈os:=hy
   rw [hos] at hy
   obtain ⟨g,hg,rfl⟩:=List.mem_map.1 hy
   exact ⟨g,rfl,hpre.2.2 g hg⟩
  case qq=>subst hos;exact h5
theorem Aen {p:PP} (hv:Valid p):(1≤p.1∧p.1≤20)∧List.length p.2.2.1≤4294967296∧ ∀g∈p.2.2.1,Pm p.1.toNat g:=
 ⟨hv.n,by have:=hv.few;omega,fun g hg=>⟨by have:=hv.len g hg;omega,Ae5 (hv.perm g hg)⟩⟩
theorem Ali {n:Nat} {g:List (List Int)} (h: ∀x∈g,Pm n x):PmL n (g.map some):=fun o ho=>by
 obtain ⟨x,hx,rfl⟩:=List.mem_map.1 ho
 exact ⟨x,rfl,h x hx⟩
theorem Aq7 {p:PP} (hv:Valid p):V p.1.toNat p.1.toNat 0 (Qv p.1 p.2.2.1):=by
 have:=hv.n
 exact Asv (by omega) (by omega) (Ali (Aen hv).2.2)
theorem Arb (p:PP) (h:Cg p):fnW tab (look [(124,Ec),(153,Ot),(154,Ac2)]) Kq Try.f109 (p,()) (fun (z:Int)=>z=Nb p):=by
 refine Eq.mp (Asq p _) ⟨_,if_pos h,?_⟩
 show Br (!Bg p) _ _
 unfold Nb
 cases hv:Bg p with
 |false=>exact Br.of (fun _=>rfl) fun hh=>by cases hh
 |true=>
  refine Br.of (fun hh=>by cases hh) fun _=>?_
  have hV:=valid hv
  have hn:=hV.n
  refine ⟨_,if_pos (Aen hV),_,if_pos ⟨rfl,p.1.toNat,⟨by omega,by omega⟩,(Int.toNat_of_nonneg (by omega:(0:Int)≤p.1)).symm,?vv⟩,?_⟩
  case vv=>
   simp only [List.drop_zero,List.take_length]
   exact Aq7 hV
  simp only [List.drop_zero,List.take_length]
  exact (if_pos trivial).symm
theorem Ahj:Sound Try.prog 109 Kq:=
 Sound.mkS Cc (Ag We (Es Am0 (Ag Avn As))) mixed Try.func109 (by kernel_rfl) (by kernel_rfl) fun x h=>Arb x.1 h
end Go.Proofs.Ytebabhocakedaaa
