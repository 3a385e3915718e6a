/-
  Part 45 of the proof that the statement FnExactIsMethodSolution holds.
-/
import Derived.Test.YtebabhocakedaaaCIsMethodSolution43
namespace Go.Proofs.Ytebabhocakedaaa
open Go.RowKit
noncomputable abbrev Je:Bp:=mkM [none] [(false, .dat tLO)] false [none] [.row tI 2] (fun x=>List.length x.1≤20) (fun x=>((Gm x.1,()),()))
noncomputable abbrev Nm:Spec:=mkS (.pair tL (.pair tL .unit)) tO false true (fun x=>(0<x.1.length∧x.1.length≤20)∧Hp x.2.1.length x.1) (fun x=>some (Aa x.1 x.2.1))
noncomputable abbrev Wk:Spec:=mkS (.pair tL (.pair tL .unit)) tL false false (fun x=>x.1.length≤20∧Hp x.2.1.length x.1) (fun x=>Aa x.1 x.2.1)
noncomputable abbrev Hc:Spec:=mkS (.pair tI .unit) tL false true (fun x=>0≤x.1∧x.1≤20) (fun x=>upto x.1.toNat)
noncomputable abbrev Sn:Spec:=mkS (.pair tI .unit) tO false true (fun x=>1≤x.1∧x.1≤20) (fun x=>some (upto x.1.toNat))
abbrev teG:TypeId:=22
structure Ai5 (N L:Nat) (n:Int) (G T:Ck) (l:Int) (p:List Int):Prop where
 n1:1≤N
 n2:N≤20
 en:n=N
 el:l=L
 le:L≤N
 v:V N (N-L) L (G,T)
 pm:Pm N p
 fx:Fx L p
noncomputable abbrev Anw:Spec:=mkS (.pair (.ptr Aqo) (.pair tI (.pair tL .unit))) .bool false true (fun x=> ∃N L,Ai5 N L x.1.1 x.1.2.1 x.1.2.2.1 x.2.1 x.2.2.1) (fun x=>Ho x.1.2.2.1 (x.1.1-x.2.1).toNat x.2.1.toNat x.2.2.1)
noncomputable abbrev Bei:Bp:= {ptr:=some (143,3),shapes:= [none,none],ins:= [(false, .dat tI),(false, .grid tO teG true),(false, .grid tO teG true),(false, .dat tI),(false, .dat tO)],multi:=false,rshapes:= [],outs:= [.dat tI, .grid tO teG false, .grid tO teG false],fn:=fun _=>none,keeps:= [(1,1),(2,2)],Ch:=fun x=>x.2.2.2.1.toNat}
noncomputable abbrev Lw (m:Nat):Bp:=mkK Bei (fun x=>(∃N L q,x.2.2.2.2.1=some q∧Ai5 N L x.1 x.2.1 x.2.2.1 x.2.2.2.1 q)∧(x.1-x.2.2.2.1).toNat<m)
 (fun x=>((x.1,(Db (x.1-x.2.2.2.1).toNat x.2.2.2.1.toNat (x.2.2.2.2.1.getD []) (x.2.1,x.2.2.1)).1,(Db (x.1-x.2.2.2.1).toNat x.2.2.2.1.toNat (x.2.2.2.2.1.getD []) (x.2.1,x.2.2.1)).2,()),()))
theorem Auj (n:Int) (P:List Int→Prop):(((0:Int)≤n∧n<(↑Az:Int)+(1:Int))∧
 n=n∧
 (0:Nat)=(0:Nat)∧
 (List.replicate n.toNat (Int.ofNat (nat_lit 0))).length=(List.replicate n.toNat (Int.ofNat (nat_lit 0))).length∧
 Bv
 (fun (v2:Int×List Int×PUnit) (k3:Int×List Int×PUnit→Prop)=>
 Br (decide (v2.1<(↑(List.replicate n.toNat (Int.ofNat (nat_lit 0))).length:Int)))
 (((0:Int)≤v2.1∧v2.1<(↑v2.2.1.length:Int))∧
 (0:Nat)+v2.1.toNat<v2.2.1.length∧
 (0:Nat)=(0:Nat)∧
 v2.2.1.length=(v2.2.1.set ((0:Nat)+v2.1.toNat) v2.1).length∧k3 (IntKind.i64.wrap (v2.1+(1:Int)),v2.2.1.set ((0:Nat)+v2.1.toNat) v2.1,()))
 (P (List.take v2.2.1.length (List.drop ((0:Nat)) v2.2.1))))
 ((0:Int),List.replicate n.toNat (Int.ofNat (nat_lit 0)),PUnit.unit))=fnW tab (look []) Hc Try.f110 (n,()) P:=by kernel_rfl
theorem Ban (row:List (Option (List Int))) (P:(List Int×Unit)×Unit→Prop):((0:Nat)=(0:Nat)∧
 (0:Nat)=([]:List Int).length∧
 Bv
 (fun (v2:Int×List Int×PUnit) (k3:Int×List Int×PUnit→Prop)=>
 Br (decide (v2.1<(↑row.length:Int)))
 (∃(y4:Option (List Int)),
 idx row v2.1=some y4∧
 Br (!y4.isNone)
 ((0:Nat)=(0:Nat)∧
 v2.2.1.length=v2.2.1.length∧
 v2.2.1.length+(List.take (1:Nat) (List.drop (0:Nat) [v2.1])).length≤Az∧
 (0:Nat)=(0:Nat)∧
 (v2.2.1++List.take (1:Nat) (List.drop (0:Nat) [v2.1])).length=(v2.2.1++List.take (1:Nat) (List.drop (0:Nat) [v2.1])).length∧
 k3 (IntKind.i64.wrap (v2.1+(1:Int)),v2.2.1++List.take (1:Nat) (List.drop (0:Nat) [v2.1]),()))
 ((0:Nat)=(0:Nat)∧v2.2.1.length=v2.2.1.length∧k3 (IntKind.i64.wrap (v2.1+(1:Int)),v2.2.1,())))
 (P ((List.take v2.2.1.length (List.drop ((0:Nat)) v2.2.1),()),())))
 ((0:Int),[],PUnit.unit))=Afa Qd (look []) Je Try.f172 (row,()) P:=by kernel_rfl
theorem Bgm (c:Int×List (List (Option (List Int)))×List (List (Option (List Int)))×Unit) (l:Int) (p:List Int) (P:Bool→Prop):(Bv
 (fun (v4:List Int×Int×PUnit) (k5:List Int×Int×PUnit→Prop)=>
 Br (decide (v4.2.1<c.1))
 (∃(y6:List (Option (List Int))),
 idx c.2.2.1 v4.2.1=some y6∧
 ∃(y7:Int),
 idx v4.1 v4.2.1=some y7∧
 ∃(y8:Option (List Int)),
 idx y6 y7=some y8∧
 Br y8.isNone (P false)
 (∃(y9:List Int),
 Du.fn (y8.getD [],())=some y9∧ ∃(y10:List Int),Wk.fn (v4.1,y9,())=some y10∧k5 (y10,IntKind.i64.wrap (v4.2.1+(1:Int)),())))
 (P true))
 (p,l,PUnit.unit))=fnW Qd (look [(165,Du),(131,Wk)]) Anw Try.f180 (c,l,p,()) P:=by kernel_rfl
theorem Sound.loose {P:Program} {f:FuncId} {arg res:Ty} {pre:arg.den→Prop} {val:arg.den→res.den} (h:Sound P f (Go.Proofs.Ytebabhocakedaaa.mkS arg res false true pre val)):Sound P f (Go.Proofs.Ytebabhocakedaaa.mkS arg res false false pre val):=
 ⟨h.enter,fun w S vs x y h1 h2 h3=>Calls.mono (h.calls w S vs x y h1 h2 h3) fun e' w' hr=>by
  obtain ⟨v,g1,g2,g3⟩:=hr
  exact ⟨v,g1,g2,Bc.Eb (S:=fun b=>S b∨(true=true∧b<w.heap.size)) g3 fun k _ hk=>hk.elim .inl fun hh=>absurd (show false=true from hh.1) (by simp)⟩⟩
theorem Akb:Sound Try.prog 131 Wk:=Sound.loose Hd
theorem Akc:Sound Try.prog 131 Nm:=Sound.toO Hd fun x h=>⟨⟨h.1.2,h.2⟩,fun e=>by
 have:=Rz x.1 x.2.1
 rw [e] at this
 have:=h.1.1
 simp only [List.length_nil] at*
 omega⟩
theorem Atg (n:Int) (h:0≤n∧n≤20):fnW tab (look []) Hc Try.f110 (n,()) (fun (z:List Int)=>z=upto n.toNat):=by
 refine Eq.mp (Auj n _) ⟨⟨by omega,by show n<(4294967296:Int)+1;omega⟩,rfl,rfl,rfl,?_⟩
 refine Am n.toNat (fun v=>v.1) (fun j v=>v.2.1.length=n.toNat∧v.2.1.take j=upto j) rfl ⟨by simp,by simp [upto]⟩ ?_
 rintro j ⟨i,ys,⟨⟩⟩ K hj hi ⟨h1,h2⟩ hK
 dsimp only at hi h1 h2⊢
 subst hi
 rw [List.length_replicate]
 simp only [Int.toNat_natCast,Nat.zero_add]
 refine Br.dec (fun hl=>⟨⟨by omega,by omega⟩,by omega,trivial,by rw [List.length_set],?_⟩) fun hl=>?_
 ·rw [Al (by omega)]
  refine hK (by omega) _ rfl ⟨by rw [List.length_set];exact h1,?_⟩
  rw [List.take_add_one,List.take_set_of_le (by omega),h2,List.getElem?_set_self (by omega),Uu]
  rfl
 ·have:j=ys.length:=by omega
  subst this
  rw [List.take_length] at h2
  rw [List.drop_zero,List.take_length,h2,h1]
theorem Pg:Sound Try.prog 110 Hc:=
 Sound.mkS Bi Ao mixed Try.func110 (by kernel_rfl) (by kernel_rfl) fun x h=>Atg x.1 h
theorem Be4 {n:Int} (h:1≤n∧n≤20):(0≤n∧n≤20)∧upto n.toNat≠ []:=⟨by omega,fun e=>by
 have:=congrArg List.length e
 simp [upto] at this
 omega⟩
theorem Aho:Sound Try.prog 110 Sn:=Sound.toO Pg fun x h=>Be4 h
theorem Atc {row:Row} {j:Nat} :(upto (j+1)).filter (fun y=>(row.getD y.toNat none).isSome)=(upto j).filter (fun y=>(row.getD y.toNat none).isSome)++if (row.getD j none).isSome=true then [(j:Int)] else []:=by
 rw [Uu,List.filter_append]
 congr 1
 simp only [List.filter_cons,List.filter_nil,Int.toNat_natCast]
theorem Azi (row:List (Option (List Int))) (h:List.length row≤20):Afa Qd (look []) Je Try.f172 (row,()) (fun (z:(List Int×Unit)×Unit)=>z=((Gm row,()),())):=by
 refine Eq.mp (Ban row _) ⟨rfl,rfl,?_⟩
 refine Am row.length (fun v=>v.1) (fun j v=>v.2.1=(upto j).filter (fun y=>(row.getD y.toNat none).isSome)) rfl rfl ?_
 rintro j ⟨i,ys,⟨⟩⟩ K hj hi h1 hK
 dsimp only at hi h1⊢
 subst hi
 refine Br.dec (fun hl=>?_) fun hl=>?_
 ·have hl:j<row.length:=by omega
  have hlen:ys.length≤j:=by rw [h1];refine Nat.le_trans (List.length_filter_le _ _) (by simp [upto])
  have hg:row.getD j none=row[j]:=by rw [List.getD_eq_getElem?_getD,List.getElem?_eq_getElem hl];rfl
  refine ⟨_,Aj hl,Br.of (fun hb=>⟨rfl,rfl,?_,rfl,rfl,?_⟩) fun hb=>⟨rfl,rfl,?_⟩⟩
  ·show ys.length+1≤4294967296
   omega
  ·rw [Al (by omega)]
   refine hK hl _ rfl ?_
   show ys++ [(j:Int)]=_
   rw [Atc,hg,h1,if_pos (by cases e:row[j] with
    |none=>rw [e] at hb;simp at hb
    |some t=>rfl)]
  ·rw [Al (by omega)]
   refine hK hl _ rfl ?_
   show ys=_
   rw [Atc,hg,h1,if_neg (by cases e:row[j] with
    |none=>simp
    |some t=>rw [e] at hb;simp at hb),List.append_nil]
 ·have:j=row.length:=by omega
  subst this
  rw [List.drop_zero,List.take_length,h1]
  rfl
theorem Abk:Dz Try.prog 172 Je:=
 Dz.mkM Agb Ao mixed Try.func172 (by kernel_rfl) (by kernel_rfl) fun x h=>Azi x.1 h
theorem Adh {n:Nat} {s:Ck×Ck} : ∀(k l:Nat),Abz n k l s→ ∀i,l≤i→i<l+k→Lvl n i (s.1.getD i []) (s.2.getD i []) (fun q=>Ho s.2 (l+k-i-1) (i+1) q=true)
 |0,_,_,i,h1,h2=>by omega
 |k+1,l,hc,i,h1,h2=>by
  obtain ⟨c1,c2,_⟩:=hc
  by_cases e:i=l
  ·subst e
   rw [show i+(k+1)-i-1=k by omega]
   exact c2
  ·have:=Adh k (l+1) c1 i (by omega) (by omega)
   rwa [show l+1+k-i-1=l+(k+1)-i-1 by omega] at this
theorem Asa {α:Type} {xs:List (List α)} {i:Nat} (h:i<xs.length):xs.getD i []=xs[i]:=by
 rw [List.getD_eq_getElem?_getD,List.getElem?_eq_getElem h];rfl
theorem Bb6 {α:Type} {xs:List (Option α)} {i:Nat} (h:i<xs.length):xs.getD i none=xs[i]:=by
 rw [List.getD_eq_getElem?_getD,List.getElem?_eq_getElem h];rfl
theorem Pm.row {n:Nat} {p:List Int} (h:Pm n p):Hp n p:=by
 have:=h.2.row
 rwa [h.1] at this
theorem Bg2 (c:Int×List (List (Option (List Int)))×List (List (Option (List Int)))×Unit) (l:Int) (p:List Int) (h: ∃N L,Ai5 N L c.1 c.2.1 c.2.2.1 l p):
  fnW Qd (look [(165,Du),(131,Wk)]) Anw Try.f180 (c,l,p,()) (fun (z:Bool)=>z=Ho c.2.2.1 (c.1-l).toNat l.toNat p):=by
 obtain ⟨n,G,T,⟨⟩⟩:=c
 obtain ⟨N,L,h⟩:=h
 obtain ⟨n1,n2,en,el,hle,v,pm,fx⟩:=h
 dsimp only at en el v⊢
 subst en el
 refine Eq.mp (Bgm ((N:Int),G,T,()) (L:Int) p _) ?_
 obtain ⟨v1,v2,v3,v4⟩:=v
 dsimp only at v1 v2
 refine ⟨fun v=> ∃i:Nat,L≤i∧i≤N∧v.2.1=i∧Pm N v.1∧Fx i v.1∧Ho T (N-i) i v.1=Ho T (N-L) L p,fun v=>N-v.2.1.toNat,⟨L,Nat.le_refl _,hle,rfl,pm,fx,rfl⟩,?_⟩
 rintro ⟨p',i',⟨⟩⟩ ⟨i,h1,h2,h3,h4,h5,h6⟩
 dsimp only at h3 h4 h5 h6⊢
 subst h3
 rw [show (((N:Int)-(L:Int)).toNat)=N-L by omega,show ((L:Int)).toNat=L by omega,←h6]
 refine Br.dec (fun hl=>?_) fun hl=>?_
 ·have hl:i<N:=by omega
  have hrow:=Adh (N-L) L v3 i h1 (by omega)
  obtain ⟨a1,a2⟩:=h4.at' hl
  have hT:i<T.length:=by omega
  have hlen:T[i].length=N:=by have:=hrow.rl;dsimp only at this;rwa [Asa hT] at this
  refine ⟨_,Aj hT,_,Aj (by rw [h4.1];exact hl),?_⟩
  have e1:p'[i]'(by rw [h4.1];exact hl)=(ap p' i:Int):=by rw [←a1,Gv]
  rw [e1]
  refine ⟨_,Aj (by omega),?_⟩
  have e2:N-i=(N-i-1)+1:=by omega
  have e3:(T.getD i []).getD (Gk p' (i:Int)).toNat none=T[i][ap p' i]'(by omega):=by
   rw [Asa hT];exact Bb6 (by show ap p' i<_;omega)
  rw [e2]
  simp only [Ho,e3]
  refine Br.of (fun hb=>?_) fun hb=>?_
  ·cases e:T[i][ap p' i]'(by omega) with
   |none=>rfl
   |some t=>rw [e] at hb;simp at hb
  ·cases e:T[i][ap p' i]'(by omega) with
   |none=>rw [e] at hb;simp at hb
   |some t=>
    have ht:(T.getD i []).getD (ap p' i) none=some t:=by rw [←e];exact e3
    obtain ⟨t1,t2,t3,t4⟩:=hrow.rt _ _ ht
    simp only [Option.getD_some]
    refine ⟨_,if_pos ⟨by show t.length≤20;rw [t1.1];exact n2,t1.2.row⟩,_,if_pos ⟨by show p'.length≤20;rw [h4.1];exact n2,by show Hp (Ah t).length p';rw [Ai2,t1.1];exact h4.row⟩,⟨i+1,by omega,by omega,Al (by omega),h4.comp t1.inv,Fx.div h4 t1 h5 t2 hl t3,?_⟩,?_⟩
    ·rw [show N-(i+1)=N-i-1 by omega]
    ·show N-(IntKind.i64.wrap ((i:Int)+1)).toNat<N-((i:Int)).toNat
     rw [Al (by omega)]
     omega
 ·rw [show N-i=0 by omega]
  rfl
theorem Ba0:Sound Try.prog 180 Anw:=
 Sound.mkS Agb (Ad Mq (Ad Akb Ao)) mixed Try.func180 (by kernel_rfl) (by kernel_rfl) fun x h=>Bg2 x.1 x.2.1 x.2.2.1 h
end Go.Proofs.Ytebabhocakedaaa

namespace Go.Proofs.Ytebabhocakedaaa
open Go.RowKit
theorem Bgf {m:Nat} (n:Int) (G T:List (List (Option (List Int)))) (l:Int) (p:Option (List Int)) (P:(Int×List (List (Option (List Int)))×List (List (Option (List Int)))×Unit)×Unit→Prop):(∃(y7:Bool),
 Anw.fn ((n,List.take G.length (List.drop (0:Nat) G),List.take T.length (List.drop (0:Nat) T),()),l,p.getD [],())=some y7∧
 Br y7
 (((0:Nat)=(0:Nat)∧G.length=G.length)∧
 ((0:Nat)=(0:Nat)∧T.length=T.length)∧
 (Lw (m+(1:Nat))).Ch (n,G,T,l,p,())≤G.length∧(Lw (m+(1:Nat))).Ch (n,G,T,l,p,())≤T.length∧P ((n,G,T,()),()))
 (((0:Int)≤l∧l<(↑G.length:Int))∧
 (0:Nat)=(0:Nat)∧
 (G.getD ((0:Nat)+l.toNat) []).length=(G.getD ((0:Nat)+l.toNat) []).length∧
 (G.getD ((0:Nat)+l.toNat) []).length+(List.take (1:Nat) (List.drop (0:Nat) [p])).length≤Az∧
 ((0:Int)≤l∧l<(↑G.length:Int))∧
 (0:Nat)=(0:Nat)∧
 (G.getD ((0:Nat)+l.toNat) []++List.take (1:Nat) (List.drop (0:Nat) [p])).length=
 (G.getD ((0:Nat)+l.toNat) []++List.take (1:Nat) (List.drop (0:Nat) [p])).length∧
 (0:Nat)+l.toNat=(0:Nat)+l.toNat∧
 (((0:Int)≤l∧l<(↑T.length:Int))∧
 ∃(y8:(List Int×PUnit)×PUnit),
 Je.fn (T.getD ((0:Nat)+l.toNat) [],())=some y8∧
 (0:Nat)=(0:Nat)∧
 (List.take y8.1.1.length (List.drop (0:Nat) y8.1.1)).length=(List.take y8.1.1.length (List.drop (0:Nat) y8.1.1)).length∧
 (0:Nat)=(0:Nat)∧
 G.length=(G.set ((0:Nat)+l.toNat) (G.getD ((0:Nat)+l.toNat) []++List.take (1:Nat) (List.drop (0:Nat) [p]))).length∧
 (0:Nat)=(0:Nat)∧
 T.length=T.length∧
 Bv
 (fun (v9:Nat×List (List (Option (List Int)))×Nat×List (List (Option (List Int)))×Nat×List Int×Int×PUnit)
 (k10:Nat×List (List (Option (List Int)))×Nat×List (List (Option (List Int)))×Nat×List Int×Int×PUnit→Prop)=>
 Br (decide ((↑v9.2.2.2.2.2.1.length:Int)>(0:Int)))
 (((0:Int)≤l∧l<(↑v9.2.1.length:Int))∧
 (0:Nat)=(0:Nat)∧
 (List.take v9.2.2.2.2.2.1.length (List.drop ((0:Nat)) v9.2.2.2.2.2.1)).length=
 (List.take v9.2.2.2.2.2.1.length (List.drop ((0:Nat)) v9.2.2.2.2.2.1)).length∧
 (0:Nat)=(0:Nat)∧
 v9.2.1.length=v9.2.1.length∧
 (0:Nat)=(0:Nat)∧
 v9.2.2.2.1.length=v9.2.2.2.1.length∧
 Bv
 (fun (v11:Nat×Nat×Int×List (List (Option (List Int)))×Nat×List (List (Option (List Int)))×Nat×List Int×Int×PUnit)
 (k12:
 Nat×Nat×Int×List (List (Option (List Int)))×Nat×List (List (Option (List Int)))×Nat×List Int×Int×PUnit→
 Prop)=>
 Br (decide (v11.2.2.1<(↑(v9.2.1.getD ((0:Nat)+l.toNat) []).length:Int)))
 (((0:Int)≤v11.2.2.1∧v11.2.2.1<(↑(v11.2.2.2.1.getD v11.2.1 []).length:Int))∧
 ((0:Int)≤(0:Int)∧(0:Int)<(↑v11.2.2.2.2.2.2.2.1.length:Int))∧
 ∃(y13:Int),
 v11.2.2.2.2.2.2.2.1[(0:Nat)+Int.toNat (0:Int)]?=some y13∧
 ∃(y14:Int),
 idx (((v11.2.2.2.1.getD v11.2.1 []).getD v11.2.2.1.toNat none).getD []) y13=some y14∧
 ((0:Int)≤y14∧y14<(↑(v11.2.2.2.2.2.1.getD v11.1 []).length:Int))∧
 Br ((v11.2.2.2.2.2.1.getD v11.1 []).getD y14.toNat none).isNone
 (((0:Int)≤(0:Int)∧(0:Int)<(↑v11.2.2.2.2.2.2.2.1.length:Int))∧
 ∃(y15:Int),
 v11.2.2.2.2.2.2.2.1[(0:Nat)+Int.toNat (0:Int)]?=some y15∧
 ((0:Int)≤y15∧y15<(↑(v11.2.2.2.2.2.1.getD v11.1 []).length:Int))∧
 ∃(y16:Option (List Int)),
 Nm.fn
 (((v11.2.2.2.2.2.1.getD v11.1 []).getD y15.toNat none).getD [],
 ((v11.2.2.2.1.getD v11.2.1 []).getD v11.2.2.1.toNat none).getD [],())=
 some y16∧
 ((0:Int)≤y14∧y14<(↑(v11.2.2.2.2.2.1.getD v11.1 []).length:Int))∧
 (0:Nat)=(0:Nat)∧
 v11.2.2.2.2.2.2.2.1.length=v11.2.2.2.2.2.2.2.1.length∧
 v11.2.2.2.2.2.2.2.1.length+(List.take (1:Nat) (List.drop (0:Nat) [y14])).length≤
 Az∧
 (0:Nat)=(0:Nat)∧
 (List.take
 (v11.2.2.2.2.2.2.2.1++
 List.take (1:Nat) (List.drop (0:Nat) [y14])).length
 (List.drop (0:Nat)
 (v11.2.2.2.2.2.2.2.1++
 List.take (1:Nat) (List.drop (0:Nat) [y14])))).length=
 (List.take
 (v11.2.2.2.2.2.2.2.1++
 List.take (1:Nat) (List.drop (0:Nat) [y14])).length
 (List.drop (0:Nat)
 (v11.2.2.2.2.2.2.2.1++
 List.take (1:Nat) (List.drop (0:Nat) [y14])))).length∧
 (0:Nat)=(0:Nat)∧
 v11.2.2.2.1.length=v11.2.2.2.1.length∧
 (0:Nat)=(0:Nat)∧
 v11.2.2.2.2.2.1.length=
 (v11.2.2.2.2.2.1.set v11.1
 ((v11.2.2.2.2.2.1.getD v11.1 []).set y14.toNat y16)).length∧
 k12
 (v11.1,v11.2.1,IntKind.i64.wrap (v11.2.2.1+(1:Int)),
 v11.2.2.2.1,v11.2.2.2.2.1,
 v11.2.2.2.2.2.1.set v11.1
 ((v11.2.2.2.2.2.1.getD v11.1 []).set y14.toNat y16),
 v11.2.2.2.2.2.2.1,
 List.take
 (v11.2.2.2.2.2.2.2.1++
 List.take (1:Nat) (List.drop (0:Nat) [y14])).length
 (List.drop (0:Nat)
 (v11.2.2.2.2.2.2.2.1++
 List.take (1:Nat) (List.drop (0:Nat) [y14]))),
 v11.2.2.2.2.2.2.2.2.1,()))
 ((0:Nat)=(0:Nat)∧
 (List.take v11.2.2.2.2.2.2.2.1.length (List.drop ((0:Nat)) v11.2.2.2.2.2.2.2.1)).length=
 (List.take v11.2.2.2.2.2.2.2.1.length (List.drop ((0:Nat)) v11.2.2.2.2.2.2.2.1)).length∧
 (0:Nat)=(0:Nat)∧
 v11.2.2.2.1.length=v11.2.2.2.1.length∧
 (0:Nat)=(0:Nat)∧
 v11.2.2.2.2.2.1.length=v11.2.2.2.2.2.1.length∧
 k12
 (v11.1,v11.2.1,IntKind.i64.wrap (v11.2.2.1+(1:Int)),v11.2.2.2.1,
 v11.2.2.2.2.1,v11.2.2.2.2.2.1,v11.2.2.2.2.2.2.1,
 List.take v11.2.2.2.2.2.2.2.1.length (List.drop ((0:Nat)) v11.2.2.2.2.2.2.2.1),
 v11.2.2.2.2.2.2.2.2.1,())))
 (((0:Int)≤(1:Int)∧
 (1:Int)≤(↑v11.2.2.2.2.2.2.2.1.length:Int)∧
 (↑v11.2.2.2.2.2.2.2.1.length:Int)≤(↑v11.2.2.2.2.2.2.2.1.length:Int))∧
 (0:Nat)=(0:Nat)∧
 (List.take ((↑v11.2.2.2.2.2.2.2.1.length:Int).toNat-Int.toNat (1:Int))
 (List.drop ((0:Nat)+Int.toNat (1:Int)) v11.2.2.2.2.2.2.2.1)).length=
 (List.take ((↑v11.2.2.2.2.2.2.2.1.length:Int).toNat-Int.toNat (1:Int))
 (List.drop ((0:Nat)+Int.toNat (1:Int)) v11.2.2.2.2.2.2.2.1)).length∧
 (0:Nat)=(0:Nat)∧
 v11.2.2.2.1.length=v11.2.2.2.1.length∧
 (0:Nat)=(0:Nat)∧
 v11.2.2.2.2.2.1.length=v11.2.2.2.2.2.1.length∧
 k10
 (v11.1,v11.2.2.2.1,v11.2.2.2.2.1,v11.2.2.2.2.2.1,v11.2.2.2.2.2.2.1,
 List.take ((↑v11.2.2.2.2.2.2.2.1.length:Int).toNat-Int.toNat (1:Int))
 (List.drop ((0:Nat)+Int.toNat (1:Int)) v11.2.2.2.2.2.2.2.1),
 v11.2.2.2.2.2.2.2.2.1,())))
 (v9.1,(0:Nat)+l.toNat,(0:Int),v9.2.1,v9.2.2.1,v9.2.2.2.1,v9.2.2.2.2.1,
 List.take v9.2.2.2.2.2.1.length (List.drop ((0:Nat)) v9.2.2.2.2.2.1),v9.2.2.2.2.2.2.1,PUnit.unit))
 (∃(y11:(List Int×PUnit)×PUnit),
 Je.fn (v9.2.2.2.1.getD v9.1 [],())=some y11∧
 (0:Nat)=(0:Nat)∧
 y11.1.1.length=y11.1.1.length∧
 (0:Nat)=(0:Nat)∧
 v9.2.1.length=v9.2.1.length∧
 (0:Nat)=(0:Nat)∧
 v9.2.2.2.1.length=v9.2.2.2.1.length∧
 Bv
 (fun (v12:Nat×Int×List (List (Option (List Int)))×Nat×List (List (Option (List Int)))×Nat×List Int×Int×PUnit)
 (k13:
 Nat×Int×List (List (Option (List Int)))×Nat×List (List (Option (List Int)))×Nat×List Int×Int×PUnit→Prop)=>
 Br (decide (v12.2.1<(↑y11.1.1.length:Int)))
 (((0:Int)≤v12.2.1∧v12.2.1<(↑v12.2.2.2.2.2.2.1.length:Int))∧
 ∃(y14:Int),
 v12.2.2.2.2.2.2.1[(0:Nat)+v12.2.1.toNat]?=some y14∧
 ((0:Int)≤l∧l<(↑v12.2.2.1.length:Int))∧
 (0:Nat)=(0:Nat)∧
 v12.2.2.2.2.2.2.1.length=v12.2.2.2.2.2.2.1.length∧
 (0:Nat)=(0:Nat)∧
 v12.2.2.1.length=v12.2.2.1.length∧
 (0:Nat)=(0:Nat)∧
 v12.2.2.2.2.1.length=v12.2.2.2.2.1.length∧
 Bv
 (fun
 (v15:
 Nat×
 Nat×
 Int×
 List (List (Option (List Int)))×
 Nat×List (List (Option (List Int)))×Nat×List Int×Int×PUnit)
 (k16:
 Nat×
 Nat×
 Int×
 List (List (Option (List Int)))×
 Nat×List (List (Option (List Int)))×Nat×List Int×Int×PUnit→
 Prop)=>
 Br (decide (v15.2.2.1<(↑(v12.2.2.1.getD ((0:Nat)+l.toNat) []).length:Int)))
 (((0:Int)≤v15.2.2.1∧v15.2.2.1<(↑(v15.2.2.2.1.getD v15.2.1 []).length:Int))∧
 ((0:Int)≤y14∧y14<(↑(v15.2.2.2.2.2.1.getD v15.1 []).length:Int))∧
 ∃(y17:Option (List Int)),
 Nm.fn
 (((v15.2.2.2.2.2.1.getD v15.1 []).getD y14.toNat none).getD [],
 ((v15.2.2.2.1.getD v15.2.1 []).getD v15.2.2.1.toNat none).getD [],())=
 some y17∧
 ∃(y18:Int),
 idx (((v15.2.2.2.1.getD v15.2.1 []).getD v15.2.2.1.toNat none).getD []) y14=
 some y18∧
 ((0:Int)≤y18∧y18<(↑(v15.2.2.2.2.2.1.getD v15.1 []).length:Int))∧
 ∃(y19:List Int),
 Du.fn
 (((v15.2.2.2.2.2.1.getD v15.1 []).getD y18.toNat none).getD [],())=
 some y19∧
 ∃(y20:Option (List Int)),
 Nm.fn (y17.getD [],y19,())=some y20∧
 (0:Nat)=(0:Nat)∧
 v15.2.2.2.1.length=v15.2.2.2.1.length∧
 (0:Nat)=(0:Nat)∧
 v15.2.2.2.2.2.1.length=v15.2.2.2.2.2.1.length∧
 ∃(y21:
 (Int×
 List (List (Option (List Int)))×
 List (List (Option (List Int)))×PUnit)×
 PUnit),
 (Lw m).fn
 (v15.2.2.2.2.2.2.2.2.1,v15.2.2.2.1,
 v15.2.2.2.2.2.1,IntKind.i64.wrap (l+(1:Int)),y20,
 ())=
 some y21∧
 (v15.1<
 (Lw m).Ch
 (v15.2.2.2.2.2.2.2.2.1,v15.2.2.2.1,
 v15.2.2.2.2.2.1,IntKind.i64.wrap (l+(1:Int)),
 y20,())∧
 v15.1<(List.length y21.1.2.2.1))∧
 (v15.2.1<
 (Lw m).Ch
 (v15.2.2.2.2.2.2.2.2.1,v15.2.2.2.1,
 v15.2.2.2.2.2.1,IntKind.i64.wrap (l+(1:Int)),
 y20,())∧
 v15.2.1<(List.length y21.1.2.1))∧
 (v15.1<
 (Lw m).Ch
 (v15.2.2.2.2.2.2.2.2.1,v15.2.2.2.1,
 v15.2.2.2.2.2.1,IntKind.i64.wrap (l+(1:Int)),
 y20,())∧
 v15.1<(List.length y21.1.2.2.1))∧
 (v15.1<
 (Lw m).Ch
 (v15.2.2.2.2.2.2.2.2.1,v15.2.2.2.1,
 v15.2.2.2.2.2.1,
 IntKind.i64.wrap (l+(1:Int)),y20,())∧
 v15.1<
 (List.length y21.1.2.2.1))∧
 (0:Nat)=(0:Nat)∧
 v15.2.2.2.2.2.2.2.1.length=
 v15.2.2.2.2.2.2.2.1.length∧
 (0:Nat)=(0:Nat)∧
 y21.1.2.1.length=y21.1.2.1.length∧
 (0:Nat)=(0:Nat)∧
 y21.1.2.2.1.length=y21.1.2.2.1.length∧
 k16
 (v15.1,v15.2.1,
 IntKind.i64.wrap (v15.2.2.1+(1:Int)),
 y21.1.2.1,
 min v15.2.2.2.2.1
 ((Lw m).Ch
 (v15.2.2.2.2.2.2.2.2.1,
 v15.2.2.2.1,v15.2.2.2.2.2.1,
 IntKind.i64.wrap (l+(1:Int)),y20,
 ())),
 y21.1.2.2.1,
 min v15.2.2.2.2.2.2.1
 ((Lw m).Ch
 (v15.2.2.2.2.2.2.2.2.1,
 v15.2.2.2.1,v15.2.2.2.2.2.1,
 IntKind.i64.wrap (l+(1:Int)),y20,
 ())),
 v15.2.2.2.2.2.2.2.1,y21.1.1,()))
 ((0:Nat)=(0:Nat)∧
 v15.2.2.2.2.2.2.2.1.length=v15.2.2.2.2.2.2.2.1.length∧
 (0:Nat)=(0:Nat)∧
 v15.2.2.2.1.length=v15.2.2.2.1.length∧
 (0:Nat)=(0:Nat)∧
 v15.2.2.2.2.2.1.length=v15.2.2.2.2.2.1.length∧
 k13
 (v15.1,IntKind.i64.wrap (v12.2.1+(1:Int)),v15.2.2.2.1,v15.2.2.2.2.1,
 v15.2.2.2.2.2.1,v15.2.2.2.2.2.2.1,v15.2.2.2.2.2.2.2.1,
 v15.2.2.2.2.2.2.2.2.1,())))
 (v12.1,(0:Nat)+l.toNat,(0:Int),v12.2.2.1,v12.2.2.2.1,v12.2.2.2.2.1,
 v12.2.2.2.2.2.1,v12.2.2.2.2.2.2.1,v12.2.2.2.2.2.2.2.1,PUnit.unit))
 (((0:Nat)=(0:Nat)∧v12.2.2.1.length=v12.2.2.1.length)∧
 ((0:Nat)=(0:Nat)∧v12.2.2.2.2.1.length=v12.2.2.2.2.1.length)∧
 (Lw (m+(1:Nat))).Ch (n,G,T,l,p,())≤v12.2.2.2.1∧
 (Lw (m+(1:Nat))).Ch (n,G,T,l,p,())≤v12.2.2.2.2.2.1∧
 P ((v12.2.2.2.2.2.2.2.1,v12.2.2.1,v12.2.2.2.2.1,()),())))
 (v9.1,(0:Int),v9.2.1,v9.2.2.1,v9.2.2.2.1,v9.2.2.2.2.1,y11.1.1,v9.2.2.2.2.2.2.1,PUnit.unit)))
 ((0:Nat)+l.toNat,G.set ((0:Nat)+l.toNat) (G.getD ((0:Nat)+l.toNat) []++List.take (1:Nat) (List.drop (0:Nat) [p])),
 min G.length ((0:Nat)+l.toNat),T,T.length,List.take y8.1.1.length (List.drop (0:Nat) y8.1.1),n,PUnit.unit))∧
 (((((0:Int)≤l∧l<(↑G.length:Int))∧
 ((0:Nat)=(0:Nat)∧
 (G.getD ((0:Nat)+l.toNat) []).length=(G.getD ((0:Nat)+l.toNat) []).length∧
 (G.getD ((0:Nat)+l.toNat) []).length+(List.take (1:Nat) (List.drop (0:Nat) [p])).length≤Az∧
 ((0:Int)≤l∧l<(↑G.length:Int))∧
 (0:Nat)=(0:Nat)∧
 (G.getD ((0:Nat)+l.toNat) []++List.take (1:Nat) (List.drop (0:Nat) [p])).length=
 (G.getD ((0:Nat)+l.toNat) []++List.take (1:Nat) (List.drop (0:Nat) [p])).length∧
 (0:Nat)+l.toNat=(0:Nat)+l.toNat∧
 [((0:Nat),G.length),((0:Nat),G.length),((0:Nat),G.length),((0:Nat),T.length)]=
 [((0:Nat),G.length),((0:Nat),G.length),((0:Nat),G.length),((0:Nat),T.length)]∧
 (l,p,l,p,y7,l,l,(0:Nat)+l.toNat,p,List.take (1:Nat) (List.drop (0:Nat) [p]),(0:Nat)+l.toNat,
 G.set ((0:Nat)+l.toNat) (G.getD ((0:Nat)+l.toNat) []++List.take (1:Nat) (List.drop (0:Nat) [p])),
 min G.length ((0:Nat)+l.toNat),T,T.length,n,())=
 (l,p,l,p,y7,l,l,(0:Nat)+l.toNat,p,List.take (1:Nat) (List.drop (0:Nat) [p]),(0:Nat)+l.toNat,
 G.set ((0:Nat)+l.toNat) (G.getD ((0:Nat)+l.toNat) []++List.take (1:Nat) (List.drop (0:Nat) [p])),
 min G.length ((0:Nat)+l.toNat),T,T.length,n,PUnit.unit))∧
 (0:Nat)=(0:Nat)∧
 (G.getD ((0:Nat)+l.toNat) []).length=(G.getD ((0:Nat)+l.toNat) []).length∧
 (G.getD ((0:Nat)+l.toNat) []).length+(List.take (1:Nat) (List.drop (0:Nat) [p])).length≤Az∧
 ((0:Int)≤l∧l<(↑G.length:Int))∧
 (0:Nat)=(0:Nat)∧
 (G.getD ((0:Nat)+l.toNat) []++List.take (1:Nat) (List.drop (0:Nat) [p])).length=
 (G.getD ((0:Nat)+l.toNat) []++List.take (1:Nat) (List.drop (0:Nat) [p])).length∧
 (0:Nat)+l.toNat=(0:Nat)+l.toNat∧
 [((0:Nat),G.length),((0:Nat),G.length),((0:Nat),G.length),((0:Nat),T.length)]=
 [((0:Nat),G.length),((0:Nat),G.length),((0:Nat),G.length),((0:Nat),T.length)]∧
 (l,p,l,p,y7,l,l,(0:Nat)+l.toNat,p,List.take (1:Nat) (List.drop (0:Nat) [p]),(0:Nat)+l.toNat,
 G.set ((0:Nat)+l.toNat) (G.getD ((0:Nat)+l.toNat) []++List.take (1:Nat) (List.drop (0:Nat) [p])),
 min G.length ((0:Nat)+l.toNat),T,T.length,n,())=
 (l,p,l,p,y7,l,l,(0:Nat)+l.toNat,p,List.take (1:Nat) (List.drop (0:Nat) [p]),(0:Nat)+l.toNat,
 G.set ((0:Nat)+l.toNat) (G.getD ((0:Nat)+l.toNat) []++List.take (1:Nat) (List.drop (0:Nat) [p])),
 min G.length ((0:Nat)+l.toNat),T,T.length,n,PUnit.unit))∧
 ((0:Int)≤l∧l<(↑G.length:Int))∧
 (0:Nat)=(0:Nat)∧
 (G.getD ((0:Nat)+l.toNat) []).length=(G.getD ((0:Nat)+l.toNat) []).length∧
 (G.getD ((0:Nat)+l.toNat) []).length+(List.take (1:Nat) (List.drop (0:Nat) [p])).length≤Az∧
 ((0:Int)≤l∧l<(↑G.length:Int))∧
 (0:Nat)=(0:Nat)∧
 (G.getD ((0:Nat)+l.toNat) []++List.take (1:Nat) (List.drop (0:Nat) [p])).length=
 (G.getD ((0:Nat)+l.toNat) []++List.take (1:Nat) (List.drop (0:Nat) [p])).length∧
 (0:Nat)+l.toNat=(0:Nat)+l.toNat∧
 [((0:Nat),G.length),((0:Nat),G.length),((0:Nat),G.length),((0:Nat),T.length)]=
 [((0:Nat),G.length),((0:Nat),G.length),((0:Nat),G.length),((0:Nat),T.length)]∧
 (l,p,l,p,y7,l,l,(0:Nat)+l.toNat,p,List.take (1:Nat) (List.drop (0:Nat) [p]),(0:Nat)+l.toNat,
 G.set ((0:Nat)+l.toNat) (G.getD ((0:Nat)+l.toNat) []++List.take (1:Nat) (List.drop (0:Nat) [p])),min G.length ((0:Nat)+l.toNat),
 T,T.length,n,())=
 (l,p,l,p,y7,l,l,(0:Nat)+l.toNat,p,List.take (1:Nat) (List.drop (0:Nat) [p]),(0:Nat)+l.toNat,
 G.set ((0:Nat)+l.toNat) (G.getD ((0:Nat)+l.toNat) []++List.take (1:Nat) (List.drop (0:Nat) [p])),min G.length ((0:Nat)+l.toNat),
 T,T.length,n,PUnit.unit))∧
 ((0:Int)≤l∧l<(↑G.length:Int))∧
 (0:Nat)=(0:Nat)∧
 (G.getD ((0:Nat)+l.toNat) []).length=(G.getD ((0:Nat)+l.toNat) []).length∧
 (G.getD ((0:Nat)+l.toNat) []).length+(List.take (1:Nat) (List.drop (0:Nat) [p])).length≤Az∧
 ((0:Int)≤l∧l<(↑G.length:Int))∧
 (0:Nat)=(0:Nat)∧
 (G.getD ((0:Nat)+l.toNat) []++List.take (1:Nat) (List.drop (0:Nat) [p])).length=
 (G.getD ((0:Nat)+l.toNat) []++List.take (1:Nat) (List.drop (0:Nat) [p])).length∧
 (0:Nat)+l.toNat=(0:Nat)+l.toNat∧
 [((0:Nat),G.length),((0:Nat),G.length),((0:Nat),G.length),((0:Nat),T.length)]=
 [((0:Nat),G.length),((0:Nat),G.length),((0:Nat),G.length),((0:Nat),T.length)]∧
 (l,p,l,p,y7,l,l,(0:Nat)+l.toNat,p,List.take (1:Nat) (List.drop (0:Nat) [p]),(0:Nat)+l.toNat,
 G.set ((0:Nat)+l.toNat) (G.getD ((0:Nat)+l.toNat) []++List.take (1:Nat) (List.drop (0:Nat) [p])),min G.length ((0:Nat)+l.toNat),T,
 T.length,n,())=
 (l,p,l,p,y7,l,l,(0:Nat)+l.toNat,p,List.take (1:Nat) (List.drop (0:Nat) [p]),(0:Nat)+l.toNat,
 G.set ((0:Nat)+l.toNat) (G.getD ((0:Nat)+l.toNat) []++List.take (1:Nat) (List.drop (0:Nat) [p])),min G.length ((0:Nat)+l.toNat),T,
 T.length,n,PUnit.unit))∧
 (((((0:Int)≤l∧l<(↑G.length:Int))∧
 ((0:Nat)=(0:Nat)∧
 (G.getD ((0:Nat)+l.toNat) []).length=(G.getD ((0:Nat)+l.toNat) []).length∧
 (G.getD ((0:Nat)+l.toNat) []).length+(List.take (1:Nat) (List.drop (0:Nat) [p])).length≤Az∧
 ((0:Int)≤l∧l<(↑G.length:Int))∧
 (0:Nat)=(0:Nat)∧
 (G.getD ((0:Nat)+l.toNat) []++List.take (1:Nat) (List.drop (0:Nat) [p])).length=
 (G.getD ((0:Nat)+l.toNat) []++List.take (1:Nat) (List.drop (0:Nat) [p])).length∧
 (0:Nat)+l.toNat=(0:Nat)+l.toNat∧
 [((0:Nat),G.length),((0:Nat),G.length),((0:Nat),G.length),((0:Nat),T.length)]=
 [((0:Nat),G.length),((0:Nat),G.length),((0:Nat),G.length),((0:Nat),T.length)]∧
 (l,p,l,p,y7,l,l,(0:Nat)+l.toNat,p,List.take (1:Nat) (List.drop (0:Nat) [p]),(0:Nat)+l.toNat,
 G.set ((0:Nat)+l.toNat) (G.getD ((0:Nat)+l.toNat) []++List.take (1:Nat) (List.drop (0:Nat) [p])),
 min G.length ((0:Nat)+l.toNat),T,T.length,n,())=
 (l,p,l,p,y7,l,l,(0:Nat)+l.toNat,p,List.take (1:Nat) (List.drop (0:Nat) [p]),(0:Nat)+l.toNat,
 G.set ((0:Nat)+l.toNat) (G.getD ((0:Nat)+l.toNat) []++List.take (1:Nat) (List.drop (0:Nat) [p])),
 min G.length ((0:Nat)+l.toNat),T,T.length,n,PUnit.unit))∧
 (0:Nat)=(0:Nat)∧
 (G.getD ((0:Nat)+l.toNat) []).length=(G.getD ((0:Nat)+l.toNat) []).length∧
 (G.getD ((0:Nat)+l.toNat) []).length+(List.take (1:Nat) (List.drop (0:Nat) [p])).length≤Az∧
 ((0:Int)≤l∧l<(↑G.length:Int))∧
 (0:Nat)=(0:Nat)∧
 (G.getD ((0:Nat)+l.toNat) []++List.take (1:Nat) (List.drop (0:Nat) [p])).length=
 (G.getD ((0:Nat)+l.toNat) []++List.take (1:Nat) (List.drop (0:Nat) [p])).length∧
 (0:Nat)+l.toNat=(0:Nat)+l.toNat∧
 [((0:Nat),G.length),((0:Nat),G.length),((0:Nat),G.length),((0:Nat),T.length)]=
 [((0:Nat),G.length),((0:Nat),G.length),((0:Nat),G.length),((0:Nat),T.length)]∧
 (l,p,l,p,y7,l,l,(0:Nat)+l.toNat,p,List.take (1:Nat) (List.drop (0:Nat) [p]),(0:Nat)+l.toNat,
 G.set ((0:Nat)+l.toNat) (G.getD ((0:Nat)+l.toNat) []++List.take (1:Nat) (List.drop (0:Nat) [p])),
 min G.length ((0:Nat)+l.toNat),T,T.length,n,())=
 (l,p,l,p,y7,l,l,(0:Nat)+l.toNat,p,List.take (1:Nat) (List.drop (0:Nat) [p]),(0:Nat)+l.toNat,
 G.set ((0:Nat)+l.toNat) (G.getD ((0:Nat)+l.toNat) []++List.take (1:Nat) (List.drop (0:Nat) [p])),
 min G.length ((0:Nat)+l.toNat),T,T.length,n,PUnit.unit))∧
 ((0:Int)≤l∧l<(↑G.length:Int))∧
 (0:Nat)=(0:Nat)∧
 (G.getD ((0:Nat)+l.toNat) []).length=(G.getD ((0:Nat)+l.toNat) []).length∧
 (G.getD ((0:Nat)+l.toNat) []).length+(List.take (1:Nat) (List.drop (0:Nat) [p])).length≤Az∧
 ((0:Int)≤l∧l<(↑G.length:Int))∧
 (0:Nat)=(0:Nat)∧
 (G.getD ((0:Nat)+l.toNat) []++List.take (1:Nat) (List.drop (0:Nat) [p])).length=
 (G.getD ((0:Nat)+l.toNat) []++List.take (1:Nat) (List.drop (0:Nat) [p])).length∧
 (0:Nat)+l.toNat=(0:Nat)+l.toNat∧
 [((0:Nat),G.length),((0:Nat),G.length),((0:Nat),G.length),((0:Nat),T.length)]=
 [((0:Nat),G.length),((0:Nat),G.length),((0:Nat),G.length),((0:Nat),T.length)]∧
 (l,p,l,p,y7,l,l,(0:Nat)+l.toNat,p,List.take (1:Nat) (List.drop (0:Nat) [p]),(0:Nat)+l.toNat,
 G.set ((0:Nat)+l.toNat) (G.getD ((0:Nat)+l.toNat) []++List.take (1:Nat) (List.drop (0:Nat) [p])),
 min G.length ((0:Nat)+l.toNat),T,T.length,n,())=
 (l,p,l,p,y7,l,l,(0:Nat)+l.toNat,p,List.take (1:Nat) (List.drop (0:Nat) [p]),(0:Nat)+l.toNat,
 G.set ((0:Nat)+l.toNat) (G.getD ((0:Nat)+l.toNat) []++List.take (1:Nat) (List.drop (0:Nat) [p])),
 min G.length ((0:Nat)+l.toNat),T,T.length,n,PUnit.unit))∧
 (((0:Int)≤l∧l<(↑G.length:Int))∧
 (((0:Nat)=(0:Nat)∧
 (G.getD ((0:Nat)+l.toNat) []).length=(G.getD ((0:Nat)+l.toNat) []).length∧
 (G.getD ((0:Nat)+l.toNat) []).length+(List.take (1:Nat) (List.drop (0:Nat) [p])).length≤Az∧
 ((0:Int)≤l∧l<(↑G.length:Int))∧
 (0:Nat)=(0:Nat)∧
 (G.getD ((0:Nat)+l.toNat) []++List.take (1:Nat) (List.drop (0:Nat) [p])).length=
 (G.getD ((0:Nat)+l.toNat) []++List.take (1:Nat) (List.drop (0:Nat) [p])).length∧
 (0:Nat)+l.toNat=(0:Nat)+l.toNat∧
 [((0:Nat),G.length),((0:Nat),G.length),((0:Nat),G.length),((0:Nat),T.length)]=
 [((0:Nat),G.length),((0:Nat),G.length),((0:Nat),G.length),((0:Nat),T.length)]∧
 (l,p,l,p,y7,l,l,(0:Nat)+l.toNat,p,List.take (1:Nat) (List.drop (0:Nat) [p]),(0:Nat)+l.toNat,
 G.set ((0:Nat)+l.toNat) (G.getD ((0:Nat)+l.toNat) []++List.take (1:Nat) (List.drop (0:Nat) [p])),
 min G.length ((0:Nat)+l.toNat),T,T.length,n,())=
 (l,p,l,p,y7,l,l,(0:Nat)+l.toNat,p,List.take (1:Nat) (List.drop (0:Nat) [p]),(0:Nat)+l.toNat,
 G.set ((0:Nat)+l.toNat) (G.getD ((0:Nat)+l.toNat) []++List.take (1:Nat) (List.drop (0:Nat) [p])),
 min G.length ((0:Nat)+l.toNat),T,T.length,n,PUnit.unit))∧
 (0:Nat)=(0:Nat)∧
 (G.getD ((0:Nat)+l.toNat) []).length=(G.getD ((0:Nat)+l.toNat) []).length∧
 (G.getD ((0:Nat)+l.toNat) []).length+(List.take (1:Nat) (List.drop (0:Nat) [p])).length≤Az∧
 ((0:Int)≤l∧l<(↑G.length:Int))∧
 (0:Nat)=(0:Nat)∧
 (G.getD ((0:Nat)+l.toNat) []++List.take (1:Nat) (List.drop (0:Nat) [p])).length=
 (G.getD ((0:Nat)+l.toNat) []++List.take (1:Nat) (List.drop (0:Nat) [p])).length∧
 (0:Nat)+l.toNat=(0:Nat)+l.toNat∧
 [((0:Nat),G.length),((0:Nat),G.length),((0:Nat),G.length),((0:Nat),T.length)]=
 [((0:Nat),G.length),((0:Nat),G.length),((0:Nat),G.length),((0:Nat),T.length)]∧
 (l,p,l,p,y7,l,l,(0:Nat)+l.toNat,p,List.take (1:Nat) (List.drop (0:Nat) [p]),(0:Nat)+l.toNat,
 G.set ((0:Nat)+l.toNat) (G.getD ((0:Nat)+l.toNat) []++List.take (1:Nat) (List.drop (0:Nat) [p])),
 min G.length ((0:Nat)+l.toNat),T,T.length,n,())=
 (l,p,l,p,y7,l,l,(0:Nat)+l.toNat,p,List.take (1:Nat) (List.drop (0:Nat) [p]),(0:Nat)+l.toNat,
 G.set ((0:Nat)+l.toNat) (G.getD ((0:Nat)+l.toNat) []++List.take (1:Nat) (List.drop (0:Nat) [p])),
 min G.length ((0:Nat)+l.toNat),T,T.length,n,PUnit.unit))∧
 (((0:Nat)=(0:Nat)∧
 (G.getD ((0:Nat)+l.toNat) []).length=(G.getD ((0:Nat)+l.toNat) []).length∧
 (G.getD ((0:Nat)+l.toNat) []).length+(List.take (1:Nat) (List.drop (0:Nat) [p])).length≤Az∧
 ((0:Int)≤l∧l<(↑G.length:Int))∧
 (0:Nat)=(0:Nat)∧
 (G.getD ((0:Nat)+l.toNat) []++List.take (1:Nat) (List.drop (0:Nat) [p])).length=
 (G.getD ((0:Nat)+l.toNat) []++List.take (1:Nat) (List.drop (0:Nat) [p])).length∧
 (0:Nat)+l.toNat=(0:Nat)+l.toNat∧
 [((0:Nat),G.length),((0:Nat),G.length),((0:Nat),G.length),((0:Nat),T.length)]=
 [((0:Nat),G.length),((0:Nat),G.length),((0:Nat),G.length),((0:Nat),T.length)]∧
 (l,p,l,p,y7,l,l,(0:Nat)+l.toNat,p,List.take (1:Nat) (List.drop (0:Nat) [p]),(0:Nat)+l.toNat,
 G.set ((0:Nat)+l.toNat) (G.getD ((0:Nat)+l.toNat) []++List.take (1:Nat) (List.drop (0:Nat) [p])),
 min G.length ((0:Nat)+l.toNat),T,T.length,n,())=
 (l,p,l,p,y7,l,l,(0:Nat)+l.toNat,p,List.take (1:Nat) (List.drop (0:Nat) [p]),(0:Nat)+l.toNat,
 G.set ((0:Nat)+l.toNat) (G.getD ((0:Nat)+l.toNat) []++List.take (1:Nat) (List.drop (0:Nat) [p])),
 min G.length ((0:Nat)+l.toNat),T,T.length,n,PUnit.unit))∧
 ((0:Nat)=(0:Nat)∧
 (G.getD ((0:Nat)+l.toNat) []).length=(G.getD ((0:Nat)+l.toNat) []).length∧
 (G.getD ((0:Nat)+l.toNat) []).length+(List.take (1:Nat) (List.drop (0:Nat) [p])).length≤Az∧
 ((0:Int)≤l∧l<(↑G.length:Int))∧
 (0:Nat)=(0:Nat)∧
 (G.getD ((0:Nat)+l.toNat) []++List.take (1:Nat) (List.drop (0:Nat) [p])).length=
 (G.getD ((0:Nat)+l.toNat) []++List.take (1:Nat) (List.drop (0:Nat) [p])).length∧
 (0:Nat)+l.toNat=(0:Nat)+l.toNat∧
 [((0:Nat),G.length),((0:Nat),G.length),((0:Nat),G.length),((0:Nat),T.length)]=
 [((0:Nat),G.length),((0:Nat),G.length),((0:Nat),G.length),((0:Nat),T.length)]∧
 (l,p,l,p,y7,l,l,(0:Nat)+l.toNat,p,List.take (1:Nat) (List.drop (0:Nat) [p]),(0:Nat)+l.toNat,
 G.set ((0:Nat)+l.toNat) (G.getD ((0:Nat)+l.toNat) []++List.take (1:Nat) (List.drop (0:Nat) [p])),
 min G.length ((0:Nat)+l.toNat),T,T.length,n,())=
 (l,p,l,p,y7,l,l,(0:Nat)+l.toNat,p,List.take (1:Nat) (List.drop (0:Nat) [p]),(0:Nat)+l.toNat,
 G.set ((0:Nat)+l.toNat) (G.getD ((0:Nat)+l.toNat) []++List.take (1:Nat) (List.drop (0:Nat) [p])),
 min G.length ((0:Nat)+l.toNat),T,T.length,n,PUnit.unit))∧
 (0:Nat)=(0:Nat)∧
 (G.getD ((0:Nat)+l.toNat) []).length=(G.getD ((0:Nat)+l.toNat) []).length∧
 (G.getD ((0:Nat)+l.toNat) []).length+(List.take (1:Nat) (List.drop (0:Nat) [p])).length≤Az∧
 ((0:Int)≤l∧l<(↑G.length:Int))∧
 (0:Nat)=(0:Nat)∧
 (G.getD ((0:Nat)+l.toNat) []++List.take (1:Nat) (List.drop (0:Nat) [p])).length=
 (G.getD ((0:Nat)+l.toNat) []++List.take (1:Nat) (List.drop (0:Nat) [p])).length∧
 (0:Nat)+l.toNat=(0:Nat)+l.toNat∧
 [((0:Nat),G.length),((0:Nat),G.length),((0:Nat),G.length),((0:Nat),T.length)]=
 [((0:Nat),G.length),((0:Nat),G.length),((0:Nat),G.length),((0:Nat),T.length)]∧
 (l,p,l,p,y7,l,l,(0:Nat)+l.toNat,p,List.take (1:Nat) (List.drop (0:Nat) [p]),(0:Nat)+l.toNat,
 G.set ((0:Nat)+l.toNat) (G.getD ((0:Nat)+l.toNat) []++List.take (1:Nat) (List.drop (0:Nat) [p])),
 min G.length ((0:Nat)+l.toNat),T,T.length,n,())=
 (l,p,l,p,y7,l,l,(0:Nat)+l.toNat,p,List.take (1:Nat) (List.drop (0:Nat) [p]),(0:Nat)+l.toNat,
 G.set ((0:Nat)+l.toNat) (G.getD ((0:Nat)+l.toNat) []++List.take (1:Nat) (List.drop (0:Nat) [p])),
 min G.length ((0:Nat)+l.toNat),T,T.length,n,PUnit.unit))∧
 ((0:Nat)=(0:Nat)∧
 (G.getD ((0:Nat)+l.toNat) []).length=(G.getD ((0:Nat)+l.toNat) []).length∧
 (G.getD ((0:Nat)+l.toNat) []).length+(List.take (1:Nat) (List.drop (0:Nat) [p])).length≤Az∧
 ((0:Int)≤l∧l<(↑G.length:Int))∧
 (0:Nat)=(0:Nat)∧
 (G.getD ((0:Nat)+l.toNat) []++List.take (1:Nat) (List.drop (0:Nat) [p])).length=
 (G.getD ((0:Nat)+l.toNat) []++List.take (1:Nat) (List.drop (0:Nat) [p])).length∧
 (0:Nat)+l.toNat=(0:Nat)+l.toNat∧
 [((0:Nat),G.length),((0:Nat),G.length),((0:Nat),G.length),((0:Nat),T.length)]=
 [((0:Nat),G.length),((0:Nat),G.length),((0:Nat),G.length),((0:Nat),T.length)]∧
 (l,p,l,p,y7,l,l,(0:Nat)+l.toNat,p,List.take (1:Nat) (List.drop (0:Nat) [p]),(0:Nat)+l.toNat,
 G.set ((0:Nat)+l.toNat) (G.getD ((0:Nat)+l.toNat) []++List.take (1:Nat) (List.drop (0:Nat) [p])),
 min G.length ((0:Nat)+l.toNat),T,T.length,n,())=
 (l,p,l,p,y7,l,l,(0:Nat)+l.toNat,p,List.take (1:Nat) (List.drop (0:Nat) [p]),(0:Nat)+l.toNat,
 G.set ((0:Nat)+l.toNat) (G.getD ((0:Nat)+l.toNat) []++List.take (1:Nat) (List.drop (0:Nat) [p])),
 min G.length ((0:Nat)+l.toNat),T,T.length,n,PUnit.unit))∧
 ((0:Nat)=(0:Nat)∧
 (G.getD ((0:Nat)+l.toNat) []).length=(G.getD ((0:Nat)+l.toNat) []).length∧
 (G.getD ((0:Nat)+l.toNat) []).length+(List.take (1:Nat) (List.drop (0:Nat) [p])).length≤Az∧
 ((0:Int)≤l∧l<(↑G.length:Int))∧
 (0:Nat)=(0:Nat)∧
 (G.getD ((0:Nat)+l.toNat) []++List.take (1:Nat) (List.drop (0:Nat) [p])).length=
 (G.getD ((0:Nat)+l.toNat) []++List.take (1:Nat) (List.drop (0:Nat) [p])).length∧
 (0:Nat)+l.toNat=(0:Nat)+l.toNat∧
 [((0:Nat),G.length),((0:Nat),G.length),((0:Nat),G.length),((0:Nat),T.length)]=
 [((0:Nat),G.length),((0:Nat),G.length),((0:Nat),G.length),((0:Nat),T.length)]∧
 (l,p,l,p,y7,l,l,(0:Nat)+l.toNat,p,List.take (1:Nat) (List.drop (0:Nat) [p]),(0:Nat)+l.toNat,
 G.set ((0:Nat)+l.toNat) (G.getD ((0:Nat)+l.toNat) []++List.take (1:Nat) (List.drop (0:Nat) [p])),
 min G.length ((0:Nat)+l.toNat),T,T.length,n,())=
 (l,p,l,p,y7,l,l,(0:Nat)+l.toNat,p,List.take (1:Nat) (List.drop (0:Nat) [p]),(0:Nat)+l.toNat,
 G.set ((0:Nat)+l.toNat) (G.getD ((0:Nat)+l.toNat) []++List.take (1:Nat) (List.drop (0:Nat) [p])),
 min G.length ((0:Nat)+l.toNat),T,T.length,n,PUnit.unit))∧
 (0:Nat)=(0:Nat)∧
 (G.getD ((0:Nat)+l.toNat) []).length=(G.getD ((0:Nat)+l.toNat) []).length∧
 (G.getD ((0:Nat)+l.toNat) []).length+(List.take (1:Nat) (List.drop (0:Nat) [p])).length≤Az∧
 ((0:Int)≤l∧l<(↑G.length:Int))∧
 (0:Nat)=(0:Nat)∧
 (G.getD ((0:Nat)+l.toNat) []++List.take (1:Nat) (List.drop (0:Nat) [p])).length=
 (G.getD ((0:Nat)+l.toNat) []++List.take (1:Nat) (List.drop (0:Nat) [p])).length∧
 (0:Nat)+l.toNat=(0:Nat)+l.toNat∧
 [((0:Nat),G.length),((0:Nat),G.length),((0:Nat),G.length),((0:Nat),T.length)]=
 [((0:Nat),G.length),((0:Nat),G.length),((0:Nat),G.length),((0:Nat),T.length)]∧
 (l,p,l,p,y7,l,l,(0:Nat)+l.toNat,p,List.take (1:Nat) (List.drop (0:Nat) [p]),(0:Nat)+l.toNat,
 G.set ((0:Nat)+l.toNat) (G.getD ((0:Nat)+l.toNat) []++List.take (1:Nat) (List.drop (0:Nat) [p])),
 min G.length ((0:Nat)+l.toNat),T,T.length,n,())=
 (l,p,l,p,y7,l,l,(0:Nat)+l.toNat,p,List.take (1:Nat) (List.drop (0:Nat) [p]),(0:Nat)+l.toNat,
 G.set ((0:Nat)+l.toNat) (G.getD ((0:Nat)+l.toNat) []++List.take (1:Nat) (List.drop (0:Nat) [p])),
 min G.length ((0:Nat)+l.toNat),T,T.length,n,PUnit.unit))∧
 (((0:Int)≤l∧l<(↑G.length:Int))∧
 (0:Nat)=(0:Nat)∧
 (G.getD ((0:Nat)+l.toNat) []).length=(G.getD ((0:Nat)+l.toNat) []).length∧
 (G.getD ((0:Nat)+l.toNat) []).length+(List.take (1:Nat) (List.drop (0:Nat) [p])).length≤Az∧
 ((0:Int)≤l∧l<(↑G.length:Int))∧
 (0:Nat)=(0:Nat)∧
 (G.getD ((0:Nat)+l.toNat) []++List.take (1:Nat) (List.drop (0:Nat) [p])).length=
 (G.getD ((0:Nat)+l.toNat) []++List.take (1:Nat) (List.drop (0:Nat) [p])).length∧
 (0:Nat)+l.toNat=(0:Nat)+l.toNat∧
 [((0:Nat),G.length),((0:Nat),G.length),((0:Nat),G.length),((0:Nat),T.length)]=
 [((0:Nat),G.length),((0:Nat),G.length),((0:Nat),G.length),((0:Nat),T.length)]∧
 (l,p,l,p,y7,l,l,(0:Nat)+l.toNat,p,List.take (1:Nat) (List.drop (0:Nat) [p]),(0:Nat)+l.toNat,
 G.set ((0:Nat)+l.toNat) (G.getD ((0:Nat)+l.toNat) []++List.take (1:Nat) (List.drop (0:Nat) [p])),
 min G.length ((0:Nat)+l.toNat),T,T.length,n,())=
 (l,p,l,p,y7,l,l,(0:Nat)+l.toNat,p,List.take (1:Nat) (List.drop (0:Nat) [p]),(0:Nat)+l.toNat,
 G.set ((0:Nat)+l.toNat) (G.getD ((0:Nat)+l.toNat) []++List.take (1:Nat) (List.drop (0:Nat) [p])),
 min G.length ((0:Nat)+l.toNat),T,T.length,n,PUnit.unit))∧
 ((0:Int)≤l∧l<(↑G.length:Int))∧
 ((0:Nat)=(0:Nat)∧
 (G.getD ((0:Nat)+l.toNat) []).length=(G.getD ((0:Nat)+l.toNat) []).length∧
 (G.getD ((0:Nat)+l.toNat) []).length+(List.take (1:Nat) (List.drop (0:Nat) [p])).length≤Az∧
 ((0:Int)≤l∧l<(↑G.length:Int))∧
 (0:Nat)=(0:Nat)∧
 (G.getD ((0:Nat)+l.toNat) []++List.take (1:Nat) (List.drop (0:Nat) [p])).length=
 (G.getD ((0:Nat)+l.toNat) []++List.take (1:Nat) (List.drop (0:Nat) [p])).length∧
 (0:Nat)+l.toNat=(0:Nat)+l.toNat∧
 [((0:Nat),G.length),((0:Nat),G.length),((0:Nat),G.length),((0:Nat),T.length)]=
 [((0:Nat),G.length),((0:Nat),G.length),((0:Nat),G.length),((0:Nat),T.length)]∧
 (l,p,l,p,y7,l,l,(0:Nat)+l.toNat,p,List.take (1:Nat) (List.drop (0:Nat) [p]),(0:Nat)+l.toNat,
 G.set ((0:Nat)+l.toNat) (G.getD ((0:Nat)+l.toNat) []++List.take (1:Nat) (List.drop (0:Nat) [p])),
 min G.length ((0:Nat)+l.toNat),T,T.length,n,())=
 (l,p,l,p,y7,l,l,(0:Nat)+l.toNat,p,List.take (1:Nat) (List.drop (0:Nat) [p]),(0:Nat)+l.toNat,
 G.set ((0:Nat)+l.toNat) (G.getD ((0:Nat)+l.toNat) []++List.take (1:Nat) (List.drop (0:Nat) [p])),
 min G.length ((0:Nat)+l.toNat),T,T.length,n,PUnit.unit))∧
 ((0:Nat)=(0:Nat)∧
 (G.getD ((0:Nat)+l.toNat) []).length=(G.getD ((0:Nat)+l.toNat) []).length∧
 (G.getD ((0:Nat)+l.toNat) []).length+(List.take (1:Nat) (List.drop (0:Nat) [p])).length≤Az∧
 ((0:Int)≤l∧l<(↑G.length:Int))∧
 (0:Nat)=(0:Nat)∧
 (G.getD ((0:Nat)+l.toNat) []++List.take (1:Nat) (List.drop (0:Nat) [p])).length=
 (G.getD ((0:Nat)+l.toNat) []++List.take (1:Nat) (List.drop (0:Nat) [p])).length∧
 (0:Nat)+l.toNat=(0:Nat)+l.toNat∧
 [((0:Nat),G.length),((0:Nat),G.length),((0:Nat),G.length),((0:Nat),T.length)]=
 [((0:Nat),G.length),((0:Nat),G.length),((0:Nat),G.length),((0:Nat),T.length)]∧
 (l,p,l,p,y7,l,l,(0:Nat)+l.toNat,p,List.take (1:Nat) (List.drop (0:Nat) [p]),(0:Nat)+l.toNat,
 G.set ((0:Nat)+l.toNat) (G.getD ((0:Nat)+l.toNat) []++List.take (1:Nat) (List.drop (0:Nat) [p])),
 min G.length ((0:Nat)+l.toNat),T,T.length,n,())=
 (l,p,l,p,y7,l,l,(0:Nat)+l.toNat,p,List.take (1:Nat) (List.drop (0:Nat) [p]),(0:Nat)+l.toNat,
 G.set ((0:Nat)+l.toNat) (G.getD ((0:Nat)+l.toNat) []++List.take (1:Nat) (List.drop (0:Nat) [p])),
 min G.length ((0:Nat)+l.toNat),T,T.length,n,PUnit.unit))∧
 (0:Nat)=(0:Nat)∧
 (G.getD ((0:Nat)+l.toNat) []).length=(G.getD ((0:Nat)+l.toNat) []).length∧
 (G.getD ((0:Nat)+l.toNat) []).length+(List.take (1:Nat) (List.drop (0:Nat) [p])).length≤Az∧
 ((0:Int)≤l∧l<(↑G.length:Int))∧
 (0:Nat)=(0:Nat)∧
 (G.getD ((0:Nat)+l.toNat) []++List.take (1:Nat) (List.drop (0:Nat) [p])).length=
 (G.getD ((0:Nat)+l.toNat) []++List.take (1:Nat) (List.drop (0:Nat) [p])).length∧
 (0:Nat)+l.toNat=(0:Nat)+l.toNat∧
 [((0:Nat),G.length),((0:Nat),G.length),((0:Nat),G.length),((0:Nat),T.length)]=
 [((0:Nat),G.length),((0:Nat),G.length),((0:Nat),G.length),((0:Nat),T.length)]∧
 (l,p,l,p,y7,l,l,(0:Nat)+l.toNat,p,List.take (1:Nat) (List.drop (0:Nat) [p]),(0:Nat)+l.toNat,
 G.set ((0:Nat)+l.toNat) (G.getD ((0:Nat)+l.toNat) []++List.take (1:Nat) (List.drop (0:Nat) [p])),
 min G.length ((0:Nat)+l.toNat),T,T.length,n,())=
 (l,p,l,p,y7,l,l,(0:Nat)+l.toNat,p,List.take (1:Nat) (List.drop (0:Nat) [p]),(0:Nat)+l.toNat,
 G.set ((0:Nat)+l.toNat) (G.getD ((0:Nat)+l.toNat) []++List.take (1:Nat) (List.drop (0:Nat) [p])),
 min G.length ((0:Nat)+l.toNat),T,T.length,n,PUnit.unit))∧
 (((0:Int)≤l∧l<(↑G.length:Int))∧
 (0:Nat)=(0:Nat)∧
 (G.getD ((0:Nat)+l.toNat) []).length=(G.getD ((0:Nat)+l.toNat) []).length∧
 (G.getD ((0:Nat)+l.toNat) []).length+(List.take (1:Nat) (List.drop (0:Nat) [p])).length≤Az∧
 ((0:Int)≤l∧l<(↑G.length:Int))∧
 (0:Nat)=(0:Nat)∧
 (G.getD ((0:Nat)+l.toNat) []++List.take (1:Nat) (List.drop (0:Nat) [p])).length=
 (G.getD ((0:Nat)+l.toNat) []++List.take (1:Nat) (List.drop (0:Nat) [p])).length∧
 (0:Nat)+l.toNat=(0:Nat)+l.toNat∧
 [((0:Nat),G.length),((0:Nat),G.length),((0:Nat),G.length),((0:Nat),T.length)]=
 [((0:Nat),G.length),((0:Nat),G.length),((0:Nat),G.length),((0:Nat),T.length)]∧
 (l,p,l,p,y7,l,l,(0:Nat)+l.toNat,p,List.take (1:Nat) (List.drop (0:Nat) [p]),(0:Nat)+l.toNat,
 G.set ((0:Nat)+l.toNat) (G.getD ((0:Nat)+l.toNat) []++List.take (1:Nat) (List.drop (0:Nat) [p])),min G.length ((0:Nat)+l.toNat),
 T,T.length,n,())=
 (l,p,l,p,y7,l,l,(0:Nat)+l.toNat,p,List.take (1:Nat) (List.drop (0:Nat) [p]),(0:Nat)+l.toNat,
 G.set ((0:Nat)+l.toNat) (G.getD ((0:Nat)+l.toNat) []++List.take (1:Nat) (List.drop (0:Nat) [p])),min G.length ((0:Nat)+l.toNat),
 T,T.length,n,PUnit.unit))∧
 (((0:Int)≤l∧l<(↑G.length:Int))∧
 (0:Nat)=(0:Nat)∧
 (G.getD ((0:Nat)+l.toNat) []).length=(G.getD ((0:Nat)+l.toNat) []).length∧
 (G.getD ((0:Nat)+l.toNat) []).length+(List.take (1:Nat) (List.drop (0:Nat) [p])).length≤Az∧
 ((0:Int)≤l∧l<(↑G.length:Int))∧
 (0:Nat)=(0:Nat)∧
 (G.getD ((0:Nat)+l.toNat) []++List.take (1:Nat) (List.drop (0:Nat) [p])).length=
 (G.getD ((0:Nat)+l.toNat) []++List.take (1:Nat) (List.drop (0:Nat) [p])).length∧
 (0:Nat)+l.toNat=(0:Nat)+l.toNat∧
 [((0:Nat),G.length),((0:Nat),G.length),((0:Nat),G.length),((0:Nat),T.length)]=
 [((0:Nat),G.length),((0:Nat),G.length),((0:Nat),G.length),((0:Nat),T.length)]∧
 (l,p,l,p,y7,l,l,(0:Nat)+l.toNat,p,List.take (1:Nat) (List.drop (0:Nat) [p]),(0:Nat)+l.toNat,
 G.set ((0:Nat)+l.toNat) (G.getD ((0:Nat)+l.toNat) []++List.take (1:Nat) (List.drop (0:Nat) [p])),
 min G.length ((0:Nat)+l.toNat),T,T.length,n,())=
 (l,p,l,p,y7,l,l,(0:Nat)+l.toNat,p,List.take (1:Nat) (List.drop (0:Nat) [p]),(0:Nat)+l.toNat,
 G.set ((0:Nat)+l.toNat) (G.getD ((0:Nat)+l.toNat) []++List.take (1:Nat) (List.drop (0:Nat) [p])),
 min G.length ((0:Nat)+l.toNat),T,T.length,n,PUnit.unit))∧
 ((0:Int)≤l∧l<(↑G.length:Int))∧
 ((0:Nat)=(0:Nat)∧
 (G.getD ((0:Nat)+l.toNat) []).length=(G.getD ((0:Nat)+l.toNat) []).length∧
 (G.getD ((0:Nat)+l.toNat) []).length+(List.take (1:Nat) (List.drop (0:Nat) [p])).length≤Az∧
 ((0:Int)≤l∧l<(↑G.length:Int))∧
 (0:Nat)=(0:Nat)∧
 (G.getD ((0:Nat)+l.toNat) []++List.take (1:Nat) (List.drop (0:Nat) [p])).length=
 (G.getD ((0:Nat)+l.toNat) []++List.take (1:Nat) (List.drop (0:Nat) [p])).length∧
 (0:Nat)+l.toNat=(0:Nat)+l.toNat∧
 [((0:Nat),G.length),((0:Nat),G.length),((0:Nat),G.length),((0:Nat),T.length)]=
 [((0:Nat),G.length),((0:Nat),G.length),((0:Nat),G.length),((0:Nat),T.length)]∧
 (l,p,l,p,y7,l,l,(0:Nat)+l.toNat,p,List.take (1:Nat) (List.drop (0:Nat) [p]),(0:Nat)+l.toNat,
 G.set ((0:Nat)+l.toNat) (G.getD ((0:Nat)+l.toNat) []++List.take (1:Nat) (List.drop (0:Nat) [p])),
 min G.length ((0:Nat)+l.toNat),T,T.length,n,())=
 (l,p,l,p,y7,l,l,(0:Nat)+l.toNat,p,List.take (1:Nat) (List.drop (0:Nat) [p]),(0:Nat)+l.toNat,
 G.set ((0:Nat)+l.toNat) (G.getD ((0:Nat)+l.toNat) []++List.take (1:Nat) (List.drop (0:Nat) [p])),
 min G.length ((0:Nat)+l.toNat),T,T.length,n,PUnit.unit))∧
 ((0:Nat)=(0:Nat)∧
 (G.getD ((0:Nat)+l.toNat) []).length=(G.getD ((0:Nat)+l.toNat) []).length∧
 (G.getD ((0:Nat)+l.toNat) []).length+(List.take (1:Nat) (List.drop (0:Nat) [p])).length≤Az∧
 ((0:Int)≤l∧l<(↑G.length:Int))∧
 (0:Nat)=(0:Nat)∧
 (G.getD ((0:Nat)+l.toNat) []++List.take (1:Nat) (List.drop (0:Nat) [p])).length=
 (G.getD ((0:Nat)+l.toNat) []++List.take (1:Nat) (List.drop (0:Nat) [p])).length∧
 (0:Nat)+l.toNat=(0:Nat)+l.toNat∧
 [((0:Nat),G.length),((0:Nat),G.length),((0:Nat),G.length),((0:Nat),T.length)]=
 [((0:Nat),G.length),((0:Nat),G.length),((0:Nat),G.length),((0:Nat),T.length)]∧
 (l,p,l,p,y7,l,l,(0:Nat)+l.toNat,p,List.take (1:Nat) (List.drop (0:Nat) [p]),(0:Nat)+l.toNat,
 G.set ((0:Nat)+l.toNat) (G.getD ((0:Nat)+l.toNat) []++List.take (1:Nat) (List.drop (0:Nat) [p])),
 min G.length ((0:Nat)+l.toNat),T,T.length,n,())=
 (l,p,l,p,y7,l,l,(0:Nat)+l.toNat,p,List.take (1:Nat) (List.drop (0:Nat) [p]),(0:Nat)+l.toNat,
 G.set ((0:Nat)+l.toNat) (G.getD ((0:Nat)+l.toNat) []++List.take (1:Nat) (List.drop (0:Nat) [p])),
 min G.length ((0:Nat)+l.toNat),T,T.length,n,PUnit.unit))∧
 (0:Nat)=(0:Nat)∧
 (G.getD ((0:Nat)+l.toNat) []).length=(G.getD ((0:Nat)+l.toNat) []).length∧
 (G.getD ((0:Nat)+l.toNat) []).length+(List.take (1:Nat) (List.drop (0:Nat) [p])).length≤Az∧
 ((0:Int)≤l∧l<(↑G.length:Int))∧
 (0:Nat)=(0:Nat)∧
 (G.getD ((0:Nat)+l.toNat) []++List.take (1:Nat) (List.drop (0:Nat) [p])).length=
 (G.getD ((0:Nat)+l.toNat) []++List.take (1:Nat) (List.drop (0:Nat) [p])).length∧
 (0:Nat)+l.toNat=(0:Nat)+l.toNat∧
 [((0:Nat),G.length),((0:Nat),G.length),((0:Nat),G.length),((0:Nat),T.length)]=
 [((0:Nat),G.length),((0:Nat),G.length),((0:Nat),G.length),((0:Nat),T.length)]∧
 (l,p,l,p,y7,l,l,(0:Nat)+l.toNat,p,List.take (1:Nat) (List.drop (0:Nat) [p]),(0:Nat)+l.toNat,
 G.set ((0:Nat)+l.toNat) (G.getD ((0:Nat)+l.toNat) []++List.take (1:Nat) (List.drop (0:Nat) [p])),
 min G.length ((0:Nat)+l.toNat),T,T.length,n,())=
 (l,p,l,p,y7,l,l,(0:Nat)+l.toNat,p,List.take (1:Nat) (List.drop (0:Nat) [p]),(0:Nat)+l.toNat,
 G.set ((0:Nat)+l.toNat) (G.getD ((0:Nat)+l.toNat) []++List.take (1:Nat) (List.drop (0:Nat) [p])),
 min G.length ((0:Nat)+l.toNat),T,T.length,n,PUnit.unit)))=Afa (Bcm [Js+7]) (look [(180,Anw),(172,Je),(131,Nm),(165,Du),(171,Ad5.m (Lw m))]) (Lw (m+1)) Try.f171 (n,G,T,l,p,()) P:=by kernel_rfl
theorem Ard {k l:Nat} {p:List Int} {s:Ck×Ck} (h:Ho s.2 k l p=true):Db k l p s=s:=by
 cases k with
 |zero=>rfl
 |succ k=>unfold Db;rw [if_pos h]
theorem Arc (k l:Nat) (p:List Int) (s:Ck×Ck):Db (k+1) l p s=if Ho s.2 (k+1) l p=true then s else
   (Xg (Oc (s.1.getD l []++ [some p]) (s.2.getD l [])) (s.1.getD l []++ [some p])).foldl (fun s q=>Db k (l+1) q s)
    (s.1.set l (s.1.getD l []++ [some p]),s.2.set l (Oc (s.1.getD l []++ [some p]) (s.2.getD l []))):=rfl
theorem Bb9 {n:Nat} {p:List Int} (h:Pm n p) {i:Nat} (hi:i<n):idx p (i:Int)=some (ap p i:Int):=by
 have hi':i<p.length:=by rw [h.1];exact hi
 rw [Aj hi',←(h.at' hi).1,Gv hi']
theorem Av4 {x:Int} {gs:List PO} {j:Nat} (hj:j<gs.length) (s:Row×List Int):Pl x (gs.take (j+1)) s=Pv x (Pl x (gs.take j) s) gs[j]:=by
 unfold Pl
 rw [List.take_add_one,List.getElem?_eq_getElem hj,Option.toList_some,List.foldl_append]
 rfl
theorem Av5 {gs:List PO} {f:Nat} {row:Row} :Pc gs f [] row=row:=by cases f<;>rfl
theorem Awv (m:Nat) (a:Int) (b c:Ck) (d:Int) (e:PO):(Lw m).Ch (a,b,c,d,e,())=d.toNat:=rfl
theorem Ac9 {n:Nat} {p:List Int} (h:Pm n p):0<p.length∧p.length≤20:=⟨by rw [h.1];exact h.n1,by rw [h.1];exact h.n2⟩
theorem Aws {n:Nat} {p q:List Int} (h:Pm n p) (k:Pm n q):Hp q.length p:=by rw [k.1];exact h.row
theorem Bfv {m:Nat} (n:Int) (G T:List (List (Option (List Int)))) (l:Int) (p:Option (List Int)) (h:(∃N L q,p=some q∧Ai5 N L n G T l q)∧(n-l).toNat<m+1):
  Afa (Bcm [Js+7]) (look [(180,Anw),(172,Je),(131,Nm),(165,Du),(171,Ad5.m (Lw m))]) (Lw (m+1)) Try.f171 (n,G,T,l,p,()) (fun (z:(Int×List (List (Option (List Int)))×List (List (Option (List Int)))×Unit)×Unit)=>z=((n,(Db (n-l).toNat l.toNat (p.getD []) (G,T)).1,(Db (n-l).toNat l.toNat (p.getD []) (G,T)).2,()),())):=by
 obtain ⟨⟨N,L,q,rfl,h⟩,hm⟩:=h
 have h':=h
 obtain ⟨n1,n2,en,el,hle,v,pm,fx⟩:=h
 subst en el
 have hk:((N:Int)-(L:Int)).toNat=N-L:=by omega
 rw [hk,Int.toNat_natCast]
 refine Eq.mp (Bgf (N:Int) G T (L:Int) (some q) _) ⟨_,if_pos ⟨N,L,?a⟩,?b⟩
 case a=>
  simp only [List.drop_zero,List.take_length,Option.getD_some]
  exact h'
 obtain ⟨v1,v2,v3,v4⟩:=v
 dsimp only at v1 v2
 have hw:IntKind.i64.wrap ((L:Int)+1)=((L+1:Nat):Int):=Al (by omega)
 simp only [List.drop_zero,List.take_length,Option.getD_some,hk,Int.toNat_natCast,Nat.zero_add,eq_self,true_and,and_true,List.take_succ_cons,List.take_zero,List.length_cons,List.length_nil,List.length_set,Awv,hw]
 refine Br.of (fun hh=>⟨by show Int.toNat (L:Int)≤G.length;omega,by show Int.toNat (L:Int)≤T.length;omega,?_⟩) fun hh=>?_
 ·rw [Ard (s:=(G,T)) hh]
 obtain ⟨k,hNk⟩: ∃k,N-L=k+1:=by
  cases e:N-L with
  |zero=>rw [e] at hh;simp [Ho] at hh
  |succ k=>exact ⟨k,rfl⟩
 have hLN:L<N:=by omega
 have hv:V N (k+1) L (G,T):=by rw [←hNk];exact ⟨v1,v2,v3,v4⟩
 rw [hNk] at hh⊢
 have e1:(0:Int)≤(L:Int)∧(L:Int)<(G.length:Int):=by omega
 have e1':(0:Int)≤(L:Int)∧(L:Int)<(T.length:Int):=by omega
 have hgl:(G.getD L []).length≤400:=Bdb n2 (by omega) hv
 have e2:(G.getD L []).length+1≤Az:=by show _≤4294967296;omega
 simp only [e1,e1',e2,and_self,true_and,and_true]
 generalize hgs:G.getD L []++ [some q]=gs
 have hgsl:gs.length≤401:=by rw [←hgs,List.length_append,List.length_singleton];omega
 have hg:PG N L gs:=by rw [←hgs];exact hv.pg pm fx
 have hr0:Og N L gs (T.getD L []):=by rw [←hgs];exact hv.Bgx q
 obtain ⟨r1,r2,r3⟩:=Atd hLN n2 hg hr0
 generalize hR:Oc gs (T.getD L [])=R at r1 r2 r3
 have hval:Db (k+1) L q (G,T)=(Xg R gs).foldl (fun s q=>Db k (L+1) q s) (G.set L gs,T.set L R):=by
  rw [Arc,if_neg (by rw [hh];simp)]
  dsimp only
  rw [hgs,hR]
 rw [hval]
 have hTl:L<T.length:=by omega
 have hGl:L<G.length:=by omega
 have hG1:(G.set L gs).getD L []=gs:=Ab8 G L hGl gs
 have hT1: ∀row:Row,(T.set L row).getD L []=row:=Ab8 T L hTl
 refine ⟨_,if_pos (by show (T.getD L []).length≤20;rw [hr0.rl];exact n2),?_⟩
 dsimp only
 have hn0:(Gm (T.getD L [])).length+Jr (T.getD L [])≤40:=by have:=Apk (T.getD L []);have:=At9 (T.getD L []);have:=hr0.rl;omega
 have hq0:Ayg gs (Gm (T.getD L [])) (T.getD L []):=⟨fun y hy=>Lc.1 hy,fun y hy=> .inl (Lc.2 ⟨y,rfl,hy⟩)⟩
 refine ⟨fun v=> ∃(row:Row) (qu:List Int) (kg kt:Nat),v=(L,G.set L gs,kg,T.set L row,kt,qu,(N:Int),())∧L≤kg∧L≤kt∧qu.length+Jr row≤40∧Og N L gs row∧Ayg gs qu row∧Pc gs (qu.length+Jr row) qu row=R,
  fun v=>v.2.2.2.2.2.1.length+Jr (v.2.2.2.1.getD v.1 []),⟨T.getD L [],Gm (T.getD L []),min G.length L,T.length,?_,by omega,by omega,hn0,hr0,hq0,?_⟩,?_⟩
 ·rw [Alw T L hTl]
 ·rw [←Arm hLN hg 100 _ _ (by omega) hr0 hq0];exact hR
 rintro v ⟨row,qu,kg,kt,rfl,hkg,hkt,hb,hro,hqi,hbf⟩
 dsimp only
 simp only [hG1,hT1,List.length_set]
 refine Br.dec (fun hl=>⟨e1.2,?_⟩) fun hl=>?_
 ·cases qu with
  |nil=>simp at hl
  |cons x qu=>
  obtain ⟨p1,p2,xn,t,rfl,ht⟩:=Awj hLN hg hro hqi
  have hxn:xn<N:=by rw [←hro.rl];exact Ahz ht
  refine Am gs.length (fun v=>v.2.2.1) (fun j v=> ∃kg kt:Nat,v=(L,L,(j:Int),G.set L gs,kg,T.set L (Pl (xn:Int) (gs.take j) (row,qu)).1,kt,(xn:Int)::(Pl (xn:Int) (gs.take j) (row,qu)).2,(N:Int),())∧L≤kg∧L≤kt) rfl ⟨kg,kt,rfl,hkg,hkt⟩ ?_
  rintro j v K hj hi ⟨kg,kt,rfl,h1,h2⟩ hK
  dsimp only
  simp only [hG1,hT1,List.length_set,Int.toNat_natCast]
  refine Br.dec (fun hl=>?_) fun hl=>?_
  ·have hl:j<gs.length:=by omega
   obtain ⟨x1,x2⟩:=Bc4 hLN hg (gs.take j) (q:=qu) (fun o ho=>List.mem_of_mem_take ho) hro ht
   have hst:=Av4 (x:=(xn:Int)) hl (row,qu)
   generalize Pl (xn:Int) (gs.take j) (row,qu)=s at x1 x2 hst⊢
   obtain ⟨r,qq⟩:=s
   dsimp only at x1 x2⊢
   obtain ⟨g,hge,hgp,hgf⟩:=hg gs[j] (List.getElem_mem hl)
   have htx:r.getD xn none=some t:=x1.mono _ _ ht
   obtain ⟨t1,t2,t3,t4⟩:=x1.ok.rt _ _ htx
   have hrl:r.length=N:=x1.ok.rl
   have hgj:gs.getD j none=some g:=by rw [Bb6 hl];exact hge
   have hy:=hgp.lt hxn
   have hga:=(hgp.at' hxn).1
   have hphi:qq.length+Jr r=qu.length+Jr row:=x1.phi
   simp only [List.length_cons] at hb
   simp only [hgj,Option.getD_some]
   refine ⟨⟨by omega,by omega⟩,⟨by omega,by simp only [List.length_cons];omega⟩,_,rfl,_,Bb9 hgp hxn,⟨by omega,by omega⟩,?_⟩
   rw [hge] at hst
   unfold Pv at hst
   dsimp only at hst
   rw [Option.getD_some,hga,Int.toNat_natCast,Int.toNat_natCast,htx,Option.getD_some] at hst
   rw [Int.toNat_natCast]
   refine Br.of (fun hn=>?_) fun hn=>?_
   ·have hn:r.getD (ap g xn) none=none:=by
     cases e:r.getD (ap g xn) none with
     |none=>rfl
     |some u=>rw [e] at hn;simp at hn
    rw [hn] at hst
    refine ⟨⟨by omega,by simp only [List.length_cons];omega⟩,_,rfl,⟨by omega,by omega⟩,some (Aa t g),?_,⟨by omega,by omega⟩,?_,?_⟩
    ·rw [Int.toNat_natCast,htx,Option.getD_some]
     exact if_pos ⟨Ac9 t1,Aws t1 hgp⟩
    ·show qq.length+1+1≤4294967296
     omega
    ·rw [Al (by omega)]
     refine hK hl _ rfl ⟨kg,kt,?_,h1,h2⟩
     rw [hst,List.set_set]
     rfl
   ·have hn: ∃u,r.getD (ap g xn) none=some u:=by
     cases e:r.getD (ap g xn) none with
     |none=>rw [e] at hn;simp at hn
     |some u=>exact ⟨u,rfl⟩
    obtain ⟨u,hn⟩:=hn
    rw [hn] at hst
    rw [Al (by omega)]
    refine hK hl _ rfl ⟨kg,kt,?_,h1,h2⟩
    rw [hst]
  ·have:j=gs.length:=by omega
   subst this
   rw [List.take_length]
   generalize hs:Pl (xn:Int) gs (row,qu)=s at p1 p2⊢
   obtain ⟨r,qq⟩:=s
   dsimp only at p1 p2⊢
   have hphi:qq.length+Jr r=qu.length+Jr row:=p1.phi
   simp only [List.length_cons] at hb hbf
   refine ⟨⟨by omega,by simp only [List.length_cons];omega,Int.le_refl _⟩,⟨r,qq,kg,kt,?_,h1,h2,by omega,p1.ok,p2,?_⟩,?_⟩
   ·simp
   ·rw [show qu.length+1+Jr row=(qu.length+Jr row)+1 by omega] at hbf
    simp only [Pc,hs] at hbf
    rw [hphi]
    exact hbf
   ·simp only [hT1,List.length_cons]
    have:(List.take (qq.length+1-Int.toNat 1) (List.drop (Int.toNat 1) ((xn:Int)::qq))).length=qq.length:=by simp
    rw [this]
    omega
 ·have:qu= []:=List.eq_nil_of_length_eq_zero (by omega)
  subst this
  rw [Av5] at hbf
  subst hbf
  have hpr:=Bc1 hLN hg hro r3
  have hvl:=hv.lower gs row
  have hfold: ∀qs:List (List Int),(∀q∈qs,q∈Xg row gs)→V N k (L+1) (qs.foldl (fun s q=>Db k (L+1) q s) (G.set L gs,T.set L row))∧Sx (L+1) (G.set L gs,T.set L row) (qs.foldl (fun s q=>Db k (L+1) q s) (G.set L gs,T.set L row)):=
   fun qs hqs=>Axv n1 n2 (by omega) qs _ (fun q hq=>hpr q (hqs q hq)) hvl
  refine ⟨_,if_pos (by show row.length≤20;rw [hro.rl];exact n2),?_⟩
  dsimp only
  have hol:=Apk row
  have hrl:=hro.rl
  refine Am (Gm row).length (fun v=>v.2.1) (fun i v=> ∃(s:Ck×Ck) (kg kt:Nat),v=(L,(i:Int),s.1,kg,s.2,kt,Gm row,(N:Int),())∧L≤kg∧L≤kt∧s=(((Gm row).take i).flatMap fun y=>gs.map (Kw row y)).foldl (fun s q=>Db k (L+1) q s) (G.set L gs,T.set L row)) rfl ⟨_,kg,kt,rfl,hkg,hkt,rfl⟩ ?_
  rintro i v K hi hi' ⟨s,kg,kt,rfl,h1,h2,hs⟩ hK
  dsimp only
  have hsub: ∀q∈((Gm row).take i).flatMap (fun y=>gs.map (Kw row y)),q∈Xg row gs:=fun q hq=>by
   obtain ⟨y,hy,hq⟩:=List.mem_flatMap.1 hq
   exact List.mem_flatMap.2 ⟨y,List.mem_of_mem_take hy,hq⟩
  refine Br.dec (fun hl=>?_) fun hl=>?_
  ·have hl:i<(Gm row).length:=by omega
   obtain ⟨f1,f2⟩:=hfold _ hsub
   rw [←hs] at f1 f2
   have g1:s.1.getD L []=gs:=by rw [(f2.low L (by omega)).1];exact hG1
   have g2:s.1.length=N:=f1.1
   obtain ⟨yn,hyn,hyr⟩:=Lc.1 (List.getElem_mem hl)
   obtain ⟨t,ht⟩:=Option.ne_none_iff_exists'.1 hyr
   have hyN:yn<N:=by rw [←hrl];exact Ahz ht
   obtain ⟨t1,t2,t3,t4⟩:=hro.rt _ _ ht
   refine ⟨⟨by omega,by omega⟩,(yn:Int),by rw [Int.toNat_natCast,List.getElem?_eq_getElem hl,hyn],by omega,?_⟩
   rw [g1]
   refine Am gs.length (fun v=>v.2.2.1) (fun j v=> ∃(s':Ck×Ck) (kg kt:Nat),v=(L,L,(j:Int),s'.1,kg,s'.2,kt,Gm row,(N:Int),())∧L≤kg∧L≤kt∧s'=(((Gm row).take i).flatMap (fun y=>gs.map (Kw row y))++(gs.take j).map (Kw row (yn:Int))).foldl (fun s q=>Db k (L+1) q s) (G.set L gs,T.set L row)) rfl ⟨s,kg,kt,rfl,h1,h2,by simpa using hs⟩ ?_
   rintro j v K' hj hj' ⟨s',kg,kt,rfl,h1,h2,hs'⟩ hK'
   dsimp only
   refine Br.dec (fun hl'=>?_) fun hl'=>?_
   ·have hl':j<gs.length:=by omega
    have hsub': ∀q∈((Gm row).take i).flatMap (fun y=>gs.map (Kw row y))++(gs.take j).map (Kw row (yn:Int)),q∈Xg row gs:=fun q hq=>by
     rcases List.mem_append.1 hq with hq|hq
     ·exact hsub q hq
     ·obtain ⟨o,ho,rfl⟩:=List.mem_map.1 hq
      exact List.mem_flatMap.2 ⟨(yn:Int),Lc.2 ⟨yn,rfl,hyr⟩,List.mem_map.2 ⟨o,List.mem_of_mem_take ho,rfl⟩⟩
    obtain ⟨f1',f2'⟩:=hfold _ hsub'
    rw [←hs'] at f1' f2'
    obtain ⟨G',T'⟩:=s'
    dsimp only at f1' f2'⊢
    have g1':G'.getD L []=gs:=by have:=(f2'.low L (by omega)).1;dsimp only at this;rw [this];exact hG1
    have g3':T'.getD L []=row:=by have:=(f2'.low L (by omega)).2;dsimp only at this;rw [this];exact hT1 row
    have g4':G'.length=N:=f1'.1
    have g5':T'.length=N:=f1'.2.1
    obtain ⟨g,hge,hgp,hgf⟩:=hg gs[j] (List.getElem_mem hl')
    have hgj:gs.getD j none=some g:=by rw [Bb6 hl'];exact hge
    have hgm:some g∈gs:=by rw [←hge];exact List.getElem_mem hl'
    have hy:=hgp.lt hyN
    obtain ⟨t',ht'⟩:=Option.ne_none_iff_exists'.1 (r3 yn t g ht hgm)
    obtain ⟨u1,u2,u3,u4⟩:=hro.rt _ _ ht'
    have hsch:Kw row (yn:Int) gs[j]=Aa (Aa t g) (Ah t'):=by rw [hge];exact Zr ht ht'
    have hqm:=hpr _ (List.mem_flatMap.2 ⟨(yn:Int),Lc.2 ⟨yn,rfl,hyr⟩,List.mem_map.2 ⟨gs[j],List.getElem_mem hl',hsch⟩⟩)
    simp only [g1',g3',Int.toNat_natCast,hgj,ht,Option.getD_some]
    have hkp:L<Int.toNat ((L+1:Nat):Int):=by omega
    have hadd:=Aoi n1 n2 k (L+1) _ (G',T') (by omega) f1' hqm.1 hqm.2
    have hadd1:((Db k (L+1) (Aa (Aa t g) (Ah t')) (G',T')).1).length=N:=hadd.v.1
    have hadd2:((Db k (L+1) (Aa (Aa t g) (Ah t')) (G',T')).2).length=N:=hadd.v.2.1
    have hkk:((N:Int)-((L+1:Nat):Int)).toNat=k:=by omega
    refine ⟨⟨by omega,by omega⟩,⟨by omega,by omega⟩,some (Aa t g),if_pos ⟨Ac9 t1,Aws t1 hgp⟩,_,Bb9 hgp hyN,⟨by omega,by omega⟩,Ah t',?_,some (Aa (Aa t g) (Ah t')),?_,_,if_pos ⟨⟨N,L+1,_,rfl,?pr⟩,?lt⟩,⟨hkp,?k1⟩,⟨hkp,?k2⟩,⟨hkp,?k3⟩,⟨hkp,?k4⟩,?go⟩
    case pr=>exact ⟨n1,n2,rfl,rfl,by omega,by rw [show N-(L+1)=k by omega];exact f1',hqm.1,hqm.2⟩
    case lt=>
     show ((N:Int)-((L+1:Nat):Int)).toNat<m
     omega
    case go=>
     dsimp only
     rw [Al (by omega)]
     refine hK' hl' _ rfl ⟨_,_,_,rfl,?_,?_,?_⟩
     ·show L≤min kg (Int.toNat ((L+1:Nat):Int));omega
     ·show L≤min kt (Int.toNat ((L+1:Nat):Int));omega
     ·rw [List.take_add_one,List.getElem?_eq_getElem hl',Option.toList_some,List.map_append,←List.append_assoc,List.foldl_append,←hs']
      simp only [List.map_cons,List.map_nil,List.foldl_cons,List.foldl_nil,hsch,hkk,Int.toNat_natCast,Option.getD_some]
    case k1=>simp only [hkk,Int.toNat_natCast,Option.getD_some];omega
    case k2=>simp only [hkk,Int.toNat_natCast,Option.getD_some];omega
    case k3=>simp only [hkk,Int.toNat_natCast,Option.getD_some];omega
    case k4=>simp only [hkk,Int.toNat_natCast,Option.getD_some];omega
    ·rw [Int.toNat_natCast,ht',Option.getD_some]
     exact if_pos ⟨by show t'.length≤20;rw [u1.1];exact n2,u1.2.row⟩
    ·exact if_pos ⟨Ac9 (t1.comp hgp),Aws (t1.comp hgp) u1.inv⟩
   ·have:j=gs.length:=by omega
    subst this
    rw [Al (by omega)]
    refine hK hl _ rfl ⟨s',kg,kt,rfl,h1,h2,?_⟩
    rw [hs',List.take_length,List.take_add_one,List.getElem?_eq_getElem hl,Option.toList_some,List.flatMap_append,hyn]
    simp
  ·have:i=(Gm row).length:=by omega
   subst this
   rw [List.take_length] at hs
   refine ⟨h1,h2,?_⟩
   rw [hs]
   rfl
theorem Bcg {m:Nat} (ih_add:Dz Try.prog 171 (Lw m)):Dz Try.prog 171 (Lw (m+1)):=
 Dz.mkK (Be0 [Js+7]) (Ad Ba0 (Tt Abk (Ad Akc (Ad Mq (Tt ih_add Ao))))) mixed Try.func171 (by kernel_rfl) (by kernel_rfl) fun x h=>Bfv x.1 x.2.1 x.2.2.1 x.2.2.2.1 x.2.2.2.2.1 h
theorem Awz:Dz Try.prog 171 (Lw 0):=
 Dz.mkK Agb Ao mixed Try.func171 (by kernel_rfl) (by kernel_rfl) fun _ h=>absurd h.2 (Nat.not_lt_zero _)
theorem Aka: ∀m,Dz Try.prog 171 (Lw m)
 |0=>Awz
 |m+1=>Bcg (Aka m)
noncomputable abbrev Aq8:Bp:=mkK Bei (fun x=> ∃N L q,x.2.2.2.2.1=some q∧Ai5 N L x.1 x.2.1 x.2.2.1 x.2.2.2.1 q)
 (fun x=>((x.1,(Db (x.1-x.2.2.2.1).toNat x.2.2.2.1.toNat (x.2.2.2.2.1.getD []) (x.2.1,x.2.2.1)).1,(Db (x.1-x.2.2.2.1).toNat x.2.2.2.1.toNat (x.2.2.2.2.1.getD []) (x.2.1,x.2.2.1)).2,()),()))
theorem Ax0:Dz Try.prog 171 Aq8:=Dz.Bfu (fun x=>(x.1-x.2.2.2.1).toNat) Aka
end Go.Proofs.Ytebabhocakedaaa

namespace Go.Proofs.Ytebabhocakedaaa
open Go.RowKit
def Ph (n:Nat):Ck:=List.replicate n []
def Ut (n i:Nat):Row:=(List.replicate n none).set i (some (upto n))
def Tk (n:Nat):Ck:=(List.range n).map fun i=>Ut n i
def Lh (n:Nat) (gens:List PO):Ck×Ck:=gens.foldl (fun s o=>Db n 0 (o.getD []) s) (Ph n,Tk n)
noncomputable abbrev Avp:Bp:= {shapes:= [none,none],ins:= [(false, .dat tI),(false, .dat tLO)],multi:=false,rshapes:= [none,none,none],outs:= [.dat tI, .grid tO teG false, .grid tO teG false],fn:=fun _=>none,rp:=some 143}
noncomputable abbrev Zp:Bp:=mkK Avp (fun x=>(1≤x.1∧x.1≤20)∧List.length x.2.1≤4294967296∧ ∀o∈(x.2.1:List PO),∃g,o=some g∧Pm x.1.toNat g)
 (fun x=>((x.1,(Lh x.1.toNat x.2.1).1,(Lh x.1.toNat x.2.1).2,()),()))
theorem Aun (n:Int) (gens:List (Option (List Int))) (P:(Int×List (List (Option (List Int)))×List (List (Option (List Int)))×Unit)×Unit→Prop):(((0:Int)≤n∧n<(↑Az:Int)+(1:Int))∧
 n=n∧
 (0:Nat)=(0:Nat)∧
 (List.replicate n.toNat ([]:List (Option (List Int)))).length=(List.replicate n.toNat ([]:List (Option (List Int)))).length∧
 (0:Nat)=(0:Nat)∧
 (0:Nat)=([]:List Int).length∧
 Bv
 (fun (v3:Int×List (List (Option (List Int)))×Int×List (List (Option (List Int)))×PUnit)
 (k4:Int×List (List (Option (List Int)))×Int×List (List (Option (List Int)))×PUnit→Prop)=>
 Br (decide (v3.1<n))
 (((0:Int)≤n∧n<(↑Az:Int)+(1:Int))∧
 n=n∧
 ∃(y5:Option (List Int)),
 Sn.fn (n,())=some y5∧
 ((0:Int)≤v3.1∧v3.1<(↑(List.replicate n.toNat (none:Option (List Int))).length:Int))∧
 (0:Nat)+v3.1.toNat<(List.replicate n.toNat (none:Option (List Int))).length∧
 (0:Nat)=(0:Nat)∧
 (List.replicate n.toNat (none:Option (List Int))).length=((List.replicate n.toNat (none:Option (List Int))).set ((0:Nat)+v3.1.toNat) y5).length∧
 ((0:Nat)=(0:Nat)∧v3.2.2.2.1.length=v3.2.2.2.1.length)∧
 ((0:Nat)=(0:Nat)∧(1:Nat)= [(List.replicate n.toNat (none:Option (List Int))).set ((0:Nat)+v3.1.toNat) y5].length)∧
 (0:Nat)< [(List.replicate n.toNat (none:Option (List Int))).set ((0:Nat)+v3.1.toNat) y5].length∧
 v3.2.2.2.1.length+ [(List.replicate n.toNat (none:Option (List Int))).set ((0:Nat)+v3.1.toNat) y5].length≤Az∧
 (0:Nat)=(0:Nat)∧
 v3.2.1.length=v3.2.1.length∧
 (0:Nat)=(0:Nat)∧
 (v3.2.2.2.1++ [(List.replicate n.toNat (none:Option (List Int))).set ((0:Nat)+v3.1.toNat) y5]).length=
 (v3.2.2.2.1++ [(List.replicate n.toNat (none:Option (List Int))).set ((0:Nat)+v3.1.toNat) y5]).length∧
 k4
 (IntKind.i64.wrap (v3.1+(1:Int)),v3.2.1,v3.2.2.1,v3.2.2.2.1++ [(List.replicate n.toNat (none:Option (List Int))).set ((0:Nat)+v3.1.toNat) y5],
 ()))
 ((0:Nat)=(0:Nat)∧
 v3.2.1.length=v3.2.1.length∧
 (0:Nat)=(0:Nat)∧
 v3.2.2.2.1.length=v3.2.2.2.1.length∧
 Bv
 (fun (v5:Int×List (List (Option (List Int)))×Int×List (List (Option (List Int)))×PUnit)
 (k6:Int×List (List (Option (List Int)))×Int×List (List (Option (List Int)))×PUnit→Prop)=>
 Br (decide (v5.1<(↑gens.length:Int)))
 (∃(y7:Option (List Int)),
 idx gens v5.1=some y7∧
 (0:Nat)=(0:Nat)∧
 v5.2.1.length=v5.2.1.length∧
 (0:Nat)=(0:Nat)∧
 v5.2.2.2.1.length=v5.2.2.2.1.length∧
 ∃(y8:(Int×List (List (Option (List Int)))×List (List (Option (List Int)))×PUnit)×PUnit),
 Aq8.fn (v5.2.2.1,v5.2.1,v5.2.2.2.1,(0:Int),y7,())=some y8∧
 (0:Nat)=(0:Nat)∧
 y8.1.2.1.length=y8.1.2.1.length∧
 (0:Nat)=(0:Nat)∧
 y8.1.2.2.1.length=y8.1.2.2.1.length∧k6 (IntKind.i64.wrap (v5.1+(1:Int)),y8.1.2.1,y8.1.1,y8.1.2.2.1,()))
 (((0:Nat)=(0:Nat)∧v5.2.1.length=v5.2.1.length)∧
 ((0:Nat)=(0:Nat)∧v5.2.2.2.1.length=v5.2.2.2.1.length)∧P ((v5.2.2.1,v5.2.1,v5.2.2.2.1,()),())))
 ((0:Int),v3.2.1,v3.2.2.1,v3.2.2.2.1,PUnit.unit)))
 ((0:Int),List.replicate n.toNat ([]:List (Option (List Int))),n,[],PUnit.unit))=Afa Qd (look [(110,Sn),(171,Aq8)]) Zp Try.f153 (n,gens,()) P:=by kernel_rfl
theorem Rt (n i:Nat):(Ph n).getD i []= []:=by
 unfold Ph
 rw [List.getD_eq_getElem?_getD,List.getElem?_replicate]
 split<;>rfl
theorem Ad0 {n i:Nat} (h:i<n):(Tk n).getD i []=Ut n i:=by
 unfold Tk
 rw [List.getD_eq_getElem?_getD,List.getElem?_map,List.getElem?_range h]
 rfl
theorem Aet {n i y:Nat} (h:i<n):(Ut n i).getD y none=if i=y then some (upto n) else none:=by
 unfold Ut
 rw [Nd,List.length_replicate]
 by_cases e:i=y
 ·rw [if_pos ⟨e,h⟩,if_pos e]
 ·rw [if_neg (fun hh=>e hh.1),if_neg e,List.getD_eq_getElem?_getD,List.getElem?_replicate]
  split<;>rfl
theorem Akp {n:Nat} (h1:1≤n) (h2:n≤20): ∀(k l:Nat),l+k=n→Abz n k l (Ph n,Tk n)
 |0,l,hk=>Rt n l
 |k+1,l,hk=>by
  have hl:l<n:=by omega
  have hg: ∀(g:List Int) (j:Nat),some g∈(Ph n).getD j []→False:=fun g j hg=>by rw [Rt] at hg;cases hg
  refine ⟨Akp h1 h2 k (l+1) (by omega),⟨fun o ho=>?_,?_,?_,fun y t e0=>?_,fun y t g _ hg'=>(hg _ _ hg').elim,fun y t g t' _ hg'=>(hg _ _ hg').elim⟩,fun g hg'=>(hg _ _ hg').elim⟩
  ·have ho:o∈(Ph n).getD l []:=ho
   rw [Rt] at ho;cases ho
  ·show ((Tk n).getD l []).length=n
   rw [Ad0 hl];simp [Ut]
  ·show ((Tk n).getD l []).getD l none=_
   rw [Ad0 hl,Aet hl,if_pos rfl]
  ·replace e0:((Tk n).getD l []).getD y none=some t:=e0
   rw [Ad0 hl,Aet hl] at e0
   by_cases hy:l=y
   ·rw [if_pos hy] at e0
    have e1:=Option.some.inj e0
    subst e1 hy
    exact ⟨Pm.id h1 h2,fun i hi=>Ad8 (by omega),Ad8 hl, .id⟩
   ·rw [if_neg hy] at e0;cases e0
theorem Au6 (n:Nat): ∀(k l:Nat),GBf k l (Ph n,Tk n)
 |0,_=>trivial
 |k+1,l=>⟨Au6 n k (l+1),by show ((Ph n).getD l []).length≤_;rw [Rt];exact Nat.zero_le _⟩
theorem Ayd {n:Nat} (h1:1≤n) (h2:n≤20):V n n 0 (Ph n,Tk n):=⟨by simp [Ph],by simp [Tk],Akp h1 h2 n 0 (by omega),Au6 n n 0⟩
def PmL (n:Nat) (gens:List PO):Prop:= ∀o∈gens,∃g,o=some g∧Pm n g
theorem Arb {n:Nat} {gens:List PO} {j:Nat} (hj:j<gens.length):Lh n (gens.take (j+1))=Db n 0 (gens[j].getD []) (Lh n (gens.take j)):=by
 unfold Lh
 rw [List.take_add_one,List.getElem?_eq_getElem hj,Option.toList_some,List.foldl_append]
 rfl
theorem Af0 {n:Nat} (h1:1≤n) (h2:n≤20): ∀(gens:List PO) (s:Ck×Ck),PmL n gens→V n n 0 s→V n n 0 (gens.foldl (fun s o=>Db n 0 (o.getD []) s) s)∧
  Sx 0 s (gens.foldl (fun s o=>Db n 0 (o.getD []) s) s)∧(∀g,some g∈gens→Gn n ((gens.foldl (fun s o=>Db n 0 (o.getD []) s) s).1.getD 0 []) g)∧ ∀o∈(gens.foldl (fun s o=>Db n 0 (o.getD []) s) s).1.getD 0 [],o∈s.1.getD 0 []∨o∈gens
 | [],s,_,hv=>⟨hv,Sx.refl _ _,(fun _ hg=>by cases hg),fun _ ho=> .inl ho⟩
 |o::gens,s,hg,hv=>by
  obtain ⟨g,rfl,hgp⟩:=hg o (by simp)
  have ha:=Aoi h1 h2 n 0 g s (by omega) hv hgp (fun i hi=>absurd hi (Nat.not_lt_zero _))
  obtain ⟨a1,a2,a3,a4⟩:=Af0 h1 h2 gens (Db n 0 g s) (fun o ho=>hg o (by simp [ho])) ha.v
  refine ⟨a1,ha.grow.trans a2 (Nat.le_refl _),fun g' hg'=>?_,fun o ho=>?_⟩
  ·rcases List.mem_cons.1 hg' with e|hg'
   ·cases e;exact ha.isin.mono fun g hg=>a2.gmono _ _ hg
   ·exact a3 g' hg'
  ·rcases a4 o ho with h|h
   ·rcases ha.gens o h with h|h
    ·exact .inl h
    ·exact .inr (by simp [h])
   ·exact .inr (by simp [h])
theorem Ara {n:Nat} (h1:1≤n) (h2:n≤20) {gens:List PO} (hg:PmL n gens):V n n 0 (Lh n gens):=(Af0 h1 h2 gens _ hg (Ayd h1 h2)).1
theorem Aj4 {n:Nat} (h1:1≤n) (h2:n≤20) {gens:List PO} (hg:PmL n gens) {p:List Int} (hp:Pm n p):Ho (Lh n gens).2 n 0 p=true↔Gn n gens p:=by
 obtain ⟨a1,a2,a3,a4⟩:=Af0 h1 h2 gens _ hg (Ayd h1 h2)
 have hS:PmS n fun g=>some g∈gens:=⟨⟨h1,h2⟩,fun g hg'=>by obtain ⟨g',e,h⟩:=hg _ hg';cases e;exact h⟩
 have hsub: ∀g,some g∈(Lh n gens).1.getD 0 []→some g∈gens:=fun g hg'=>by
  rcases a4 _ hg' with h|h
  ·have h:some g∈(Ph n).getD 0 []:=h
   rw [Rt] at h;cases h
  ·exact h
 have hS':PmS n fun g=>some g∈(Lh n gens).1.getD 0 []:=⟨⟨h1,h2⟩,fun g hg'=>hS.2 g (hsub g hg')⟩
 refine (Adx h1 h2 n 0 (Lh n gens) (by omega) a1.2.2.1 p hp fun i hi=>absurd hi (Nat.not_lt_zero _)).trans ⟨fun h=>h.mono hsub,fun h=>h.trans hS' fun g hg'=>a3 g hg'⟩
theorem Atk (n:Int) (gens:List (Option (List Int))) (h:(1≤n∧n≤20)∧List.length gens≤4294967296∧ ∀o∈(gens:List PO),∃g,o=some g∧Pm n.toNat g):
  Afa Qd (look [(110,Sn),(171,Aq8)]) Zp Try.f153 (n,gens,()) (fun (z:(Int×List (List (Option (List Int)))×List (List (Option (List Int)))×Unit)×Unit)=>z=((n,(Lh n.toNat gens).1,(Lh n.toNat gens).2,()),())):=by
 obtain ⟨⟨h1,h2⟩,h3,hg⟩:=h
 obtain ⟨N,rfl⟩: ∃N:Nat,n=N:=⟨n.toNat,by omega⟩
 rw [Int.toNat_natCast] at hg⊢
 have h1:1≤N:=by omega
 have h2:N≤20:=by omega
 refine Eq.mp (Aun (N:Int) gens _) ?_
 have hm:((0:Int)≤(N:Int)∧(N:Int)<(Az:Int)+1):=⟨by omega,by show (N:Int)<(4294967296:Int)+1;omega⟩
 simp only [hm,and_self,eq_self,true_and,Int.toNat_natCast,Nat.zero_add,List.length_nil,List.length_set,List.length_replicate,List.length_cons,Nat.lt_add_one,List.length_append]
 refine Am N (fun v=>v.1) (fun j v=>v=((j:Int),Ph N,(N:Int),(List.range j).map (Ut N),())) rfl rfl ?_
 rintro j v K hj hi rfl hK
 dsimp only
 refine Br.dec (fun hl=>?_) fun hl=>?_
 ·refine ⟨_,if_pos ⟨by show (1:Int)≤N;omega,by show (N:Int)≤20;omega⟩,⟨by omega,by omega⟩,by rw [Int.toNat_natCast];omega,?_,?_⟩
  ·show _≤4294967296
   simp only [List.length_map,List.length_range]
   omega
  ·rw [Al (by omega)]
   refine hK (by omega) _ rfl ?_
   rw [List.range_succ,List.map_append]
   rfl
 ·have:j=N:=by omega
  subst this
  refine Am gens.length (fun v=>v.1) (fun i v=>v=((i:Int),(Lh j (gens.take i)).1,(j:Int),(Lh j (gens.take i)).2,())) rfl rfl ?_
  rintro i v K' hi' hi'' rfl hK'
  dsimp only
  refine Br.dec (fun hl'=>?_) fun hl'=>?_
  ·have hl':i<gens.length:=by omega
   obtain ⟨g,hge,hgp⟩:=hg gens[i] (List.getElem_mem hl')
   have hv:=Ara h1 h2 (gens:=gens.take i) fun o ho=>hg o (List.mem_of_mem_take ho)
   refine ⟨_,Aj hl',_,if_pos ⟨j,0,g,hge,h1,h2,rfl,rfl,Nat.zero_le _,hv,hgp,fun i hi=>absurd hi (Nat.not_lt_zero _)⟩,?_⟩
   rw [Al (by omega)]
   refine hK' hl' _ rfl ?_
   rw [Arb hl']
   simp only [Int.sub_zero,Int.toNat_natCast]
   rfl
  ·have:i=gens.length:=by omega
   subst this
   rw [List.take_length]
theorem Ahs:Dz Try.prog 153 Zp:=
 Dz.mkK Agb (Ad Aho (Tt Ax0 Ao)) mixed Try.func153 (by kernel_rfl) (by kernel_rfl) fun x h=>Atk x.1 x.2.1 h
end Go.Proofs.Ytebabhocakedaaa

namespace Go.Proofs.Ytebabhocakedaaa
open Go.RowKit
def Rj (T:Ck):Nat→Nat
 |0=>1
 |j+1=>Rj T j*(Gm (T.getD j [])).length
noncomputable abbrev Aat:Spec:=mkS (.pair (.ptr Aqo) (.pair tI .unit)) tI false true (fun x=>x.2.1=0∧ ∃N:Nat,(1≤N∧N≤20)∧x.1.1=N∧V N N 0 (x.1.2.1,x.1.2.2.1)) (fun x=>(Rj x.1.2.2.1 x.1.1.toNat:Int))
noncomputable abbrev Asg:Bp:= {shapes:= [none,none],ins:= [(false, .dat tI),(false, .dat tLL)],multi:=false,rshapes:= [none,none,none],outs:= [.dat tI, .grid tO teG false, .grid tO teG false],fn:=fun _=>none,rp:=some 143}
def Pw (n:Int) (g:List (List Int)):Ck×Ck:=Lh n.toNat (g.map some)
noncomputable abbrev Np:Bp:=mkK Asg (fun x=>(1≤x.1∧x.1≤20)∧List.length x.2.1≤4294967296∧ ∀g∈(x.2.1:List (List Int)),Pm x.1.toNat g)
 (fun x=>((x.1,(Pw x.1 x.2.1).1,(Pw x.1 x.2.1).2,()),()))
noncomputable def Mg (p:PP):Int:=if Ay p=true then (Rj (Pw p.1 p.2.2.1).2 p.1.toNat:Int) else 0
noncomputable abbrev Kc:Spec:=mkS (.pair Ct .unit) tI false true (fun x=>Dk x.1) (fun x=>Mg x.1)
theorem Beb (c:Int×List (List (Option (List Int)))×List (List (Option (List Int)))×Unit) (l:Int) (P:Int→Prop):(Bv
 (fun (v3:Int×Int×PUnit) (k4:Int×Int×PUnit→Prop)=>
 Br (decide (v3.2.1<c.1))
 (∃(y5:List (Option (List Int))),
 idx c.2.2.1 v3.2.1=some y5∧
 ∃(y6:(List Int×PUnit)×PUnit),
 Je.fn (y5,())=some y6∧
 ∃(y7:Int),Iq.fn (List.take y6.1.1.length (List.drop (0:Nat) y6.1.1),())=some y7∧k4 (IntKind.i64.wrap (v3.1*y7),IntKind.i64.wrap (v3.2.1+(1:Int)),()))
 (P v3.1))
 ((1:Int),l,PUnit.unit))=fnW Qd (look [(172,Je),(127,Iq)]) Aat Try.f154 (c,l,()) P:=by kernel_rfl
theorem Ar6 (p:Int×ByteArray×List (List Int)×Unit) (P:Int→Prop):(∃(y2:Bool),
 Dw.fn ((p.1,p.2.1,p.2.2.1,()),())=some y2∧
 Br (!y2) (P (0:Int))
 (∃(y3:(Int×List (List (Option (List Int)))×List (List (Option (List Int)))×PUnit)×PUnit),
 Np.fn (p.1,p.2.2.1,())=some y3∧
 ∃(y4:Int),
 Aat.fn ((y3.1.1,List.take y3.1.2.1.length (List.drop (0:Nat) y3.1.2.1),List.take y3.1.2.2.1.length (List.drop (0:Nat) y3.1.2.2.1),()),(0:Int),())=
 some y4∧
 P y4))=fnW tab (look [(124,Dw),(153,Np),(154,Aat)]) Kc Try.f109 (p,()) P:=by kernel_rfl
theorem Be3 (n i:Nat):(upto n).countP (fun y=>decide ((i:Int)≤y))=n-i:=by
 induction n with
 |zero=>simp [upto]
 |succ n ih=>
  rw [Uu,List.countP_append,ih]
  simp only [List.countP_cons,List.countP_nil,decide_eq_true_eq]
  split<;>omega
theorem Bdh {n i:Nat} {gs:List PO} {row:Row} {H:List Int→Prop} (hi:i<n) (h:Lvl n i gs row H):(Gm row).length≤n-i:=by
 rw [←Be3 n i]
 unfold Gm
 rw [h.rl,←List.countP_eq_length_filter]
 refine List.countP_mono_left fun y hy hs=>?_
 obtain ⟨h1,h2⟩:=Ix.1 hy
 obtain ⟨t,ht⟩:=Option.isSome_iff_exists.1 hs
 obtain ⟨t1,t2,t3,_⟩:=h.rt _ _ ht
 refine decide_eq_true ?_
 refine Classical.byContradiction fun hn=>?_
 have hy':y.toNat<i:=by omega
 have:=t1.inj hi (by omega:y.toNat<n) (by rw [t3,t2 _ hy'])
 omega
def fact:Nat→Nat
 |0=>1
 |n+1=>(n+1)*fact n
theorem As4: ∀n,1≤fact n
 |0=>Nat.le_refl _
 |n+1=>by have:=As4 n;simp only [fact];exact Nat.le_trans this (Nat.le_mul_of_pos_left _ (by omega))
theorem Ayp {a b:Nat} (h:a≤b):fact a≤fact b:=by
 induction h with
 |refl=>exact Nat.le_refl _
 |step _ ih=>simp only [fact];exact Nat.le_trans ih (Nat.le_mul_of_pos_left _ (by omega))
theorem Bbt {n:Nat} {s:Ck×Ck} (hc:Abz n n 0 s): ∀j,j≤n→Rj s.2 j*fact (n-j)≤fact n
 |0,_=>by simp [Rj]
 |j+1,hj=>by
  have ih:=Bbt hc j (by omega)
  have h1:=Bdh (by omega) (Adh n 0 hc j (by omega) (by omega))
  have e:n-j=(n-(j+1))+1:=by omega
  simp only [Rj]
  rw [e] at ih h1
  simp only [fact] at ih
  rw [Nat.mul_assoc]
  exact Nat.le_trans (Nat.mul_le_mul_left _ (Nat.mul_le_mul_right _ h1)) ih
theorem Az7 {n:Nat} (h2:n≤20) {s:Ck×Ck} (hc:Abz n n 0 s) {j:Nat} (hj:j≤n):Rj s.2 j≤2432902008176640000:=by
 have h1:=Bbt hc j hj
 have h3:=As4 (n-j)
 have h4:fact n≤2432902008176640000:=Nat.le_trans (Ayp h2) (by decide)
 have h5:Rj s.2 j*1≤Rj s.2 j*fact (n-j):=Nat.mul_le_mul_left _ h3
 omega
theorem Bdo (c:Int×List (List (Option (List Int)))×List (List (Option (List Int)))×Unit) (l:Int) (h:l=0∧ ∃N:Nat,(1≤N∧N≤20)∧c.1=N∧V N N 0 (c.2.1,c.2.2.1)):
  fnW Qd (look [(172,Je),(127,Iq)]) Aat Try.f154 (c,l,()) (fun (z:Int)=>z=(Rj c.2.2.1 c.1.toNat:Int)):=by
 obtain ⟨rfl,N,⟨h1,h2⟩,hN,v⟩:=h
 obtain ⟨n,G,T,⟨⟩⟩:=c
 dsimp only at hN v⊢
 subst hN
 refine Eq.mp (Beb ((N:Int),G,T,()) 0 _) ?_
 obtain ⟨v1,v2,v3,v4⟩:=v
 dsimp only at v1 v2⊢
 rw [Int.toNat_natCast]
 refine Am N (fun v=>v.2.1) (fun j v=>v.1=(Rj T j:Int)) rfl rfl ?_
 rintro j ⟨o,i,⟨⟩⟩ K hj hi ho hK
 dsimp only at hi ho⊢
 subst hi ho
 refine Br.dec (fun hl=>?_) fun hl=>?_
 ·have hl:j<N:=by omega
  have hT:j<T.length:=by omega
  have hrow:=Adh N 0 v3 j (by omega) (by omega)
  have hrl:=hrow.rl
  dsimp only at hrl
  rw [Asa hT] at hrl
  refine ⟨_,Aj hT,_,if_pos (by show (T[j]).length≤20;omega),_,if_pos trivial,?_⟩
  rw [List.drop_zero,List.take_length,Al (by omega)]
  have hb:=Az7 h2 v3 (j:=j+1) (by omega)
  simp only [Rj] at hb
  rw [Asa hT] at hb
  have e:(Rj T j:Int)*((Gm T[j]).length:Int)=((Rj T j*(Gm T[j]).length:Nat):Int):=by push_cast;rfl
  show K (IntKind.i64.wrap ((Rj T j:Int)*((Gm T[j]).length:Int)),_,())
  rw [e,Bq (by omega) (by omega)]
  refine hK hl _ rfl ?_
  simp only [Rj]
  rw [Asa hT]
 ·have:j=N:=by omega
  subst this
  rfl
theorem Au3:Sound Try.prog 154 Aat:=
 Sound.mkS Agb (Tt Abk (Ad Rq Ao)) mixed Try.func154 (by kernel_rfl) (by kernel_rfl) fun x h=>Bdo x.1 x.2.1 h
theorem Cells.told {w:World} {S:Nat→Prop} {e:Ty} {cs:List Value} {xs:List e.den} (h:Cells w S (.slice e) cs xs): ∃o:Option (List e.den),Cells w S (.oslice e) cs o∧o.getD []=xs:=by
 simp only [Cells] at h
 obtain ⟨a,len,cap,rfl,h1,h2,h3⟩:=h
 cases a with
 |none=>
  rcases h3 with rfl|⟨g,o,h,_⟩
  ·refine ⟨none,?_,rfl⟩
   simp only [Cells]
   exact .inl ⟨trivial,cap,by rw [h1];rfl⟩
  ·cases h
 |some ad=>
  refine ⟨some xs,?_,rfl⟩
  simp only [Cells]
  exact .inr ⟨xs,ad,len,cap,rfl,rfl,h1,h2,h3.imp id fun ⟨g,o,h,h4⟩=>⟨g,o,Option.some.inj h,h4⟩⟩
theorem Av1 {α β:Type} (Q:Nat→α→β→Prop): ∀(xs:List α),(∀i x,xs[i]?=some x→ ∃y,Q i x y)→ ∃ys:List β,ys.length=xs.length∧ ∀i x y,xs[i]?=some x→ys[i]?=some y→Q i x y:=by
 intro xs h
 refine ⟨List.ofFn fun i:Fin xs.length=>Classical.choose (h i xs[i] (List.getElem?_eq_getElem i.2)),by simp,fun i x y h1 h2=>?_⟩
 obtain ⟨hi,rfl⟩:=List.getElem?_eq_some_iff.1 h1
 obtain ⟨hi',rfl⟩:=List.getElem?_eq_some_iff.1 h2
 rw [List.getElem_ofFn]
 exact Classical.choose_spec (h i xs[i] (List.getElem?_eq_getElem hi))
theorem Bc.Bge {w:World} {S:Nat→Prop} {e:Ty} {v:Value} {xs:List (List e.den)} (h:Bc w S (.slice (.slice e)) v xs): ∃os:List (Option (List e.den)),Bc w S (.slice (.oslice e)) v os∧os.map (·.getD [])=xs:=by
 obtain ⟨cs,hc,rfl⟩:=h
 simp only [Cells] at hc
 obtain ⟨a,len,cap,rfl,h1,h2,h3⟩:=hc
 rcases h3 with rfl|⟨g,o,rfl,hg,hS,h4⟩
 ·refine ⟨[],⟨_,?_,rfl⟩,rfl⟩
  simp only [Cells]
  exact ⟨a,len,cap,rfl,h1,h2, .inl trivial⟩
 ·obtain ⟨os,e1,e2⟩:=Av1 (fun i (x:List e.den) (y:Option (List e.den))=>y.getD []=x∧ ∃es:List Value,es.length=1∧(∀j u,es[j]?=some u→w.cell? ⟨g,o+i*1+j,none⟩=some u)∧Cells w S (.oslice e) es y) xs fun i x hx=>by
   obtain ⟨es,k1,k2,k3⟩:=h4 i x hx
   obtain ⟨y,k4,k5⟩:=Cells.told (e:=e) (by simp only [Cells];exact k3)
   exact ⟨y,k5,es,k1,k2,k4⟩
  refine ⟨os,⟨_,?_,rfl⟩,?_⟩
  ·simp only [Cells]
   refine ⟨_,len,cap,rfl,by rw [h1,e1],h2, .inr ⟨g,o,rfl,hg,hS,fun i y hy=>?_⟩⟩
   obtain ⟨hi,_⟩:=List.getElem?_eq_some_iff.1 hy
   obtain ⟨_,es,k1,k2,k3⟩:=e2 i _ y (List.getElem?_eq_getElem (by omega)) hy
   simp only [Cells] at k3
   exact ⟨es,k1,k2,k3⟩
  ·refine List.ext_getElem (by simp [e1]) fun i g1 g2=>?_
   rw [List.getElem_map]
   exact (e2 i _ _ (List.getElem?_eq_getElem g2) (List.getElem?_eq_getElem (by omega))).1
theorem Aki:Dz Try.prog 153 Np:=by
 have h:=Ahs
 refine ⟨h.enter,fun w S π us x r o g vs h1 hg h2 h3 hS h4 h5=>?_⟩
 obtain ⟨n,gens,⟨⟩⟩:=x
 match us,h2 with
 |u1::u2::us,h2=>
  obtain ⟨h6,⟨h7,h8⟩,h9⟩:=h2
  obtain ⟨os,h10,h11⟩:=Bc.Bge (e:=tI) h8
  have h11:os.map (·.getD [])=(gens:List (List Int)):=h11
  have hpre:(1≤n∧n≤20)∧List.length gens≤4294967296∧ ∀g∈(gens:List (List Int)),Pm n.toNat g:=Classical.byContradiction fun hn=>by
   have:Np.fn (n,gens,())=none:=if_neg hn
   rw [this] at h5;cases h5
  have hos:os=gens.map some:=by
   rw [←h11,List.map_map]
   refine (List.map_id os).symm.trans (List.map_congr_left fun x hx=>?_)
   cases x with
   |some y=>rfl
   |none=>
    have:=hpre.2.2 [] (by rw [←h11];exact List.mem_map.2 ⟨none,hx,rfl⟩)
    have h1:=this.n1
    have h2:=this.1
    simp at h2
    omega
  have hv:Np.fn (n,gens,())=some ((n,(Pw n gens).1,(Pw n gens).2,()),()):=if_pos hpre
  rw [hv] at h5
  have h5:=Option.some.inj h5
  refine h.calls w S π (u1::u2::us) (n,os,()) r o g vs h1 hg ⟨h6,⟨h7,h10⟩,h9⟩ h3 hS h4 ?_
  refine (if_pos ⟨hpre.1,by rw [hos,List.length_map];exact hpre.2.1,fun y hy=>?pp⟩).trans (congrArg some ?qq)
  case pp=>
   replace hy:y∈os:=hy
   rw [hos] at hy
   obtain ⟨g,hg,rfl⟩:=List.mem_map.1 hy
   exact ⟨g,rfl,hpre.2.2 g hg⟩
  case qq=>subst hos;exact h5
theorem Adf {p:PP} (hv:Valid p):(1≤p.1∧p.1≤20)∧List.length p.2.2.1≤4294967296∧ ∀g∈p.2.2.1,Pm p.1.toNat g:=
 ⟨hv.n,by have:=hv.few;omega,fun g hg=>⟨by have:=hv.len g hg;omega,Acq (hv.perm g hg)⟩⟩
theorem Ajy {n:Nat} {g:List (List Int)} (h: ∀x∈g,Pm n x):PmL n (g.map some):=fun o ho=>by
 obtain ⟨x,hx,rfl⟩:=List.mem_map.1 ho
 exact ⟨x,rfl,h x hx⟩
theorem Aor {p:PP} (hv:Valid p):V p.1.toNat p.1.toNat 0 (Pw p.1 p.2.2.1):=by
 have:=hv.n
 exact Ara (by omega) (by omega) (Ajy (Adf hv).2.2)
theorem Apw (p:PP) (h:Dk p):fnW tab (look [(124,Dw),(153,Np),(154,Aat)]) Kc Try.f109 (p,()) (fun (z:Int)=>z=Mg p):=by
 refine Eq.mp (Ar6 p _) ⟨_,if_pos h,?_⟩
 show Br (!Ay p) _ _
 unfold Mg
 cases hv:Ay p with
 |false=>exact Br.of (fun _=>rfl) fun hh=>by cases hh
 |true=>
  refine Br.of (fun hh=>by cases hh) fun _=>?_
  have hV:=valid hv
  have hn:=hV.n
  refine ⟨_,if_pos (Adf hV),_,if_pos ⟨rfl,p.1.toNat,⟨by omega,by omega⟩,(Int.toNat_of_nonneg (by omega:(0:Int)≤p.1)).symm,?vv⟩,?_⟩
  case vv=>
   simp only [List.drop_zero,List.take_length]
   exact Aor hV
  simp only [List.drop_zero,List.take_length]
  exact (if_pos trivial).symm
theorem Ag9:Sound Try.prog 109 Kc:=
 Sound.mkS Bi (Ad Us (Tt Aki (Ad Au3 Ao))) mixed Try.func109 (by kernel_rfl) (by kernel_rfl) fun x h=>Apw x.1 h
end Go.Proofs.Ytebabhocakedaaa
