/-
  Part 45 of the proof that the statement FnCommutatorMacros holds.
-/
import Derived.Test.YtfgfigkbgecfnaaCFCommutatorMacros43
namespace Go.Proofs.Ytfgfigkbgecfnaa
open Go.RowKit
def Uh (xs:List Int):List Int:=xs.mergeSort λx y=>decide (x<=y)
noncomputable abbrev Pd:MSpec:=FG [none] [(true,rL)] false [] [] (λx=>short x.1) (λx=>((),(Uh x.1,())))
theorem zN (s:List Int) (P:List Int->Prop):(∃(y2:Bool),Hr.fn (s,())=some y2/\Br (!y2) (P (List.take 0 (List.drop 0 []))) (0=0/\0=([]:List Int).length/\Gz (λ(v3:Int×List Int×PUnit) (k4:Int×List Int×PUnit->Prop)=>Br (decide (v3.1<(↑s.length:Int))) (∃(y5:Int),idx s v3.1=some y5/\Br (v3.1 !=y5) (0=0/\v3.2.1.length=v3.2.1.length/\v3.2.1.length+(List.take 1 (List.drop 0 [y5])).length<=Ga/\0=0/\(v3.2.1++List.take 1 (List.drop 0 [y5])).length=(v3.2.1++List.take 1 (List.drop 0 [y5])).length/\k4 (IntKind.i64.wrap (v3.1+(1:Int)),v3.2.1++List.take 1 (List.drop 0 [y5]),())) (0=0/\v3.2.1.length=v3.2.1.length/\k4 (IntKind.i64.wrap (v3.1+(1:Int)),v3.2.1,()))) (0=0/\v3.2.1.length=v3.2.1.length/\ ∃(y5:PUnit×List Int×PUnit),Pd.fn (v3.2.1,())=some y5/\(y5.2.1.length=v3.2.1.length/\v3.2.1.length=v3.2.1.length)/\P (List.take v3.2.1.length (List.drop 0 y5.2.1)))) ((0:Int),[],PUnit.unit)))=fnW Hi (look [(62,Hr),(63,Pd)]) Tj Try.f29 (s,()) P:=by kernel_rfl
theorem rS (xs:List Int):(Uh xs).length=xs.length:=List.length_mergeSort xs
theorem wO:Jd Try.prog 63 Pd:=by
 refine ⟨Wp Try.func63 (by kernel_rfl) (by kernel_rfl),λw S π us x r o g vs hA _ hIn hP hS LF BF=>?_⟩
 obtain ⟨xs,⟨⟩⟩:=x
 have hp:xs.length<=4294967296:=Cd λhn=>by
  have:Pd.fn (xs,())=none:=Aj hn
  rw [this] at BF;cases BF
 have hv:Pd.fn (xs,())=some ((),(Uh xs,())):=Af hp
 rw [hv] at BF
 cases BF
 cases us with
 |nil=>exact hIn.elim
 |cons u us=>
 cases us with
 |cons u1 us=>exact hIn.2.elim
 |nil=>
 obtain ⟨⟨hO,hR⟩,_⟩:=hIn
 obtain ⟨rfl,_⟩:=hA
 have fin: ∀(w':World),Oe w' (aJ S π λ_=>none) (π (Cp true 0)) tI (Uh xs)->Gw w.heap.size (λb=>Qk π b\/Pd.gv g b) w w'-> ∀e,e=Ending.returned (.tuple #[])->
   ∃v Qu ρ,e= .returned v/\jG Pd w' ρ (Qu.drop Pd.Ui) v/\cE Pd π w' g Qu (Uh xs,())/\Gw w.heap.size (λb=>Qk π b\/Pd.gv g b) w w'/\Jc w' (aJ S π ρ) π 0 Pd.ins (Uh xs,())/\Gk w' (aJ S π ρ) ρ 0 Pd.outs () Qu/\
    aL ρ (λb=>b<w'.heap.size/\(w.heap.size<=b\/ ∃l q,l<Az/\π l=some q/\q.Bu b))/\(∀l,(∀k,k<Pd.Pr->l≠Hb k)->ρ l=none)/\(∀kj∈Pd.keeps,oN w w' (π (Cp false kj.1)) (ρ (Hb kj.2)) (Pd.Ep (xs,()))):=by
  intro w' hf hb e he
  exact ⟨.tuple #[],[],λ_=>none,he,⟨.inr rfl,trivial⟩,trivial,hb,⟨hf,trivial⟩,trivial,⟨λl r b hl=>(by cases hl),λl l' r r' b hl=>(by cases hl)⟩,λ_ _=>rfl,λkj hk=>(by cases hk)⟩
 have BV:Uh []= []:=by simp [Uh]
 show Calls Try.prog _ #[u] w _
 cases hq:π (Cp true 0) with
 |none=>
  rw [hq] at hO hR fin
  obtain ⟨rfl,_,h0⟩:=hO
  obtain rfl:xs= []:=Tn.1 h0
  refine (AnyG.slices_Sort_int_none DW none 0 w).mono λe w' ⟨he,hw⟩=>?_
  subst hw
  exact fin _ BV (Gw.refl _ _ _) e he
 |some q=>
  rw [hq] at hO hR fin
  obtain ⟨ad,rfl,kO,yv⟩:=hO
  obtain ⟨⟨f1,f2⟩,cur,ti,f3,f4,f5,f6,f7⟩:=hR
  by_cases hz:xs.length=0
  ·obtain rfl:xs= []:=Tn.1 hz
   refine (AnyG.slices_Sort_int_none DW (some ad) (q.cap-0) w).mono λe w' ⟨he,hw⟩=>?_
   subst hw
   exact fin _ ⟨⟨f1,f2⟩,cur,ti,f3,f4,f5,by rw [BV];exact Zr _,λi x hx=>by rw [BV] at hx;simp at hx⟩ (Gw.refl _ _ _) e he
  ·have hlen:xs.length<=q.cap:=f6
   have hg:q.g<w.heap.size:=(Hl.1 f3).1
   have ead:ad=⟨q.g,q.o,none⟩:=by
    have:=yv (show 0<q.cap by omega)
    simpa [Ty.size] using this
   have ai: ∀i x,xs[i]?=some x->cur[q.o+i]?=some (.int .i64 x):= λi x hx=>by
    obtain ⟨es,e1,e2,e3⟩:=f7 i x hx
    simp only [Cells] at e3
    subst e3
    have:=e2 0 _ rfl
    simpa [Ty.size] using this
   have hH:Sort.Holds (Value.int .i64) w q.g q.o xs.toArray:= λj hj=>by
    have hj:j<xs.length:=by simpa using hj
    refine ⟨?_,by simp [World.frozen?,f3]⟩
    rw [cellOf f3,ai j xs[j] (Ac hj)]
    simp [hj]
   subst ead
   show Calls Try.prog _ #[.slice (some ⟨q.g,q.o,none⟩) xs.length (q.cap-0)] w _
   refine (AnyG.slices_Sort_int DW q.g q.o (q.cap-0) xs w hH hg (by omega)).mono λe w' ⟨he,n,os,hw⟩=>?_
   have k8:w'.heap=(w.heap.modify q.g (Sort.onCells (Sort.putCells (Value.int .i64) q.o (Uh xs).toArray)))++os:=by rw [hw];rfl
   have qu:w'.heap[q.g]?=some (.cells (Sort.putCells (Value.int .i64) q.o (Uh xs).toArray cur) ti (0,0)):=by
    rw [k8,Hk (by simpa using hg),Array.getElem?_modify,Af rfl,f3]
    rfl
   have ZY:=rS xs
   refine fin w' ⟨⟨f1,f2⟩,_,ti,qu,by simpa [Sort.putCells] using f4,f5,by rw [ZY];exact f6,λi x hx=>?_⟩ ⟨by rw [hw];rfl,by rw [hw];rfl,by rw [hw];rfl,by rw [k8];simp,λk hk hn=>?_⟩ e he
   ·have hi:=(Ai.1 hx).1
    refine ⟨[.int .i64 x],rfl,λj v hj=>?_,rfl⟩
    cases j with
    |succ j=>cases hj
    |zero=>
     cases hj
     have hc:q.o+i<cur.size:=by rw [f4];simp [Ty.size];omega
     show (Sort.putCells (Value.int .i64) q.o (Uh xs).toArray cur)[(q.o+i)*tI.size+0]?=some (.int .i64 x)
     have e1:(q.o+i)*tI.size+0=q.o+i:=by simp [Ty.size]
     rw [e1]
     simp only [Sort.putCells,Array.getElem?_mapIdx,Array.getElem?_eq_getElem hc,Ah]
     rw [Af ⟨by omega,by simp;omega⟩,show q.o+i-q.o=i by omega]
     have:=(Ai.1 hx).2
     simp [hi,this]
   ·rw [k8,Hk (by simpa using hk),Array.getElem?_modify,Aj (show ¬q.g=k from λe=>hn (.inl ⟨_,q,hq,by rw [<-e];exact f1⟩))]
theorem DY (xs:List Int):(Uh xs).Perm xs:=List.mergeSort_perm xs _
theorem wR (xs:List Int):(Uh xs).Pairwise λx y=>decide (x<=y)=true:=
 List.pairwise_mergeSort (le:= λx y:Int=>decide (x<=y)) (λ_ _ _ h1 h2=>Ct (Int.le_trans (Dh h1) (Dh h2))) (λa b=>by
  rcases Int.le_total a b with h|h
  ·simp [h]
  ·simp [h]) xs
theorem MR {xs ys:List Int} (h:xs.Perm ys) (hs:ys.Pairwise λx y=>decide (x<=y)=true):Uh xs=ys:=
 List.Perm.eq_of_pairwise (le:= λx y=>decide (x<=y)=true) (λa b _ _ h1 h2=>Int.le_antisymm (Dh h1) (Dh h2)) (wR xs) hs ((DY xs).trans h)
def dx (s:List Int) (j:Nat):List Int:=((upto j).filter λi=>decide (Gr s i≠i)).map (Gr s)
theorem yT (s:List Int) (j:Nat):dx s (j+1)=dx s j++(if Gr s (j:Int)≠j then [Gr s (j:Int)] else []):=by
 unfold dx
 rw [Wi,List.filter_append,Vw]
 congr 1
 by_cases h:Gr s (j:Int)≠j
 ·rw [Af h,List.filter_cons_of_pos (p:= λi=>decide (Gr s i≠i)) (Ct h)]
  rfl
 ·rw [Aj h,List.filter_cons_of_neg (p:= λi=>decide (Gr s i≠i)) (by simpa using h)]
  rfl
theorem DA (s:List Int) (j:Nat):(dx s j).length<=j:=by
 unfold dx
 rw [Nl]
 have:=List.length_filter_le (λi=>decide (Gr s i≠i)) (upto j)
 rw [Ps] at this
 exact this
theorem uH (n:Nat):(upto n).Pairwise λx y=>decide (x<=y)=true:=by
 unfold upto
 rw [List.pairwise_map]
 exact List.pairwise_lt_range.imp λh=>Ct (Int.ofNat_le.2 (Nat.le_of_lt h))
theorem wc {n:Nat} {s:List Int} (h:Pm n s):Uh (dx s s.length)=Em s:=by
 have hl:=h.1
 have tj:((upto s.length).filter λi=>decide (Gr s i≠i)).Nodup:=(nA _).filter _
 have KU: ∀a∈(upto s.length).filter (λi=>decide (Gr s i≠i)),∀b∈(upto s.length).filter (λi=>decide (Gr s i≠i)),Gr s a=Gr s b->a=b:= λa ha b hb e=>by
  obtain ⟨a0,a1⟩:=Lw.1 (Bk.1 ha).1
  obtain ⟨b0,b1⟩:=Lw.1 (Bk.1 hb).1
  obtain ⟨i,rfl⟩:=Jp a0
  obtain ⟨j,rfl⟩:=Jp b0
  have:=h.inj (i:=i) (j:=j) (by omega) (by omega) (by unfold ap;rw [e])
  rw [this]
 refine MR ((List.perm_ext_iff_of_nodup ?_ tj).2 λv=>⟨λhv=>?_,λhv=>?_⟩) ((uH _).filter _)
 ·unfold dx
  exact List.pairwise_map.2 (tj.imp_of_mem λha hb Hs e=>Hs (KU _ ha _ hb e))
 ·obtain ⟨i,hi,rfl⟩:=Bq.1 hv
  obtain ⟨h1,h2⟩:=Bk.1 hi
  obtain ⟨i0,i1⟩:=Lw.1 h1
  obtain ⟨k,rfl⟩:=Jp i0
  have h2:Gr s (k:Int)≠k:=Dh h2
  obtain ⟨e1,e2⟩:=h.Vy (i:=k) (by omega)
  refine Bk.2 ⟨Lw.2 (by omega),Ct λe=>?_⟩
  obtain ⟨e3,e4⟩:=h.Vy (i:=ap s k) e2
  rw [e1] at e
  have:=h.inj (i:=ap s k) (j:=k) e2 (by omega) (by omega)
  omega
 ·obtain ⟨h1,h2⟩:=Bk.1 hv
  obtain ⟨i0,i1⟩:=Lw.1 h1
  obtain ⟨k,rfl⟩:=Jp i0
  have h2:Gr s (k:Int)≠k:=Dh h2
  obtain ⟨i,hi,IN⟩:=h.yV (k:=k) (by omega)
  obtain ⟨e1,e2⟩:=h.Vy (i:=i) hi
  refine Bq.2 ⟨(i:Int),Bk.2 ⟨Lw.2 (by omega),Ct λe=>?_⟩,by rw [e1,IN]⟩
  have:i=k:=by rw [e1,IN] at e;omega
  subst this
  rw [e1,IN] at h2
  exact h2 rfl
theorem ze (s:List Int) (h:Hq s=true/\s.length<=12):fnW Hi (look [(62,Hr),(63,Pd)]) Tj Try.f29 (s,()) (λ(z:List Int)=>z=Em s):=by
 obtain ⟨hp,hl⟩:=h
 have zZ:Pm s.length s:=⟨rfl,bq hp⟩
 have hs:short s:=by show s.length<=4294967296;omega
 refine Eq.mp (zN s _) ⟨Hq s,Af hs,?_⟩
 rw [hp]
 refine Br.of (λhc=>by cases hc) λ_=>⟨rfl,rfl,?_⟩
 refine Cl s.length (λv=>v.1) (λj v=>v.2.1=dx s j) rfl rfl ?_
 rintro j ⟨j',out,⟨⟩⟩ K hj iR ho hK
 dsimp only at iR ho
 subst iR
 have hol:out.length<=j:=by rw [ho];exact DA s j
 dsimp only
 refine Br.dec (λp9=>?_) λp9=>?_
 ·have p9:j<s.length:=by omega
  have hg:Gr s (j:Int)=s[j]:=Kp p9
  have hn:=yT s j
  rw [hg,<-ho] at hn
  refine ⟨_,El p9,Br.of (λhc=>?_) λhc=>?_⟩
  ·have hc:s[j]≠(j:Int):=by intro e;rw [e] at hc;simp at hc
   refine ⟨rfl,rfl,by show out.length+1<=4294967296;omega,rfl,rfl,?_⟩
   rw [Dr (by omega)]
   refine hK p9 _ rfl ?_
   rw [hn,Af hc]
   rfl
  ·have hc: ¬s[j]≠(j:Int):= λe=>by have e2:(j:Int)≠s[j]:= λh=>e h.symm;rw [bne_iff_ne.2 e2] at hc;cases hc
   refine ⟨rfl,rfl,?_⟩
   rw [Dr (by omega)]
   refine hK p9 _ rfl ?_
   rw [hn,Aj hc,List.append_nil]
 ·have:j=s.length:=by omega
  subst this
  refine ⟨rfl,rfl,((),(Uh out,())),Af (show out.length<=4294967296 by omega),⟨rS out,rfl⟩,?_⟩
  show List.take out.length (List.drop 0 (Uh out))=Em s
  rw [Kg,<-rS out,Bj,ho]
  exact wc zZ
theorem ow:Sound Try.prog 29 Tj:=
 Sound.Kx Gc (Cg aE (Zy wO Dk)) mixed Try.func29 (by kernel_rfl) (by kernel_rfl) λx h=>ze x.1 h
theorem rO:Sound Try.prog 8 Xj:=
 Sound.Kx Gc (Cg jz (Cg nm (Cg cj (Cg oq (Cg jx (Cg nk (Cg ow Dk))))))) mixed Try.func8 (by kernel_rfl) (by kernel_rfl) λx h=>DF x.1 h
abbrev pR:Type:=Int×Int×ByteArray×List (List Int)×PUnit
theorem EN (code:List Int) (P:Bool->Prop):(∃(y2:Bool),pJ.fn (code,())=some y2/\Br y2 (P true) (∃(y3:(List Int×Int×Int×PUnit)×PUnit),ju.fn (code,(1121:Int),())=some y3/\ ∃(y4:(List Int×Int×Int×Int×ByteArray×List (List Int)×PUnit)×PUnit),pM.fn (y3.1.1,y3.1.2.1,y3.1.2.2.1,())=some y4/\ ∃(y5:List (List Int×List Int×PUnit)),Xj.fn ((y4.1.2.2.2.1,y4.1.2.2.2.2.1,List.take y4.1.2.2.2.2.2.1.length (List.drop 0 y4.1.2.2.2.2.2.1),()),())=some y5/\Gz (λ(v6:pR) (k7:pR->Prop)=>Br (decide (v6.1<(↑y5.length:Int))) (∃(y8:List Int×List Int×PUnit),idx y5 v6.1=some y8/\ ∃(y9:List Int×List Int×PUnit),idx y5 v6.1=some y9/\ ∃(y10:Bool),Tg.fn ((v6.2.1,v6.2.2.1,v6.2.2.2.1,()),y9,())=some y10/\Br (!y10) (P false) (Br ((↑y8.1.length:Int) !=(4:Int)) (P false) (∃(iP:Int),idx y8.1 (2:Int)=some iP/\ ∃(pW:Int),idx y8.1 (0:Int)=some pW/\Br (iP !=IntKind.i64.wrap ((0:Int)-pW)) (P false) (∃(HO:Int),idx y8.1 (3:Int)=some HO/\ ∃(FI:Int),idx y8.1 (1:Int)=some FI/\Br (HO !=IntKind.i64.wrap ((0:Int)-FI)) (P false) (k7 (IntKind.i64.wrap (v6.1+(1:Int)),v6.2.1,v6.2.2.1,v6.2.2.2.1,())))))) (∃(y8:Bool),gr.fn (v6.2.1,v6.2.2.2.1,())=some y8/\P (((↑y5.length:Int)==(0:Int))==y8))) ((0:Int),y4.1.2.2.2.1,y4.1.2.2.2.2.1,List.take y4.1.2.2.2.2.2.1.length (List.drop 0 y4.1.2.2.2.2.2.1),PUnit.unit)))=fnW (MT [bD+4,dA]) (look [(5,pJ),(6,ju),(7,pM),(8,Xj),(9,Tg),(10,gr)]) wH Try.f3 (code,()) P:=by kernel_rfl
theorem DH (code:List Int) (h:qh code):fnW (MT [bD+4,dA]) (look [(5,pJ),(6,ju),(7,pM),(8,Xj),(9,Tg),(10,gr)]) wH Try.f3 (code,()) (λ(z:Bool)=>z=true):=by
 refine Eq.mp (EN code _) ⟨_,Af trivial,Br.dec (λ_=>rfl) λhb=>?_⟩
 have hb: ¬(code.length:Int)>4096:=hb
 have SR:=UK h hb
 refine ⟨_,Af (show code.length<=4096 by omega),_,Af SR,?_⟩
 obtain ⟨hp,NJ⟩:=x4 SR (jg code 1121)
 obtain ⟨W,hW⟩: ∃W,Ve code 0 (jg code 1121)=W:=⟨_,rfl⟩
 rw [hW] at hp NJ
 simp only [hW,Ou]
 obtain ⟨i1,h1,n,str,g,u⟩:=W
 obtain rfl:u=():=rfl
 dsimp only at hp NJ⊢
 clear hW
 have hs:=hp.short
 have hv:=hp.valid
 have IM:=hp.hi
 have h8:=(valid hv).AY.2
 dsimp only at IM h8
 have nS:= λm=>vz hv (m:=m)
 have BN:=vA hv
 have e5:Xj.fn ((n,str,g,()),())=some (Nz (n,str,g,())):=Af ⟨hs,by show n<=12;omega⟩
 refine ⟨_,e5,?_⟩
 obtain ⟨L,hL⟩: ∃L,Nz (n,str,g,())=L:=⟨_,rfl⟩
 rw [hL] at BN
 simp only [hL] at nS
 rw [hL]
 have FD:L.length<=1000:=by
  have h2:=iW (n,str,g,()) (by show (Be g.length).length<=16;rw [Tv];omega) (Be g.length) ([],Sb (λ_=>none) (Jk (upto n.toNat)) true)
  have h3:Nz (n,str,g,())=(eM (n,str,g,()) (Be g.length)).1:=Af hv
  rw [<-hL,h3]
  have h2:(eM (n,str,g,()) (Be g.length)).1.length<=0+16*(Be g.length).length:=h2
  rw [Tv] at h2
  omega
 refine Cl L.length (λv=>v.1) (λj v=>v.2=(n,str,g,())) rfl rfl ?_
 rintro j ⟨j',P'⟩ K hj iR hP hK
 dsimp only at iR hP
 subst hP iR
 refine Br.dec (λhl=>?_) λhl=>?_
 ·have hl:j<L.length:=by omega
  obtain ⟨x,y,hx,hy,hm,Hs⟩:=nS _ (Ar hl)
  have LC:=yi hv hx hy Hs
  have zZ:=vB hv hx hy
  rw [<-hm] at LC
  obtain ⟨M,hM⟩: ∃M,L[j]=M:=⟨_,rfl⟩
  have NO:idx L (j:Int)=some M:=by rw [<-hM];exact El hl
  rw [hM] at hm LC
  subst hm
  have cB:=yP (Jj (n,str,g,()) x y)
  have hsm:short (Em (Jj (n,str,g,()) x y)):=by
   have h2:=wx zZ
   show (Em (Jj (n,str,g,()) x y)).length<=4294967296
   omega
  have e9:Tg.fn ((n,str,g,()),(Ni x y,Em (Jj (n,str,g,()) x y),()),())=some true:=(Af ⟨hs,show (Ni x y).length<=4294967296 by show 4<=4294967296;decide,hsm⟩).trans (Fh some LC)
  have hx:x≠0/\ -(g.length:Int)<=x/\x<=g.length:=hx
  have hy:y≠0/\ -(g.length:Int)<=y/\y<=g.length:=hy
  have SK:IntKind.i64.wrap (0-x)= -x:=by rw [En (by omega) (by omega)];omega
  have SL:IntKind.i64.wrap (0-y)= -y:=by rw [En (by omega) (by omega)];omega
  have ewj:IntKind.i64.wrap ((j:Int)+1)=((j+1:Nat):Int):=Dr (by omega)
  refine ⟨_,NO,_,NO,_,e9,Br.of (λhc=>by cases hc) λ_=>Br.of (λhc=>by cases hc) λ_=>?_⟩
  refine ⟨-x,rfl,x,rfl,?_⟩
  rw [SK]
  refine Br.of (λhc=>by simp at hc) λ_=>⟨-y,rfl,y,rfl,?_⟩
  rw [SL]
  refine Br.of (λhc=>by simp at hc) λ_=>?_
  rw [ewj]
  exact hK hl _ rfl rfl
 ·have e8:gr.fn (n,g,())=some (gh n g):=Af hs.2
  refine ⟨_,e8,?_⟩
  refine Bool.eq_iff_iff.2 ⟨λ_=>rfl,λ_=>?_⟩
  have h1:(((L.length:Nat):Int)==0)=gh n g:=Bool.eq_iff_iff.2 (by
   rw [beq_iff_eq]
   exact ⟨λh2=>BN.1 (Tn.1 (by omega)),λh2=>by rw [BN.2 h2];rfl⟩)
  rw [h1]
  exact beq_self_eq_true _
theorem rQ:Sound Try.prog 3 wH:=
 Sound.Kx (MU [bD+4,dA]) (Cg zq (Zy wN (Zy zu (Cg rO (Cg om (Cg wM Dk)))))) mixed Try.func3 (by kernel_rfl) (by kernel_rfl) λx h=>DH x.1 h
end Go.Proofs.Ytfgfigkbgecfnaa
