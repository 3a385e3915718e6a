/-
  Part 46 of the proof that the statement FnExactIsMethodSolution holds.
-/
import Derived.Test.YtebabhocakedaaaCIsMethodSolution44
namespace Go.Proofs.Ytebabhocakedaaa
open Go.RowKit
theorem Aeb {α:Type} [DecidableEq α]: ∀ {l1 l2:List α},l1.Nodup→(∀x∈l1,x∈l2)→l1.length≤l2.length
 | [],_,_,_=>Nat.zero_le _
 |a::l,l2,hn,hs=>by
  obtain ⟨h1,h2⟩:=List.nodup_cons.1 hn
  have ha:=hs a (by simp)
  have:=Aeb (l1:=l) (l2:=l2.erase a) h2 fun y hy=>by
   have hya:y≠a:=fun e'=>h1 (by rw [←e'];exact hy)
   exact (List.mem_erase_of_ne hya).2 (hs y (by simp [hy]))
  rw [List.length_erase_of_mem ha] at this
  have:=List.length_pos_of_mem ha
  simp only [List.length_cons]
  omega
def Afo (n:Nat) (T:Ck):Nat→Nat→List (List Int)
 |0,_=> [upto n]
 |k+1,l=>(Gm (T.getD l [])).flatMap fun y=>(Afo n T k (l+1)).map fun q=>Aa q (((T.getD l []).getD y.toNat none).getD [])
def Anm (T:Ck):Nat→Nat→Nat
 |0,_=>1
 |k+1,l=>(Gm (T.getD l [])).length*Anm T k (l+1)
theorem At1 (n:Nat) (T:Ck): ∀k l,(Afo n T k l).length=Anm T k l
 |0,_=>rfl
 |k+1,l=>by
  simp only [Afo,Anm,List.length_flatMap,List.length_map,At1 n T k (l+1)]
  generalize Gm (T.getD l [])=o
  induction o with
  |nil=>simp
  |cons a o ih=>simp only [List.map_cons,List.sum_cons,ih,List.length_cons,Nat.succ_mul];omega
theorem Anf (T:Ck): ∀k j,Rj T (j+k)=Rj T j*Anm T k j
 |0,j=>by simp [Anm]
 |k+1,j=>by
  have:=Anf T k (j+1)
  rw [show j+(k+1)=j+1+k by omega,this]
  simp only [Rj,Anm]
  rw [Nat.mul_assoc]
theorem Ate (n:Nat) (T:Ck):(Afo n T n 0).length=Rj T n:=by
 rw [At1,show Rj T n=Rj T (0+n) by rw [Nat.zero_add],Anf]
 simp [Rj]
theorem Ajg {n:Nat} (h1:1≤n) (h2:n≤20) {s:Ck×Ck} : ∀(k l:Nat),l+k=n→Abz n k l s→ ∀p,p∈Afo n s.2 k l↔Pm n p∧Fx l p∧Ho s.2 k l p=true
 |0,l,hk,hc,p=>by
  have hl:l=n:=by omega
  subst hl
  simp only [Afo,List.mem_singleton]
  exact ⟨fun e=>by subst e;exact ⟨Pm.id h1 h2,fun i hi=>Ad8 hi,rfl⟩,fun h=>h.2.1.all h.1⟩
 |k+1,l,hk,hc,p=>by
  obtain ⟨c1,c2,c3⟩:=hc
  have ih:=Ajg h1 h2 k (l+1) (by omega) c1
  have hln:l<n:=by omega
  simp only [Afo,List.mem_flatMap,List.mem_map]
  constructor
  ·rintro ⟨y,hy,q,hq,rfl⟩
   obtain ⟨yn,rfl,hyn⟩:=Lc.1 hy
   obtain ⟨t,ht⟩:=Option.ne_none_iff_exists'.1 hyn
   obtain ⟨t1,t2,t3,t4⟩:=c2.rt _ _ ht
   obtain ⟨q1,q2,q3⟩:=(ih q).1 hq
   rw [Int.toNat_natCast,ht,Option.getD_some]
   have hap:ap (Aa q t) l=yn:=by rw [Ey q1 t1 hln,q2 l (by omega),t3]
   refine ⟨q1.comp t1,fun i hi=>by rw [Ey q1 t1 (by omega),q2 i (by omega),t2 i hi],?_⟩
   simp only [Ho]
   rw [show (Gk (Aa q t) (l:Int)).toNat=ap (Aa q t) l from rfl,hap,ht]
   show Ho s.2 k (l+1) (Aa (Aa q t) (Ah t))=true
   rw [Dc q1 t1 t1.inv,Adg t1,comp_id q1]
   exact q3
  ·rintro ⟨p1,p2,p3⟩
   simp only [Ho] at p3
   rw [show (Gk p (l:Int)).toNat=ap p l from rfl] at p3
   split at p3
   ·cases p3
   ·rename_i t ht
    obtain ⟨t1,t2,t3,t4⟩:=c2.rt _ _ ht
    refine ⟨(ap p l:Int),Lc.2 ⟨ap p l,rfl,by rw [ht];simp⟩,Aa p (Ah t),(ih _).2 ⟨p1.comp t1.inv,Fx.div p1 t1 p2 t2 hln t3,p3⟩,?_⟩
    rw [Int.toNat_natCast,ht,Option.getD_some,Dc p1 t1.inv t1,Uf t1,comp_id p1]
theorem Ajh {n:Nat} (h1:1≤n) (h2:n≤20) {s:Ck×Ck} : ∀(k l:Nat),l+k=n→Abz n k l s→(Afo n s.2 k l).Nodup
 |0,l,hk,hc=>by simp [Afo]
 |k+1,l,hk,hc=>by
  obtain ⟨c1,c2,c3⟩:=hc
  have ih:=Ajh h1 h2 k (l+1) (by omega) c1
  have hm:=Ajg h1 h2 k (l+1) (by omega) c1
  have hln:l<n:=by omega
  have rep: ∀y∈Gm (s.2.getD l []),∃(yn:Nat) (t:List Int),y=yn∧((s.2.getD l []).getD y.toNat none).getD []=t∧Pm n t∧ap t l=yn:=fun y hy=>by
   obtain ⟨yn,rfl,hyn⟩:=Lc.1 hy
   obtain ⟨t,ht⟩:=Option.ne_none_iff_exists'.1 hyn
   obtain ⟨t1,t2,t3,t4⟩:=c2.rt _ _ ht
   exact ⟨yn,t,rfl,by rw [Int.toNat_natCast,ht];rfl,t1,t3⟩
  simp only [Afo]
  refine List.pairwise_flatMap.2 ⟨fun y hy=>?_,?_⟩
  ·obtain ⟨yn,t,rfl,e,t1,t3⟩:=rep y hy
   rw [e]
   refine List.pairwise_map.2 (List.Pairwise.imp_of_mem ?_ ih)
   intro a b ha hb hne he
   have ha:=((hm a).1 ha).1
   have hb:=((hm b).1 hb).1
   have h3:=congrArg (fun z=>Aa z (Ah t)) he
   simp only [Dc ha t1 t1.inv,Dc hb t1 t1.inv,Adg t1,comp_id ha,comp_id hb] at h3
   exact hne h3
  ·refine List.Pairwise.imp_of_mem ?_ ((Akx _).filter _)
   intro y z hy hz hne a ha b hb he
   obtain ⟨yn,t,rfl,e,t1,t3⟩:=rep y hy
   obtain ⟨zn,u,rfl,e',u1,u3⟩:=rep z hz
   rw [e] at ha
   rw [e'] at hb
   obtain ⟨q,hq,rfl⟩:=List.mem_map.1 ha
   obtain ⟨q',hq',rfl⟩:=List.mem_map.1 hb
   obtain ⟨a1,a2,_⟩:=(hm q).1 hq
   obtain ⟨b1,b2,_⟩:=(hm q').1 hq'
   have h3:=congrArg (fun z=>ap z l) he
   simp only [Ey a1 t1 hln,Ey b1 u1 hln,a2 l (by omega),b2 l (by omega),t3,u3] at h3
   exact hne (by rw [h3])
theorem Af2 {g:List (List Int)} (Q:List Int→Prop) {x:List Int} {d:Int} : ∀(ls:List Int) (L:List (List Int)) (D:List Int),(∀l∈ls,Q (Aa x (Ae g l)))→(∀y∈L,Q y)→
  (∀y∈(Ga g x d ls L D).1,Q y)∧(∀y∈L,y∈(Ga g x d ls L D).1)∧((Ga g x d ls L D).2.2=true→ ∀l∈ls,Aa x (Ae g l)∈(Ga g x d ls L D).1)∧
   ((Ga g x d ls L D).2.2=false→(Ga g x d ls L D).1.length=3000∧ ∃z,Q z∧z∉(Ga g x d ls L D).1)
 | [],L,D,_,h=>⟨h,fun _ h=>h,(fun _ l hl=>by cases hl),(fun e=>by cases e)⟩
 |l::ls,L,D,hq,h=>by
  have hq': ∀l∈ls,Q (Aa x (Ae g l)):=fun l' h'=>hq l' (List.mem_cons_of_mem _ h')
  simp only [Ga]
  split
  ·rename_i hm
   obtain ⟨a1,a2,a3,a4⟩:=Af2 Q (d:=d) ls L D hq' h
   refine ⟨a1,a2,fun e l' hl'=>?_,a4⟩
   rcases List.mem_cons.1 hl' with rfl|hl'
   ·exact a2 _ hm
   ·exact a3 e l' hl'
  ·rename_i hn
   split
   ·rename_i hf
    exact ⟨h,fun _ h=>h,(fun e=>by cases e),fun _=>⟨hf,_,hq l (by simp),hn⟩⟩
   ·obtain ⟨a1,a2,a3,a4⟩:=Af2 Q (d:=d) ls (L++ [Aa x (Ae g l)]) (D++ [d+1]) hq' fun y hy=>by
     rcases List.mem_append.1 hy with hy|hy
     ·exact h y hy
     ·rw [List.mem_singleton.1 hy];exact hq l (by simp)
    refine ⟨a1,fun y hy=>a2 y (List.mem_append_left _ hy),fun e l' hl'=>?_,a4⟩
    rcases List.mem_cons.1 hl' with rfl|hl'
    ·exact a2 _ (List.mem_append_right _ (by simp))
    ·exact a3 e l' hl'
theorem Amj {p:PP} (hV:Valid p) {m:Nat} {ls:List Int} (hl: ∀l∈ls,Ef (List.length p.2.2.1) l) (Q:List Int→Prop) (hQ: ∀x,Q x→ ∀l∈ls,Q (Aa x (Ae p.2.2.1 l))):
  ∀(f k:Nat) (L:List (List Int)) (D:List Int),3001≤f+k→k≤L.length→Pj p m L D→(∀y∈L,Q y)→(∀(j:Nat) (h:j<L.length),j<k→ ∀l∈ls,Aa L[j] (Ae p.2.2.1 l)∈L)→
  (∀y∈(Hm p.2.2.1 ls f k L D).1,Q y)∧((Hm p.2.2.1 ls f k L D).2.2=true→ ∀x∈(Hm p.2.2.1 ls f k L D).1,∀l∈ls,Aa x (Ae p.2.2.1 l)∈(Hm p.2.2.1 ls f k L D).1)∧
   ((Hm p.2.2.1 ls f k L D).2.2=false→(Hm p.2.2.1 ls f k L D).1.length=3000∧ ∃z,Q z∧z∉(Hm p.2.2.1 ls f k L D).1)
 |0,k,L,D,hf,hkL,hb,hq,hc=>by
  have:=hb.ok.few
  omega
 |f+1,k,L,D,hf,hkL,hb,hq,hc=>by
  simp only [Hm]
  split
  ·rename_i hk
   have hkD:k<D.length:=by rw [hb.len];exact hk
   have hd:=hb.dep k hkD
   have e:D.getD k 0=D[k]:=by rw [List.getD_eq_getElem?_getD,List.getElem?_eq_getElem hkD];rfl
   rw [Mc hk,e]
   obtain ⟨k1,⟨A,k2⟩,_⟩:=Adc hV (hb.row _ (List.getElem_mem hk)) (hb.ok.len _ (List.getElem_mem hk)) (d:=D[k]) ls L D hl hb ⟨by omega,by omega⟩
   obtain ⟨a1,a2,a3,a4⟩:=Af2 (g:=p.2.2.1) Q (x:=L[k]) (d:=D[k]) ls L D (hQ _ (hq _ (List.getElem_mem hk))) hq
   split
   ·rename_i L' D' he
    rw [he] at k1 k2 a1 a2 a3 a4
    have k2:L'=L++A:=k2
    refine Amj hV hl Q hQ f (k+1) L' D' (by omega) (by rw [k2,List.length_append];omega) k1 a1 fun j hj hjk l hl'=>?_
    by_cases e':j<k
    ·have e2:L'[j]=L[j]:=by simp only [k2];rw [List.getElem_append_left (by omega)]
     rw [e2];exact a2 _ (hc j (by omega) e' l hl')
    ·have:j=k:=by omega
     subst this
     have e2:L'[j]=L[j]:=by simp only [k2];rw [List.getElem_append_left (by omega)]
     rw [e2];exact a3 rfl l hl'
   ·rename_i L' D' he
    rw [he] at a1 a4
    exact ⟨a1,(fun e=>by cases e),fun _=>a4 rfl⟩
  ·rename_i hk
   refine ⟨hq,fun _ x hx l hl'=>?_,fun e=>by cases e⟩
   obtain ⟨j,hj,rfl⟩:=List.mem_iff_getElem.1 hx
   have hj:j<L.length:=hj
   exact hc j hj (by omega) l hl'
theorem Bd4 {p:PP} (hv:Ay p=true) {s:List Int} (hs:s.length≤20) (hr: ∀y∈s,0≤y∧y<p.1) (Q:List Int→Prop) (hQs:Q s) (hQ: ∀x,Q x→ ∀l∈Be p.2.2.1.length,Q (Aa x (Ae p.2.2.1 l))):
  (∀y∈(Fq p.2.2.1 s).1,Q y)∧((Fq p.2.2.1 s).2.2=true→ ∀x∈(Fq p.2.2.1 s).1,∀l∈Be p.2.2.1.length,Aa x (Ae p.2.2.1 l)∈(Fq p.2.2.1 s).1)∧
   ((Fq p.2.2.1 s).2.2=false→(Fq p.2.2.1 s).1.length=3000∧ ∃z,Q z∧z∉(Fq p.2.2.1 s).1):=
 Amj (valid hv) (fun _ hl=>Ls hl) Q hQ 3001 0 [s] [0] (by omega) (Nat.zero_le _) (Aaa hs hr) (fun y hy=>by rw [List.mem_singleton.1 hy];exact hQs) fun j _ hj=>absurd hj (Nat.not_lt_zero _)
theorem Ael {g:List (List Int)} {x:List Int} :some x∈g.map some↔x∈g:=by simp
theorem Avv {n:Nat} {g:List (List Int)} {x:List Int} (h:Gn n (g.map some) x) {l:Int} (hl:l∈Be g.length):Gn n (g.map some) (Aa x (Ae g l)):=by
 obtain ⟨k,hk,rfl|rfl⟩:=Mf (Ls hl)
 ·rw [Nh hk];exact .mul h (Ael.2 (List.getElem_mem hk))
 ·rw [Ng hk];exact .inv h (Ael.2 (List.getElem_mem hk))
theorem Agt {n k:Nat} (hk:k<n):(k:Int)+1∈Be n∧ -((k:Int)+1)∈Be n:=by
 unfold Be
 exact ⟨List.mem_flatMap.2 ⟨k,List.mem_range.2 hk,by simp⟩,List.mem_flatMap.2 ⟨k,List.mem_range.2 hk,by simp⟩⟩
theorem Avl {n:Nat} {g:List (List Int)} {L:List (List Int)} (h0:upto n∈L) (hc: ∀x∈L,∀l∈Be g.length,Aa x (Ae g l)∈L) {p:List Int} (hp:Gn n (g.map some) p):p∈L:=by
 induction hp with
 |id=>exact h0
 |mul _ hg ih=>
  obtain ⟨k,hk,rfl⟩:=List.mem_iff_getElem.1 (Ael.1 hg)
  have:=hc _ ih _ (Agt hk).1
  rwa [Nh hk] at this
 |inv _ hg ih=>
  obtain ⟨k,hk,rfl⟩:=List.mem_iff_getElem.1 (Ael.1 hg)
  have:=hc _ ih _ (Agt hk).2
  rwa [Ng hk] at this
structure Reach (p:PP) (L:List (List Int)) (D:List Int) (whole:Bool):Prop where
 ok:Pj p p.1.toNat L D
 nodup:L.Nodup
 first: ∃A,L=upto p.1.toNat::A
 gen: ∀x∈L,Gn p.1.toNat (p.2.2.1.map some) x
 all:whole=true→ ∀x,Gn p.1.toNat (p.2.2.1.map some) x→x∈L
 big:whole=false→L.length=3000∧ ∃z,Gn p.1.toNat (p.2.2.1.map some) z∧z∉L
theorem Cr.nodup {m:Nat} {L:List (List Int)} {srt:List Int} (h:Cr m L srt):L.Nodup:=
 List.pairwise_iff_getElem.2 fun i j hi hj hij e=>by have:=h.inj hi hj e;omega
theorem Ak1 {p:PP} (hv:Ay p=true):Reach p (Fq p.2.2.1 (upto p.1.toNat)).1 (Fq p.2.2.1 (upto p.1.toNat)).2.1 (Fq p.2.2.1 (upto p.1.toNat)).2.2:=by
 have hV:=valid hv
 have hn:=hV.n
 have hl:(upto p.1.toNat).length=p.1.toNat:=Ru _
 have hr: ∀y∈upto p.1.toNat,0≤y∧y<p.1:=fun y hy=>by have:=Ix.1 hy;omega
 obtain ⟨b1,b2⟩:=Beo hv (by omega) hr
 rw [hl] at b1
 obtain ⟨a1,a2,a3⟩:=Bd4 hv (by omega) hr (fun x=>Gn p.1.toNat (p.2.2.1.map some) x) .id fun x hx l hl=>Avv hx hl
 exact ⟨b1,b1.ok.nodup,b2,a1,fun hw x hx=>Avl (by obtain ⟨A,e⟩:=b2;rw [e];simp) (a2 hw) hx,a3⟩
theorem Sk {p:PP} (hV:Valid p) {x:List Int} :x∈Afo p.1.toNat (Pw p.1 p.2.2.1).2 p.1.toNat 0↔Gn p.1.toNat (p.2.2.1.map some) x:=by
 have hn:=hV.n
 have hg:=Ajy (Adf hV).2.2
 have hS:PmS p.1.toNat fun g=>some g∈p.2.2.1.map some:=⟨⟨by omega,by omega⟩,fun g hg'=>by obtain ⟨g',e,h⟩:=hg _ hg';cases e;exact h⟩
 refine (Ajg (by omega) (by omega) _ 0 (by omega) (Aor hV).2.2.1 x).trans ⟨fun h=>(Aj4 (by omega) (by omega) hg h.1).1 h.2.2,fun h=>?_⟩
 have hp:=Gen.pm hS h
 exact ⟨hp,fun i hi=>absurd hi (Nat.not_lt_zero _),(Aj4 (by omega) (by omega) hg hp).2 h⟩
theorem Ald {p:PP} (hV:Valid p):(Afo p.1.toNat (Pw p.1 p.2.2.1).2 p.1.toNat 0).Nodup:=by
 have hn:=hV.n
 exact Ajh (by omega) (by omega) _ 0 (by omega) (Aor hV).2.2.1
theorem count_eq {p:PP} (hv:Ay p=true):Mg p=((Afo p.1.toNat (Pw p.1 p.2.2.1).2 p.1.toNat 0).length:Int):=by
 unfold Mg
 rw [if_pos hv,Ate]
theorem Arw {p:PP} (hv:Ay p=true):(Fq p.2.2.1 (upto p.1.toNat)).2.2=decide (1≤Mg p∧Mg p≤3000):=by
 have hV:=valid hv
 have h:=Ak1 hv
 rw [count_eq hv]
 have hnd:=Ald hV
 have h1:=Aeb h.nodup fun x hx=>(Sk hV).2 (h.gen x hx)
 obtain ⟨A,hA⟩:=h.first
 have hpos:1≤(Fq p.2.2.1 (upto p.1.toNat)).1.length:=by rw [hA];simp
 cases hw:(Fq p.2.2.1 (upto p.1.toNat)).2.2 with
 |true=>
  have h2:=Aeb hnd fun x hx=>h.all hw x ((Sk hV).1 hx)
  have h3:=h.ok.ok.few
  exact (decide_eq_true ⟨by omega,by omega⟩).symm
 |false=>
  obtain ⟨h2,z,h3,h4⟩:=h.big hw
  have h5:=Aeb (l1:=z::(Fq p.2.2.1 (upto p.1.toNat)).1) (List.nodup_cons.2 ⟨h4,h.nodup⟩) fun x hx=>by
   rcases List.mem_cons.1 hx with rfl|hx
   ·exact (Sk hV).2 h3
   ·exact (Sk hV).2 (h.gen x hx)
  simp only [List.length_cons] at h5
  exact (decide_eq_false (by omega)).symm
end Go.Proofs.Ytebabhocakedaaa
