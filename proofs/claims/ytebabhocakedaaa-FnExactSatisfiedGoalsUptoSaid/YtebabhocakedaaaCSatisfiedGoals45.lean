/-
  Part 46 of the proof that the statement FnExactSatisfiedGoals holds.
-/
import Derived.Test.YtebabhocakedaaaCSatisfiedGoals44
namespace Go.Proofs.Ytebabhocakedaaa
open Go.RowKit
theorem Adw {α:Type} [DecidableEq α]: ∀ {l1 l2:List α},l1.Nodup→(∀x∈l1,x∈l2)→l1.length≤l2.length
 | [],_,_,_=>Nat.zero_le _
 |a::l,l2,hn,hs=>by
  obtain ⟨h1,h2⟩:=List.nodup_cons.1 hn
  have ha:=hs a (by simp)
  have:=Adw (l1:=l) (l2:=l2.erase a) h2 fun y hy=>by
   have hya:y≠a:=fun e'=>h1 (by rw [←e'];exact hy)
   exact (List.mem_erase_of_ne hya).2 (hs y (by simp [hy]))
  rw [List.length_erase_of_mem ha] at this
  have:=List.length_pos_of_mem ha
  simp only [List.length_cons]
  omega
def Af7 (n:Nat) (T:Ci):Nat→Nat→List (List Int)
 |0,_=> [upto n]
 |k+1,l=>(Gi (T.getD l [])).flatMap fun y=>(Af7 n T k (l+1)).map fun q=>Aa q (((T.getD l []).getD y.toNat none).getD [])
def Amz (T:Ci):Nat→Nat→Nat
 |0,_=>1
 |k+1,l=>(Gi (T.getD l [])).length*Amz T k (l+1)
theorem As6 (n:Nat) (T:Ci): ∀k l,(Af7 n T k l).length=Amz T k l
 |0,_=>rfl
 |k+1,l=>by
  simp only [Af7,Amz,List.length_flatMap,List.length_map,As6 n T k (l+1)]
  generalize Gi (T.getD l [])=o
  induction o with
  |nil=>simp
  |cons a o ih=>simp only [List.map_cons,List.sum_cons,ih,List.length_cons,Nat.succ_mul];omega
theorem Ams (T:Ci): ∀k j,Qy T (j+k)=Qy T j*Amz T k j
 |0,j=>by simp [Amz]
 |k+1,j=>by
  have:=Ams T k (j+1)
  rw [show j+(k+1)=j+1+k by omega,this]
  simp only [Qy,Amz]
  rw [Nat.mul_assoc]
theorem Asj (n:Nat) (T:Ci):(Af7 n T n 0).length=Qy T n:=by
 rw [As6,show Qy T n=Qy T (0+n) by rw [Nat.zero_add],Ams]
 simp [Qy]
theorem Aiw {n:Nat} (h1:1≤n) (h2:n≤20) {s:Ci×Ci} : ∀(k l:Nat),l+k=n→Abj n k l s→ ∀p,p∈Af7 n s.2 k l↔Pm n p∧Fx l p∧He s.2 k l p=true
 |0,l,hk,hc,p=>by
  have hl:l=n:=by omega
  subst hl
  simp only [Af7,List.mem_singleton]
  exact ⟨fun e=>by subst e;exact ⟨Pm.id h1 h2,fun i hi=>Acr hi,rfl⟩,fun h=>h.2.1.all h.1⟩
 |k+1,l,hk,hc,p=>by
  obtain ⟨c1,c2,c3⟩:=hc
  have ih:=Aiw h1 h2 k (l+1) (by omega) c1
  have hln:l<n:=by omega
  simp only [Af7,List.mem_flatMap,List.mem_map]
  constructor
  ·rintro ⟨y,hy,q,hq,rfl⟩
   obtain ⟨yn,rfl,hyn⟩:=Kq.1 hy
   obtain ⟨t,ht⟩:=Option.ne_none_iff_exists'.1 hyn
   obtain ⟨t1,t2,t3,t4⟩:=c2.rt _ _ ht
   obtain ⟨q1,q2,q3⟩:=(ih q).1 hq
   rw [Int.toNat_natCast,ht,Option.getD_some]
   have hap:ap (Aa q t) l=yn:=by rw [Et q1 t1 hln,q2 l (by omega),t3]
   refine ⟨q1.comp t1,fun i hi=>by rw [Et q1 t1 (by omega),q2 i (by omega),t2 i hi],?_⟩
   simp only [He]
   rw [show (Gg (Aa q t) (l:Int)).toNat=ap (Aa q t) l from rfl,hap,ht]
   show He s.2 k (l+1) (Aa (Aa q t) (Ah t))=true
   rw [Dd q1 t1 t1.inv,Acz t1,comp_id q1]
   exact q3
  ·rintro ⟨p1,p2,p3⟩
   simp only [He] at p3
   rw [show (Gg p (l:Int)).toNat=ap p l from rfl] at p3
   split at p3
   ·cases p3
   ·rename_i t ht
    obtain ⟨t1,t2,t3,t4⟩:=c2.rt _ _ ht
    refine ⟨(ap p l:Int),Kq.2 ⟨ap p l,rfl,by rw [ht];simp⟩,Aa p (Ah t),(ih _).2 ⟨p1.comp t1.inv,Fx.div p1 t1 p2 t2 hln t3,p3⟩,?_⟩
    rw [Int.toNat_natCast,ht,Option.getD_some,Dd p1 t1.inv t1,Tt t1,comp_id p1]
theorem Aix {n:Nat} (h1:1≤n) (h2:n≤20) {s:Ci×Ci} : ∀(k l:Nat),l+k=n→Abj n k l s→(Af7 n s.2 k l).Nodup
 |0,l,hk,hc=>by simp [Af7]
 |k+1,l,hk,hc=>by
  obtain ⟨c1,c2,c3⟩:=hc
  have ih:=Aix h1 h2 k (l+1) (by omega) c1
  have hm:=Aiw h1 h2 k (l+1) (by omega) c1
  have hln:l<n:=by omega
  have rep: ∀y∈Gi (s.2.getD l []),∃(yn:Nat) (t:List Int),y=yn∧((s.2.getD l []).getD y.toNat none).getD []=t∧Pm n t∧ap t l=yn:=fun y hy=>by
   obtain ⟨yn,rfl,hyn⟩:=Kq.1 hy
   obtain ⟨t,ht⟩:=Option.ne_none_iff_exists'.1 hyn
   obtain ⟨t1,t2,t3,t4⟩:=c2.rt _ _ ht
   exact ⟨yn,t,rfl,by rw [Int.toNat_natCast,ht];rfl,t1,t3⟩
  simp only [Af7]
  refine List.pairwise_flatMap.2 ⟨fun y hy=>?_,?_⟩
  ·obtain ⟨yn,t,rfl,e,t1,t3⟩:=rep y hy
   rw [e]
   refine List.pairwise_map.2 (List.Pairwise.imp_of_mem ?_ ih)
   intro a b ha hb hne he
   have ha:=((hm a).1 ha).1
   have hb:=((hm b).1 hb).1
   have h3:=congrArg (fun z=>Aa z (Ah t)) he
   simp only [Dd ha t1 t1.inv,Dd hb t1 t1.inv,Acz t1,comp_id ha,comp_id hb] at h3
   exact hne h3
  ·refine List.Pairwise.imp_of_mem ?_ ((Akf _).filter _)
   intro y z hy hz hne a ha b hb he
   obtain ⟨yn,t,rfl,e,t1,t3⟩:=rep y hy
   obtain ⟨zn,u,rfl,e',u1,u3⟩:=rep z hz
   rw [e] at ha
   rw [e'] at hb
   obtain ⟨q,hq,rfl⟩:=List.mem_map.1 ha
   obtain ⟨q',hq',rfl⟩:=List.mem_map.1 hb
   obtain ⟨a1,a2,_⟩:=(hm q).1 hq
   obtain ⟨b1,b2,_⟩:=(hm q').1 hq'
   have h3:=congrArg (fun z=>ap z l) he
   simp only [Et a1 t1 hln,Et b1 u1 hln,a2 l (by omega),b2 l (by omega),t3,u3] at h3
   exact hne (by rw [h3])
theorem Aem {g:List (List Int)} (Q:List Int→Prop) {x:List Int} {d:Int} : ∀(ls:List Int) (L:List (List Int)) (D:List Int),(∀l∈ls,Q (Aa x (Af g l)))→(∀y∈L,Q y)→
  (∀y∈(Fv g x d ls L D).1,Q y)∧(∀y∈L,y∈(Fv g x d ls L D).1)∧((Fv g x d ls L D).2.2=true→ ∀l∈ls,Aa x (Af g l)∈(Fv g x d ls L D).1)∧
   ((Fv g x d ls L D).2.2=false→(Fv g x d ls L D).1.length=3000∧ ∃z,Q z∧z∉(Fv g x d ls L D).1)
 | [],L,D,_,h=>⟨h,fun _ h=>h,(fun _ l hl=>by cases hl),(fun e=>by cases e)⟩
 |l::ls,L,D,hq,h=>by
  have hq': ∀l∈ls,Q (Aa x (Af g l)):=fun l' h'=>hq l' (List.mem_cons_of_mem _ h')
  simp only [Fv]
  split
  ·rename_i hm
   obtain ⟨a1,a2,a3,a4⟩:=Aem Q (d:=d) ls L D hq' h
   refine ⟨a1,a2,fun e l' hl'=>?_,a4⟩
   rcases List.mem_cons.1 hl' with rfl|hl'
   ·exact a2 _ hm
   ·exact a3 e l' hl'
  ·rename_i hn
   split
   ·rename_i hf
    exact ⟨h,fun _ h=>h,(fun e=>by cases e),fun _=>⟨hf,_,hq l (by simp),hn⟩⟩
   ·obtain ⟨a1,a2,a3,a4⟩:=Aem Q (d:=d) ls (L++ [Aa x (Af g l)]) (D++ [d+1]) hq' fun y hy=>by
     rcases List.mem_append.1 hy with hy|hy
     ·exact h y hy
     ·rw [List.mem_singleton.1 hy];exact hq l (by simp)
    refine ⟨a1,fun y hy=>a2 y (List.mem_append_left _ hy),fun e l' hl'=>?_,a4⟩
    rcases List.mem_cons.1 hl' with rfl|hl'
    ·exact a2 _ (List.mem_append_right _ (by simp))
    ·exact a3 e l' hl'
theorem Alz {p:PP} (hV:Valid p) {m:Nat} {ls:List Int} (hl: ∀l∈ls,Gb (List.length p.2.2.1) l) (Q:List Int→Prop) (hQ: ∀x,Q x→ ∀l∈ls,Q (Aa x (Af p.2.2.1 l))):
  ∀(f k:Nat) (L:List (List Int)) (D:List Int),3001≤f+k→k≤L.length→Oo p m L D→(∀y∈L,Q y)→(∀(j:Nat) (h:j<L.length),j<k→ ∀l∈ls,Aa L[j] (Af p.2.2.1 l)∈L)→
  (∀y∈(Hd p.2.2.1 ls f k L D).1,Q y)∧((Hd p.2.2.1 ls f k L D).2.2=true→ ∀x∈(Hd p.2.2.1 ls f k L D).1,∀l∈ls,Aa x (Af p.2.2.1 l)∈(Hd p.2.2.1 ls f k L D).1)∧
   ((Hd p.2.2.1 ls f k L D).2.2=false→(Hd p.2.2.1 ls f k L D).1.length=3000∧ ∃z,Q z∧z∉(Hd p.2.2.1 ls f k L D).1)
 |0,k,L,D,hf,hkL,hb,hq,hc=>by
  have:=hb.ok.few
  omega
 |f+1,k,L,D,hf,hkL,hb,hq,hc=>by
  simp only [Hd]
  split
  ·rename_i hk
   have hkD:k<D.length:=by rw [hb.len];exact hk
   have hd:=hb.dep k hkD
   have e:D.getD k 0=D[k]:=by rw [List.getD_eq_getElem?_getD,List.getElem?_eq_getElem hkD];rfl
   rw [Lp hk,e]
   obtain ⟨k1,⟨A,k2⟩,_⟩:=Acw hV (hb.row _ (List.getElem_mem hk)) (hb.ok.len _ (List.getElem_mem hk)) (d:=D[k]) ls L D hl hb ⟨by omega,by omega⟩
   obtain ⟨a1,a2,a3,a4⟩:=Aem (g:=p.2.2.1) Q (x:=L[k]) (d:=D[k]) ls L D (hQ _ (hq _ (List.getElem_mem hk))) hq
   split
   ·rename_i L' D' he
    rw [he] at k1 k2 a1 a2 a3 a4
    have k2:L'=L++A:=k2
    refine Alz hV hl Q hQ f (k+1) L' D' (by omega) (by rw [k2,List.length_append];omega) k1 a1 fun j hj hjk l hl'=>?_
    by_cases e':j<k
    ·have e2:L'[j]=L[j]:=by simp only [k2];rw [List.getElem_append_left (by omega)]
     rw [e2];exact a2 _ (hc j (by omega) e' l hl')
    ·have:j=k:=by omega
     subst this
     have e2:L'[j]=L[j]:=by simp only [k2];rw [List.getElem_append_left (by omega)]
     rw [e2];exact a3 rfl l hl'
   ·rename_i L' D' he
    rw [he] at a1 a4
    exact ⟨a1,(fun e=>by cases e),fun _=>a4 rfl⟩
  ·rename_i hk
   refine ⟨hq,fun _ x hx l hl'=>?_,fun e=>by cases e⟩
   obtain ⟨j,hj,rfl⟩:=List.mem_iff_getElem.1 hx
   have hj:j<L.length:=hj
   exact hc j hj (by omega) l hl'
theorem Bbu {p:PP} (hv:Be p=true) {s:List Int} (hs:s.length≤20) (hr: ∀y∈s,0≤y∧y<p.1) (Q:List Int→Prop) (hQs:Q s) (hQ: ∀x,Q x→ ∀l∈Bd p.2.2.1.length,Q (Aa x (Af p.2.2.1 l))):
  (∀y∈(Fl p.2.2.1 s).1,Q y)∧((Fl p.2.2.1 s).2.2=true→ ∀x∈(Fl p.2.2.1 s).1,∀l∈Bd p.2.2.1.length,Aa x (Af p.2.2.1 l)∈(Fl p.2.2.1 s).1)∧
   ((Fl p.2.2.1 s).2.2=false→(Fl p.2.2.1 s).1.length=3000∧ ∃z,Q z∧z∉(Fl p.2.2.1 s).1):=
 Alz (valid hv) (fun _ hl=>Lf hl) Q hQ 3001 0 [s] [0] (by omega) (Nat.zero_le _) (Zw hs hr) (fun y hy=>by rw [List.mem_singleton.1 hy];exact hQs) fun j _ hj=>absurd hj (Nat.not_lt_zero _)
theorem Ae7 {g:List (List Int)} {x:List Int} :some x∈g.map some↔x∈g:=by simp
theorem Auz {n:Nat} {g:List (List Int)} {x:List Int} (h:Gn n (g.map some) x) {l:Int} (hl:l∈Bd g.length):Gn n (g.map some) (Aa x (Af g l)):=by
 obtain ⟨k,hk,rfl|rfl⟩:=Pl (Lf hl)
 ·rw [Qv hk];exact .mul h (Ae7.2 (List.getElem_mem hk))
 ·rw [Qu hk];exact .inv h (Ae7.2 (List.getElem_mem hk))
theorem Aga {n k:Nat} (hk:k<n):(k:Int)+1∈Bd n∧ -((k:Int)+1)∈Bd n:=by
 unfold Bd
 exact ⟨List.mem_flatMap.2 ⟨k,List.mem_range.2 hk,by simp⟩,List.mem_flatMap.2 ⟨k,List.mem_range.2 hk,by simp⟩⟩
theorem Aup {n:Nat} {g:List (List Int)} {L:List (List Int)} (h0:upto n∈L) (hc: ∀x∈L,∀l∈Bd g.length,Aa x (Af g l)∈L) {p:List Int} (hp:Gn n (g.map some) p):p∈L:=by
 induction hp with
 |id=>exact h0
 |mul _ hg ih=>
  obtain ⟨k,hk,rfl⟩:=List.mem_iff_getElem.1 (Ae7.1 hg)
  have:=hc _ ih _ (Aga hk).1
  rwa [Qv hk] at this
 |inv _ hg ih=>
  obtain ⟨k,hk,rfl⟩:=List.mem_iff_getElem.1 (Ae7.1 hg)
  have:=hc _ ih _ (Aga hk).2
  rwa [Qu hk] at this
structure Reach (p:PP) (L:List (List Int)) (D:List Int) (whole:Bool):Prop where
 ok:Oo p p.1.toNat L D
 nodup:L.Nodup
 first: ∃A,L=upto p.1.toNat::A
 gen: ∀x∈L,Gn p.1.toNat (p.2.2.1.map some) x
 all:whole=true→ ∀x,Gn p.1.toNat (p.2.2.1.map some) x→x∈L
 big:whole=false→L.length=3000∧ ∃z,Gn p.1.toNat (p.2.2.1.map some) z∧z∉L
theorem Cq.nodup {m:Nat} {L:List (List Int)} {srt:List Int} (h:Cq m L srt):L.Nodup:=
 List.pairwise_iff_getElem.2 fun i j hi hj hij e=>by have:=h.inj hi hj e;omega
theorem Aji {p:PP} (hv:Be p=true):Reach p (Fl p.2.2.1 (upto p.1.toNat)).1 (Fl p.2.2.1 (upto p.1.toNat)).2.1 (Fl p.2.2.1 (upto p.1.toNat)).2.2:=by
 have hV:=valid hv
 have hn:=hV.n
 have hl:(upto p.1.toNat).length=p.1.toNat:=Ri _
 have hr: ∀y∈upto p.1.toNat,0≤y∧y<p.1:=fun y hy=>by have:=Il.1 hy;omega
 obtain ⟨b1,b2⟩:=Bdc hv (by omega) hr
 rw [hl] at b1
 obtain ⟨a1,a2,a3⟩:=Bbu hv (by omega) hr (fun x=>Gn p.1.toNat (p.2.2.1.map some) x) .id fun x hx l hl=>Auz hx hl
 exact ⟨b1,b1.ok.nodup,b2,a1,fun hw x hx=>Aup (by obtain ⟨A,e⟩:=b2;rw [e];simp) (a2 hw) hx,a3⟩
theorem Sa {p:PP} (hV:Valid p) {x:List Int} :x∈Af7 p.1.toNat (Pf p.1 p.2.2.1).2 p.1.toNat 0↔Gn p.1.toNat (p.2.2.1.map some) x:=by
 have hn:=hV.n
 have hg:=Ajf (Acy hV).2.2
 have hS:PmS p.1.toNat fun g=>some g∈p.2.2.1.map some:=⟨⟨by omega,by omega⟩,fun g hg'=>by obtain ⟨g',e,h⟩:=hg _ hg';cases e;exact h⟩
 refine (Aiw (by omega) (by omega) _ 0 (by omega) (Ao2 hV).2.2.1 x).trans ⟨fun h=>(Aik (by omega) (by omega) hg h.1).1 h.2.2,fun h=>?_⟩
 have hp:=Gen.pm hS h
 exact ⟨hp,fun i hi=>absurd hi (Nat.not_lt_zero _),(Aik (by omega) (by omega) hg hp).2 h⟩
theorem Akx {p:PP} (hV:Valid p):(Af7 p.1.toNat (Pf p.1 p.2.2.1).2 p.1.toNat 0).Nodup:=by
 have hn:=hV.n
 exact Aix (by omega) (by omega) _ 0 (by omega) (Ao2 hV).2.2.1
theorem count_eq {p:PP} (hv:Be p=true):Ls p=((Af7 p.1.toNat (Pf p.1 p.2.2.1).2 p.1.toNat 0).length:Int):=by
 unfold Ls
 rw [if_pos hv,Asj]
theorem Aqz {p:PP} (hv:Be p=true):(Fl p.2.2.1 (upto p.1.toNat)).2.2=decide (1≤Ls p∧Ls p≤3000):=by
 have hV:=valid hv
 have h:=Aji hv
 rw [count_eq hv]
 have hnd:=Akx hV
 have h1:=Adw h.nodup fun x hx=>(Sa hV).2 (h.gen x hx)
 obtain ⟨A,hA⟩:=h.first
 have hpos:1≤(Fl p.2.2.1 (upto p.1.toNat)).1.length:=by rw [hA];simp
 cases hw:(Fl p.2.2.1 (upto p.1.toNat)).2.2 with
 |true=>
  have h2:=Adw hnd fun x hx=>h.all hw x ((Sa hV).1 hx)
  have h3:=h.ok.ok.few
  exact (decide_eq_true ⟨by omega,by omega⟩).symm
 |false=>
  obtain ⟨h2,z,h3,h4⟩:=h.big hw
  have h5:=Adw (l1:=z::(Fl p.2.2.1 (upto p.1.toNat)).1) (List.nodup_cons.2 ⟨h4,h.nodup⟩) fun x hx=>by
   rcases List.mem_cons.1 hx with rfl|hx
   ·exact (Sa hV).2 h3
   ·exact (Sa hV).2 (h.gen x hx)
  simp only [List.length_cons] at h5
  exact (decide_eq_false (by omega)).symm
end Go.Proofs.Ytebabhocakedaaa
