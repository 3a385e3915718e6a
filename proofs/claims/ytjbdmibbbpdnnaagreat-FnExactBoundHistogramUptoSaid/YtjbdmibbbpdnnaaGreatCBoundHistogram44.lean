/-
  Part 45 of the proof that the statement FnExactBoundHistogram holds.
-/
import Derived.Test.YtjbdmibbbpdnnaaGreatCBoundHistogram43
import Derived.Shelf.RegionOpenPlain
import Derived.WalkKit
import Derived.Lib.Walk
namespace Go.Proofs.YtjbdmibbbpdnnaaGreat
open Go.RowKit Go.Lib
abbrev xTS:CK:= .Dq Gl 53
noncomputable abbrev s_toTSm:MSpec:=Wb [none] [(false, .Ee xD)] false [none] [xTS] (λx=>En x.1) (λx=>((x.1,()),()))
def totT (t:TT):Nat:=t.1.length+Bx t.2.1+t.2.2.1.length
def totTS:List TT->Nat
 | []=>0
 |t::ts=>totT t+totTS ts
noncomputable abbrev s_markTS:MSpec:=Wb [none,none] [(false,xTS),(false, .Ee tI)] false [none] [.Ee tI] (λx=>En x.1/\low x.2.1/\low (x.2.1+totTS x.1)) (λx=>((x.2.1+totTS x.1,()),()))
abbrev xA:Type:=Int×List (List Int×List (List Int)×List Int×PUnit)×PUnit
theorem w_toTSm (ts:List (List Int×List (List Int)×List Int×Unit)) (P:((List (List Int×List (List Int)×List Int×Unit)×Unit)×Unit)->Prop):(((0:Int)<=(↑ts.length:Int)/\(↑ts.length:Int)<(↑Bg:Int)+(1:Int))/\(↑ts.length:Int)=(↑ts.length:Int)/\0=0/\(List.replicate (↑ts.length:Int).toNat (([]:List Int),([]:List (List Int)),([]:List Int),())).length=(List.replicate (↑ts.length:Int).toNat (([]:List Int),([]:List (List Int)),([]:List Int),())).length/\Bi (λ(v2:xA) (k3:xA->Prop)=>Br (decide (v2.1<(↑ts.length:Int))) (∃(y4:List Int×List (List Int)×List Int×PUnit),idx ts v2.1=some y4/\ ∃(y5:(List Int×List (List Int)×List Int×PUnit)×PUnit),Rf.fn (y4.1,y4.2.1,y4.2.2.1,())=some y5/\((0:Int)<=v2.1/\v2.1<(↑v2.2.1.length:Int))/\0+v2.1.toNat<v2.2.1.length/\0=0/\v2.2.1.length=(v2.2.1.set (0+v2.1.toNat) (List.take y5.1.1.length (List.drop 0 y5.1.1),List.take y5.1.2.1.length (List.drop 0 y5.1.2.1),List.take y5.1.2.2.1.length (List.drop 0 y5.1.2.2.1),())).length/\k3 (IntKind.i64.wrap (v2.1+(1:Int)),v2.2.1.set (0+v2.1.toNat) (List.take y5.1.1.length (List.drop 0 y5.1.1),List.take y5.1.2.1.length (List.drop 0 y5.1.2.1),List.take y5.1.2.2.1.length (List.drop 0 y5.1.2.2.1),()),())) (P ((List.take v2.2.1.length (List.drop 0 v2.2.1),()),()))) ((0:Int),List.replicate (↑ts.length:Int).toNat (([]:List Int),([]:List (List Int)),([]:List Int),()),PUnit.unit))=fnMW (AL [oU+7]) (look [(23,Rf)]) s_toTSm Tryz.f8 (ts,()) P:=by kernel_rfl
theorem p_toTSm (ts:List TT) (h:En ts):fnMW (AL [oU+7]) (look [(23,Rf)]) s_toTSm Tryz.f8 (ts,()) (λ(z:(List TT×Unit)×Unit)=>z=((ts,()),())):=by
 obtain ⟨h,h4⟩:=h
 refine Eq.mp (w_toTSm ts _) ?_
 refine ⟨⟨by omega,by show (ts.length:Int)<(4294967296:Int)+1;omega⟩,rfl,rfl,rfl,?_⟩
 refine Ag ts.length (λv=>v.1) (λj v=>v.2.1.length=ts.length/\v.2.1.take j=ts.take j) rfl ⟨by simp,by simp⟩ ?_
 rintro j ⟨i,ys,⟨⟩⟩ K hj hi ⟨h1,h2⟩ hK
 dsimp only at hi h1 h2⊢
 subst hi
 refine Br.dec (λhl=>?_) λhl=>?_
 ·have hl:j<ts.length:=by omega
  refine ⟨_,Am hl,_,if_pos (h4 _ (List.getElem_mem hl)),⟨by omega,by omega⟩,by rw [Int.toNat_natCast];omega,rfl,by rw [List.length_set],?_⟩
  rw [Ah (by omega),Int.toNat_natCast,Nat.zero_add]
  simp only [At]
  exact hK hl _ rfl ⟨by rw [List.length_set];exact h1,Gg hl h1 h2⟩
 ·have:j=ts.length:=by omega
  subst this
  rw [List.take_length,<-h1,List.take_length] at h2
  rw [At,h2]
theorem sound_toTSm:Bh Tryz.prog 8 s_toTSm:=
 Bh.Wb (AM [oU+7]) (Dt oz Ak) mixed Tryz.func8 (by kernel_rfl) (by kernel_rfl) λx h=>p_toTSm x.1 h
def oneP (r:Option Real):Pi:= λl=>if l=Bl true 0 then r else none
theorem oneP_at (r:Option Real):oneP r (Bl true 0)=r:=if_pos rfl
theorem oneP_off (r:Option Real) {l:Nat} (h:l≠Bl true 0):oneP r l=none:=if_neg h
theorem oneP_some {r:Option Real} {l:Nat} {q:Real} (h:oneP r l=some q):l=Bl true 0/\r=some q:=by
 unfold oneP at h
 split at h
 ·exact ⟨by assumption,h⟩
 ·cases h
theorem step_markL {F:List Nat} {u:Value} {xs:List Int} {w:World} {k:Int} (h:TCells w F tL [u] xs) (hn:F.Nodup) (hs:short xs/\low k):
  Calls Tryz.prog 15 #[u, .int .i64 k] w λe w'=>e= .returned (.int .i64 (k+xs.length))/\Df w.heap.size (· ∈F) w w':=by
 obtain ⟨r,r1,r2,r3,r4,r5⟩:=TCells.row h hn
 have Gt:=TCells.lt F _ _ _ h
 have Sb: ∀b,Na (oneP r) b->b∈F:=by
  rintro b ⟨l,q,hl,hq⟩
  exact (r4 q (oneP_some hl).2 b).1 hq
 have hc:=dh.calls w (λ_=>False) (oneP r) [u, .int .i64 k] (xs,k,()) (k+xs.length,()) (Gr k xs.length,()) 0 [u, .int .i64 k] ⟨rfl,trivial⟩ (λh=>by cases h)
  ⟨⟨(oneP_at r).symm▸r1,(oneP_at r).symm▸r2 rfl _⟩,⟨oneP_off r (by decide),⟨[.int .i64 k],rfl,rfl⟩⟩,trivial⟩
  ⟨λl q b hl hq=>Gt b (Sb b ⟨l,q,hl,hq⟩),λl l' q q' b hl Gq _ _=>(oneP_some hl).1.trans (oneP_some Gq).1.symm⟩
  (λb hb=>hb.elim) (λl hl=>oneP_off r λhh=>by rw [hh] at hl;cases hl) (if_pos hs)
 refine hc.mono λe w' ⟨v,Nh,ρ,he,hr,_,hb,_,ho,_⟩=>?_
 cases Nh with
 |nil=>exact ho.elim
 |cons v' Nh=>
 cases Nh with
 |cons _ _=>exact ho.2.elim
 |nil=>
 obtain ⟨⟨_,cs,lh,hv⟩,_⟩:=ho
 simp only [Cells] at lh
 subst lh
 have hv:v'= .int .i64 (k+xs.length):=hv
 subst hv
 obtain ⟨hr,_⟩:=hr
 rcases hr with hr|hr
 ·cases hr
  exact ⟨he,hb.os,hb.tape,hb.output,hb.size,λb cr hF=>hb.block b cr λhh=>by
   rcases hh with hh|hh
   ·exact hF (Sb b hh)
   ·cases hh.1⟩
 ·cases hr
theorem step_markLL {F:List Nat} {u:Value} {xs:List (List Int)} {w:World} {k:Int} (h:TCells w F Zp [u] xs) (hn:F.Nodup) (hs:Dx xs/\low k/\low (k+Bx xs)):
  Calls Tryz.prog 31 #[u, .int .i64 k] w λe w'=>e= .returned (.int .i64 (k+Bx xs))/\Df w.heap.size (· ∈F) w w':=by
 obtain ⟨r,r1,r2,r3,r4,r5⟩:=TCells.row h hn
 have Gt:=TCells.lt F _ _ _ h
 have Sb: ∀b,Na (oneP r) b->b∈F:=by
  rintro b ⟨l,q,hl,hq⟩
  exact (r4 q (oneP_some hl).2 b).1 hq
 have hc:=iF.calls w (λ_=>False) (oneP r) [u, .int .i64 k] (xs,k,()) (k+Bx xs,()) (Gb k xs,()) 0 [u, .int .i64 k] ⟨rfl,trivial⟩ (λh=>by cases h)
  ⟨⟨(oneP_at r).symm▸r1,(oneP_at r).symm▸r3 0⟩,⟨oneP_off r (by decide),⟨[.int .i64 k],rfl,rfl⟩⟩,trivial⟩
  ⟨λl q b hl hq=>Gt b (Sb b ⟨l,q,hl,hq⟩),λl l' q q' b hl Gq _ _=>(oneP_some hl).1.trans (oneP_some Gq).1.symm⟩
  (λb hb=>hb.elim) (λl hl=>oneP_off r λhh=>by rw [hh] at hl;cases hl) (if_pos hs)
 refine hc.mono λe w' ⟨v,Nh,ρ,he,hr,_,hb,_,ho,_⟩=>?_
 cases Nh with
 |nil=>exact ho.elim
 |cons v' Nh=>
 cases Nh with
 |cons _ _=>exact ho.2.elim
 |nil=>
 obtain ⟨⟨_,cs,lh,hv⟩,_⟩:=ho
 simp only [Cells] at lh
 subst lh
 have hv:v'= .int .i64 (k+Bx xs):=hv
 subst hv
 obtain ⟨hr,_⟩:=hr
 rcases hr with hr|hr
 ·cases hr
  exact ⟨he,hb.os,hb.tape,hb.output,hb.size,λb cr hF=>hb.block b cr λhh=>by
   rcases hh with hh|hh
   ·exact hF (Sb b hh)
   ·cases hh.1⟩
 ·cases hr
theorem mixedGw:Tryz.prog.follows .mixedOrders=true:=by kernel_rfl
structure Rem (w:World) (g o:Nat) (tid:TypeId) (cur:Array Value) (Fs:List (List Nat)) (ts:List TT) (j:Nat):Prop where
 blk:w.heap[g]?=some (.cells cur tid (0,0))
 els: ∀(i:Nat) (t:TT) (F:List Nat),j<=i->ts[i]?=some t->Fs[i]?=some F-> ∃es:List Value,es.length=3/\(∀c u,es[c]?=some u->cur[(o+i)*3+c]?=some u)/\TCells w F Gl es t
theorem totTS_take {ts:List TT} {j:Nat} (h:j<ts.length):totTS (ts.take (j+1))=totTS (ts.take j)+totT ts[j]:=by
 induction ts generalizing j with
 |nil=>simp at h
 |cons t ts ih=>cases j with
  |zero=>simp [totTS]
  |succ j=>
   have h:j<ts.length:=by simpa using h
   simp only [List.take_succ_cons,totTS,ih h,List.getElem_cons_succ]
   omega
theorem totTS_le (ts:List TT) (j:Nat):totTS (ts.take j)<=totTS ts:=by
 induction ts generalizing j with
 |nil=>simp [totTS]
 |cons t ts ih=>cases j with
  |zero=>simp [totTS]
  |succ j=>simp only [List.take_succ_cons,totTS];have:=ih j;omega
theorem TCells.len1 {w:World} {F:List Nat} {e:Ty} {cs:List Value} {x:List e.den} (h:TCells w F (.slice e) cs x):cs.length=1:=by
 simp only [TCells] at h
 obtain ⟨a,n,c,rfl,_⟩:=h
 rfl
theorem Rem.parts {w:World} {g o:Nat} {tid:TypeId} {cur:Array Value} {Fs:List (List Nat)} {ts:List TT} {j:Nat} (h:Rem w g o tid cur Fs ts j) (hl:Fs.length=ts.length) (hn:(g::List.flatten Fs).Nodup) (hj:j<ts.length):
  ∃u0 u1 u2 F0 F1 F2,w.cell? ⟨g,o*3+(j*3),none⟩=some u0/\w.cell? ⟨g,o*3+(j*3)+1,none⟩=some u1/\w.cell? ⟨g,o*3+(j*3)+2,none⟩=some u2/\Fs[j]?=some (F0++(F1++F2))/\(F0++(F1++F2)).Nodup/\g∉F0++(F1++F2)/\
   TCells w F0 tL [u0] ts[j].1/\TCells w F1 Zp [u1] ts[j].2.1/\TCells w F2 tL [u2] ts[j].2.2.1:=by
 have hF:Fs[j]?=some (Fs[j]'(by omega)):=List.getElem?_eq_getElem (by omega)
 obtain ⟨es,e1,e2,e3⟩:=h.els j _ _ (Nat.le_refl j) (List.getElem?_eq_getElem hj) hF
 generalize Fs[j]'(by omega)=F at hF e3
 simp only [TCells] at e3
 obtain ⟨x0,y0,F0,G0,rfl,rfl,t0,x1,y1,F1,G1,rfl,rfl,t1,x2,y2,F2,G2,rfl,rfl,t2,rfl,rfl⟩:=e3
 have b0:=TCells.len1 t0
 have b1:=TCells.len1 t1
 have b2:=TCells.len1 t2
 obtain ⟨u0,rfl⟩:=List.length_eq_one_iff.1 b0
 obtain ⟨u1,rfl⟩:=List.length_eq_one_iff.1 b1
 obtain ⟨u2,rfl⟩:=List.length_eq_one_iff.1 b2
 rw [List.append_nil] at hF
 have hnF:(F0++(F1++F2)).Nodup:=(List.nodup_cons.1 hn).2.sublist (by
  have:=Tb (List.singleton_sublist.2 (List.mem_of_getElem? hF))
  simpa using this)
 have cell: ∀c u,([u0]++([u1]++([u2]++ [])))[c]?=some u->w.cell? ⟨g,o*3+(j*3)+c,none⟩=some u:= λc u hc=>by
  rw [cellOf h.blk,show o*3+j*3+c=(o+j)*3+c by rw [Nat.add_mul]]
  exact e2 c u hc
 exact ⟨u0,u1,u2,F0,F1,F2,cell 0 u0 rfl,cell 1 u1 rfl,cell 2 u2 rfl,hF,hnF,λhh=>(List.nodup_cons.1 hn).1 (List.mem_flatten.2 ⟨_,List.mem_of_getElem? hF,hh⟩),t0,t1,t2⟩
theorem adv_cell {w w1:World} {F:List Nat} {g x:Nat} (hb:Df w.heap.size (· ∈F) w w1) (hg:g<w.heap.size) (h:g∉F) {u:Value} (hc:w.cell? ⟨g,x,none⟩=some u):w1.cell? ⟨g,x,none⟩=some u:=by
 have:=hb.block g hg h
 unfold World.cell? at hc⊢
 rw [this]
 exact hc
theorem adv_tree {w w1:World} {F F':List Nat} (hb:Df w.heap.size (· ∈F) w w1) (h: ∀b∈F',b∉F) {τ:Ty} {cs:List Value} {x:τ.den} (hc:TCells w F' τ cs x):TCells w1 F' τ cs x:=
 TCells.Cr F' τ cs x hc hb.size λb cr=>hb.block b (TCells.lt F' τ cs x hc b cr) (h b cr)
theorem Rem.adv {w w1:World} {g o:Nat} {tid:TypeId} {cur:Array Value} {Fs:List (List Nat)} {ts:List TT} {i j:Nat} {F G:List Nat} (hR:Rem w g o tid cur Fs ts i) (iW:i<=j) (hb:Df w.heap.size (· ∈F) w w1) (hn:(g::List.flatten Fs).Nodup) {m:Nat} (hm:Fs[m]?=some G) (hG: ∀b∈F,b∈G) (hmj:m<j):Rem w1 g o tid cur Fs ts j:=by
 have hgm: ∀b∈F,b∈List.flatten Fs:= λb hb=>List.mem_flatten.2 ⟨G,List.mem_of_getElem? hm,hG b hb⟩
 refine ⟨(hb.block g (Cs hR.blk) λh=>(List.nodup_cons.1 hn).1 (hgm _ h)).trans hR.blk,λk t F' hk ht RD=>?_⟩
 obtain ⟨es,e1,e2,e3⟩:=hR.els k t F' (by omega) ht RD
 refine ⟨es,e1,e2,adv_tree hb (λb cr hF=>?_) e3⟩
 have:=Xl Fs m k G F' b (List.nodup_cons.1 hn).2 hm RD (hG b hF) cr
 omega
theorem adv_below {w wr w1:World} {F:List Nat} {Fs:List (List Nat)} (h:Df w.heap.size (λb=>b∈List.flatten Fs) w wr) (hb:Df wr.heap.size (· ∈F) wr w1) {m:Nat} {G:List Nat} (hm:Fs[m]?=some G) (hG: ∀b∈F,b∈G):Df w.heap.size (λb=>b∈List.flatten Fs) w w1:=
 h.trans ⟨hb.os,hb.tape,hb.output,hb.size,λb cr hF=>hb.block b (Nat.lt_of_lt_of_le cr h.size) λhh=>hF (List.mem_flatten.2 ⟨G,List.mem_of_getElem? hm,hG b hh⟩)⟩
set_option maxHeartbeats 4000000 in
set_option maxRecDepth 100000 in
theorem walk_markTS (g o cap:Nat) (tid:TypeId) (cur:Array Value) (Fs:List (List Nat)) (ts:List TT) (k0:Int) (w:World) (hl:Fs.length=ts.length) (hn:(g::List.flatten Fs).Nodup) (hs:En ts) (hk:low k0/\low (k0+totTS ts)) (hr:Rem w g o tid cur Fs ts 0):
  Calls Tryz.prog 14 #[.slice (some ⟨g,o*3,none⟩) ts.length cap, .int .i64 k0] w λe w'=>e= .returned (.int .i64 (k0+totTS ts))/\Df w.heap.size (λb=>b∈List.flatten Fs) w w':=by
 have mixed:=mixedGw
 have hlen:ts.length<=4294967296:=hs.1
 go_enter Tryz.func14,Tryz.ntmps14
 go_wp2
 go_loopw [1,5] (λk i wr=> ∃j:Nat,j<=ts.length/\i= .int .i64 j/\k= .int .i64 (k0+totTS (ts.take j))/\Rem wr g o tid cur Fs ts j/\Df w.heap.size (λb=>b∈List.flatten Fs) w wr)
  (λ_ i _=>ts.length-(RowKit.intOf i).toNat)
 case atStart=>exact ⟨0,Nat.zero_le _,rfl,by simp [totTS],hr,Df.refl _ _ _⟩
 case round=>
  obtain ⟨j,hj,rfl,rfl,hR,hB⟩:=hrel
  by_cases XM:j<ts.length
  ·obtain ⟨u0,u1,u2,F0,F1,F2,c0,c1,c2,q0,q1,q2,t0,t1,t2⟩:=hR.parts hl hn XM
   obtain ⟨n0,VK,_⟩:=List.nodup_append.1 q1
   obtain ⟨n1,n2,_⟩:=List.nodup_append.1 VK
   have hT:=hs.2 _ (List.getElem_mem XM)
   have hle:=totTS_le ts (j+1)
   rw [totTS_take XM] at hle
   obtain ⟨⟨k1,k2⟩,k3,k4⟩:=hk
   have Ag0:totT ts[j]=ts[j].1.length+Bx ts[j].2.1+ts[j].2.2.1.length:=rfl
   have hg:g<wr.heap.size:=Cs hR.blk
   have l1:low (k0+(totTS (ts.take j):Nat)):=⟨by omega,by omega⟩
   have l2:low (k0+(totTS (ts.take j):Nat)+(ts[j].1.length:Nat)):=⟨by omega,by omega⟩
   have l3:low (k0+(totTS (ts.take j):Nat)+(ts[j].1.length:Nat)+(Bx ts[j].2.1:Nat)):=⟨by omega,by omega⟩
   clear hr hle
   have g0:g∉F0:= λh=>q2 (List.mem_append_left _ h)
   have g1:g∉F1:= λh=>q2 (List.mem_append_right _ (List.mem_append_left _ h))
   have d01: ∀b∈F1,b∉F0:= λb h h'=>(List.nodup_append.1 q1).2.2 b h' b (List.mem_append_left _ h) rfl
   have d02: ∀b∈F2,b∉F0:= λb h h'=>(List.nodup_append.1 q1).2.2 b h' b (List.mem_append_right _ h) rfl
   have d12: ∀b∈F2,b∉F1:= λb h h'=>(List.nodup_append.1 VK).2.2 b h' b h rfl
   have s0: ∀b∈F0,b∈F0++(F1++F2):= λb h=>List.mem_append_left _ h
   have s1: ∀b∈F1,b∈F0++(F1++F2):= λb h=>List.mem_append_right _ (List.mem_append_left _ h)
   have s2: ∀b∈F2,b∈F0++(F1++F2):= λb h=>List.mem_append_right _ (List.mem_append_right _ h)
   go_wp2_with (first
    |(go_at_call 15;refine (step_markL Agk n2 ⟨hT.2.2,l3⟩).mono ?_;rintro e3 w3 ⟨rfl,TM⟩)
    |(go_at_call 31;refine (step_markLL QA n1 ⟨hT.2.1,l2,l3⟩).mono ?_;rintro e2 w2 ⟨rfl,RI⟩;have Aih:=adv_cell RI hg1 g1 c2';have Agk:=adv_tree RI d12 XZ)
    |(go_at_call 15;refine (step_markL t0 n0 ⟨hT.1,l1⟩).mono ?_;rintro e1 w1 ⟨rfl,sB⟩;have c1':=adv_cell sB hg g0 c1;have c2':=adv_cell sB hg g0 c2;have QA:=adv_tree sB d01 t1;have XZ:=adv_tree sB d02 t2;have hg1:g<w1.heap.size:=Nat.lt_of_lt_of_le hg sB.size))
   refine ⟨⟨j+1,by omega,by go_num,?_,((hR.adv (Nat.le_succ j) sB hn q0 s0 (Nat.lt_succ_self j)).adv (Nat.le_refl _) RI hn q0 s1 (Nat.lt_succ_self j)).adv (Nat.le_refl _) TM hn q0 s2 (Nat.lt_succ_self j),adv_below (adv_below (adv_below hB sB q0 s0) RI q0 s1) TM q0 s2⟩,by simp [RowKit.intOf];omega⟩
   rw [totTS_take XM,Ag0]
   congr 1
   push_cast
   omega
  ·have XM:j=ts.length:=by omega
   subst XM
   clear hr hn
   go_wp2
   all_goals go_ret
   exact ⟨by rw [List.take_length];rfl,hB⟩
set_option maxHeartbeats 4000000 in
set_option maxRecDepth 100000 in
theorem walk_markTS0 (base:Option Addr) (cap:Nat) (k0:Int) (w:World):
  Calls Tryz.prog 14 #[.slice base 0 cap, .int .i64 k0] w λe w'=>e= .returned (.int .i64 k0)/\w'=w:=by
 have mixed:=mixedGw
 go_enter Tryz.func14,Tryz.ntmps14
 go_wp2
 go_loop [1,5] (λk i=>k= .int .i64 k0/\i= .int .i64 0) (λ_ _=>0)
 case atStart=>exact ⟨rfl,rfl⟩
 case round=>
  obtain ⟨rfl,rfl⟩:=hrel
  go_wp2
  all_goals go_ret
  exact ⟨rfl,rfl⟩
theorem sound_markTS:Bh Tryz.prog 14 s_markTS:=by
 refine ⟨Uw Tryz.func14 (by kernel_rfl) (by kernel_rfl),λw S π us x r o g vs hA _ hIn hP hS UM JB=>?_⟩
 obtain ⟨ts,k,⟨⟩⟩:=x
 have hp:En ts/\low k/\low (k+totTS ts):=Classical.byContradiction λhn=>by
  have:s_markTS.fn (ts,k,())=none:=if_neg hn
  rw [this] at JB;cases JB
 have hv:s_markTS.fn (ts,k,())=some ((k+totTS ts,()),()):=if_pos hp
 rw [hv] at JB
 cases JB
 cases us with
 |nil=>exact hIn.elim
 |cons u us=>
 cases us with
 |nil=>exact hIn.2.elim
 |cons u1 us=>
 cases us with
 |cons u2 us=>exact hIn.2.2.elim
 |nil=>
 obtain ⟨⟨hO,hR⟩,⟨_,hI⟩,_⟩:=hIn
 obtain ⟨rfl,_⟩:=hA
 have hu1:u1= .int .i64 k:=by
  obtain ⟨cs,hc,rfl⟩:=hI
  simp only [Cells] at hc
  subst hc;rfl
 subst hu1
 have fin: ∀(w':World),Df w.heap.size (λb=>Na π b\/s_markTS.gv g b) w w'-> ∀e,e=Ending.returned (.int .i64 (k+totTS ts))->
   ∃v Nh ρ,e= .returned v/\jX s_markTS w' ρ (Nh.drop s_markTS.Si) v/\bL s_markTS π w' g Nh ()/\Df w.heap.size (λb=>Na π b\/s_markTS.gv g b) w w'/\Ha w' (bD S π ρ) π 0 s_markTS.ins ()/\Ew w' (bD S π ρ) ρ 0 s_markTS.outs (k+totTS ts,()) Nh/\
    Zs ρ (λb=>b<w'.heap.size/\(w.heap.size<=b\/ ∃l q,l<Ai/\π l=some q/\q.Ay b))/\(∀l,(∀k,k<s_markTS.Mx->l≠Fo k)->ρ l=none)/\(∀kj∈s_markTS.keeps,qn w w' (π (Bl false kj.1)) (ρ (Fo kj.2)) (s_markTS.Cr (ts,k,()))):=by
  intro w' hb e he
  exact ⟨_,[.int .i64 (k+totTS ts)],λ_=>none,he,⟨.inl rfl,trivial⟩,trivial,hb,trivial,⟨⟨rfl,⟨[.int .i64 (k+totTS ts)],rfl,rfl⟩⟩,trivial⟩,⟨(λ_ _ _ hl _=>by cases hl),(λ_ _ _ _ _ hl _ _ _=>by cases hl)⟩,λ_ _=>rfl,λ_ hk=>by cases hk⟩
 show Calls Tryz.prog _ #[u, .int .i64 k] w _
 by_cases h0:ts= []
 ·subst h0
  have hu: ∃base cap,u= .slice base 0 cap:=by
   cases hq:π (Bl false 0) with
   |none=>rw [hq] at hO;exact ⟨none,0,hO.1⟩
   |some q=>rw [hq] at hO;obtain ⟨ad,h1,_⟩:=hO;exact ⟨some ad,_,h1⟩
  obtain ⟨base,cap,rfl⟩:=hu
  refine (walk_markTS0 base cap k w).mono λe w' ⟨he,hw⟩=>?_
  subst hw
  exact fin _ (Df.refl _ _ _) e (by rw [he];simp [totTS])
 ·cases hq:π (Bl false 0) with
  |none=>
   rw [hq] at hR
   exact absurd hR h0
  |some q=>
   rw [hq] at hO hR
   obtain ⟨ad,hu,ho,yL⟩:=hO
   obtain ⟨f1,cur,ti,f3,f4,f5,f6,Fs,t1,t2,t3,t4⟩:=hR
   have hlen:0<ts.length:=List.length_pos_iff.2 h0
   have yL:=yL (Nat.lt_of_lt_of_le hlen f6)
   subst yL
   have hu:u= .slice (some ⟨q.g,q.o*3,none⟩) ts.length q.cap:=hu
   subst hu
   refine (walk_markTS q.g q.o q.cap ti cur Fs ts k w t1 t2 hp.1 hp.2 ⟨f3,λi t F _ ht hF=>t4 i t F ht hF⟩).mono λe w' ⟨he,hb⟩=>?_
   exact fin w' ⟨hb.os,hb.tape,hb.output,hb.size,λb cr hn=>hb.block b cr λhh=>hn (.inl ⟨_,q,hq,t3 b hh⟩)⟩ e he
end Go.Proofs.YtjbdmibbbpdnnaaGreat

namespace Go.Proofs.YtjbdmibbbpdnnaaGreat
open Go.RowKit
noncomputable def m_lows (p:PP) (ts:List TT):List Int:=(Bj p).map (ig ts)
noncomputable def m_boundHist (p:PP) (ts:List TT):List Int:=if (Fh p&&Eg p ts)=true then jr (m_lows p ts) else []
noncomputable abbrev s_implBH:MSpec:=Wb [some 3,none] [(false, .Ee tI),(false, .Ee .str),(false, .Ee Zp),(false, .Ee xD)] false [none] [rL] (λx=>Cf (x.1,x.2.1,x.2.2.1,())/\En x.2.2.2.1) (λx=>((m_boundHist (x.1,x.2.1,x.2.2.1,()) x.2.2.2.1,()),()))
noncomputable abbrev s_specBH:Spec:=Cv (.pair Dn (.pair xD .unit)) tL false true (λx=>Cf x.1/\En x.2.1) (λx=>m_boundHist x.1 x.2.1)
theorem w_implBH (n:Int) (s:ByteArray) (g:List (List Int)) (ts:List (List Int×List (List Int)×List Int×Unit)) (P:((List Int×Unit)×Unit)->Prop):(∃(y5:Option ((Int×ByteArray×List (List Int)×PUnit)×List (List Int)×List Int×(ByteArray->Option Int)×List Int×List Int×List (List Int)×PUnit)×Bool×PUnit),Od.fn ((n,s,g,()),())=some y5/\Br (!y5.2.1) (P ((List.take 0 (List.drop 0 []),()),())) (∃(y6:Bool),Gv.fn ((n,s,g,()),ts,())=some y6/\Br (!y6) (P ((List.take 0 (List.drop 0 []),()),())) (∃(y7:Option (List (List Int×List (List Int)×List Int×PUnit)×List (ByteArray->Option Int)×PUnit)),Oi.fn (ts,())=some y7/\ ∃(y8:(Int×ByteArray×List (List Int)×PUnit)×List (List Int)×List Int×(ByteArray->Option Int)×List Int×List Int×List (List Int)×PUnit),y5.1=some y8/\0=0/\0=([]:List Int).length/\Bi (λ(v9:Int×List Int×PUnit) (k10:Int×List Int×PUnit->Prop)=>Br (decide (v9.1<(↑y8.2.1.length:Int))) (∃(iX:List Int),idx y8.2.1 v9.1=some iX/\ ∃(HW:Int),dU.fn (y7,iX,())=some HW/\0=0/\v9.2.1.length=v9.2.1.length/\v9.2.1.length+(List.take 1 (List.drop 0 [HW])).length<=Bg/\0=0/\(v9.2.1++List.take 1 (List.drop 0 [HW])).length=(v9.2.1++List.take 1 (List.drop 0 [HW])).length/\k10 (IntKind.i64.wrap (v9.1+(1:Int)),v9.2.1++List.take 1 (List.drop 0 [HW]),())) (∃(iX:(List Int×PUnit)×PUnit),Oe.fn (List.take v9.2.1.length (List.drop 0 v9.2.1),())=some iX/\P ((List.take iX.1.1.length (List.drop 0 iX.1.1),()),()))) ((0:Int),[],PUnit.unit))))=fnMW Nu (look [(24,Od),(25,Gv),(26,Oi),(27,dU),(28,Oe)]) s_implBH Tryz.f9 (n,s,g,ts,()) P:=by kernel_rfl
abbrev rS:Type:=Int×List (List Int)×List Int×List Int×Bool×List Int×PUnit
abbrev rT:Type:=List (List Int)×List Int×List Int×Bool×List Int×PUnit
theorem w_specBH (p:Int×ByteArray×List (List Int)×Unit) (ts:List (List Int×List (List Int)×List Int×Unit)) (P:List Int->Prop):(∃(y3:(List (List Int)×List Int×List Int×Bool×PUnit)×Bool×PUnit),Lp.fn ((p.1,p.2.1,p.2.2.1,()),())=some y3/\Br (!y3.2.1) (P (List.take 0 (List.drop 0 []))) (∃(y4:Bool),Gv.fn ((p.1,p.2.1,p.2.2.1,()),ts,())=some y4/\Br (!y4) (P (List.take 0 (List.drop 0 []))) (0=0/\0=([]:List Int).length/\Bi (λ(v5:rS) (k6:rS->Prop)=>Br (decide (v5.1<(↑v5.2.1.length:Int))) (∃(y7:List Int),idx v5.2.1 v5.1=some y7/\ ∃(y8:Int),aL.fn (ts,y7,())=some y8/\0=0/\v5.2.2.2.2.2.1.length=v5.2.2.2.2.2.1.length/\Bi (λ(v9:rT) (k10:rT->Prop)=>Br (decide ((↑v9.2.2.2.2.1.length:Int)<=y8)) (0=0/\v9.2.2.2.2.1.length=v9.2.2.2.2.1.length/\v9.2.2.2.2.1.length+(List.take 1 (List.drop 0 [(0:Int)])).length<=Bg/\0=0/\(v9.2.2.2.2.1++List.take 1 (List.drop 0 [(0:Int)])).length=(v9.2.2.2.2.1++List.take 1 (List.drop 0 [(0:Int)])).length/\k10 (v9.1,v9.2.1,v9.2.2.1,v9.2.2.2.1,v9.2.2.2.2.1++List.take 1 (List.drop 0 [(0:Int)]),())) (((0:Int)<=y8/\y8<(↑v9.2.2.2.2.1.length:Int))/\ ∃(iX:Int),v9.2.2.2.2.1[0+y8.toNat]?=some iX/\((0:Int)<=y8/\y8<(↑v9.2.2.2.2.1.length:Int))/\0+y8.toNat<v9.2.2.2.2.1.length/\0=0/\v9.2.2.2.2.1.length=(v9.2.2.2.2.1.set (0+y8.toNat) (IntKind.i64.wrap (iX+(1:Int)))).length/\k6 (IntKind.i64.wrap (v5.1+(1:Int)),v9.1,v9.2.1,v9.2.2.1,v9.2.2.2.1,v9.2.2.2.2.1.set (0+y8.toNat) (IntKind.i64.wrap (iX+(1:Int))),()))) (v5.2.1,v5.2.2.1,v5.2.2.2.1,v5.2.2.2.2.1,v5.2.2.2.2.2.1,PUnit.unit)) (P (List.take v5.2.2.2.2.2.1.length (List.drop 0 v5.2.2.2.2.2.1)))) ((0:Int),y3.1.1,y3.1.2.1,y3.1.2.2.1,y3.1.2.2.2.1,[],PUnit.unit))))=fnW Cl (look [(19,Lp),(20,Gv),(21,aL)]) s_specBH Tryz.f6 (p,ts,()) P:=by kernel_rfl
abbrev iK:Type:=(List (List Int×List (List Int)×List Int×PUnit)×PUnit)×PUnit
abbrev oJ:Type:=(Int×ByteArray×List (List Int)×PUnit)×PUnit
theorem w_lawBH (p:Int×ByteArray×List (List Int)×Unit) (ts:List (List Int×List (List Int)×List Int×Unit)) (P:Bool->Prop):(∃(y3:Int),rF.fn ((p.1,p.2.1,p.2.2.1,()),(1048576:Int),())=some y3/\Br (decide (y3<(0:Int))) (P true) (∃(y4:Int),jI.fn (ts,y3,())=some y4/\Br (decide (y4<(0:Int))) (P true) (∃(y5:oJ),Jw.fn (p.1,p.2.1,p.2.2.1,())=some y5/\ ∃(y6:iK),s_toTSm.fn (ts,())=some y6/\ ∃(y7:List Int),s_specBH.fn ((y5.1.1,y5.1.2.1,List.take y5.1.2.2.1.length (List.drop 0 y5.1.2.2.1),()),List.take y6.1.1.length (List.drop 0 y6.1.1),())=some y7/\ ∃(y8:oJ),Jw.fn (p.1,p.2.1,p.2.2.1,())=some y8/\ ∃(y9:iK),s_toTSm.fn (ts,())=some y9/\ ∃(bC:(List Int×PUnit)×PUnit),s_implBH.fn (y8.1.1,y8.1.2.1,List.take y8.1.2.2.1.length (List.drop 0 y8.1.2.2.1),List.take y9.1.1.length (List.drop 0 y9.1.1),())=some bC/\ ∃(iX:Bool),An.fn (List.take bC.1.1.length (List.drop 0 bC.1.1),y7,())=some iX/\Br (!iX) (P false) (∃(HW:Int×ByteArray×List (List Int)×PUnit),rG.fn ((p.1,p.2.1,p.2.2.1,()),())=some HW/\ ∃(BD:Bool),rz.fn ((y8.1.1,y8.1.2.1,List.take y8.1.2.2.1.length (List.drop 0 y8.1.2.2.1),()),HW,())=some BD/\Br (!BD) (P false) (∃(aX:iK),s_toTSm.fn (ts,())=some aX/\ ∃(iT:Bool),jG.fn (List.take y9.1.1.length (List.drop 0 y9.1.1),List.take aX.1.1.length (List.drop 0 aX.1.1),())=some iT/\Br (!iT) (P false) (0=0/\y8.1.2.2.1.length=y8.1.2.2.1.length/\ ∃(lO:(Int×PUnit)×List (List Int)×PUnit),Ma.fn (y8.1.1,y8.1.2.1,y8.1.2.2.1,(1:Int),())=some lO/\(lO.2.1.length=y8.1.2.2.1.length/\y8.1.2.2.1.length=y8.1.2.2.1.length)/\0=0/\y9.1.1.length=y9.1.1.length/\ ∃(BE:(Int×PUnit)×PUnit),s_markTS.fn (y9.1.1,lO.1.1,())=some BE/\Br (decide (BE.1.1<(0:Int))) (P false) (∃(HM:Bool),An.fn (List.take bC.1.1.length (List.drop 0 bC.1.1),y7,())=some HM/\Br (!HM) (P false) (0=0/\bC.1.1.length=bC.1.1.length/\ ∃(QR:(Int×PUnit)×List Int×PUnit),Tx.fn (bC.1.1,(1:Int),())=some QR/\(QR.2.1.length=bC.1.1.length/\bC.1.1.length=bC.1.1.length)/\ ∃(HX:Int),aK.fn (List.take bC.1.1.length (List.drop 0 QR.2.1),(1:Int),())=some HX/\Br (decide (HX<(0:Int))) (P false) (Br (HX !=QR.1.1) (P false) (∃(uN:oJ),Jw.fn (p.1,p.2.1,p.2.2.1,())=some uN/\ ∃(y22:iK),s_toTSm.fn (ts,())=some y22/\ ∃(y23:(List Int×PUnit)×PUnit),s_implBH.fn (uN.1.1,uN.1.2.1,List.take uN.1.2.2.1.length (List.drop 0 uN.1.2.2.1),List.take y22.1.1.length (List.drop 0 y22.1.1),())=some y23/\ ∃(y24:Bool),An.fn (List.take y23.1.1.length (List.drop 0 y23.1.1),y7,())=some y24/\Br (!y24) (P false) (∃(y25:Int),aK.fn (List.take bC.1.1.length (List.drop 0 QR.2.1),(1:Int),())=some y25/\Br (decide (y25<(0:Int))) (P false) (Br (y25 !=QR.1.1) (P false) (P true)))))))))))))=fnW Cl (look [(4,rF),(5,jI),(6,s_specBH),(9,s_implBH),(7,Wd.b rG Jw),(8,Wd.b nZ s_toTSm),(10,An),(11,rz),(12,jG),(13,Ma),(14,s_markTS),(15,Tx),(16,aK)]) nY Tryz.f3 (p,ts,()) P:=by kernel_rfl
theorem lows_len (p:PP) (ts:List TT):(m_lows p ts).length=(Bj p).length:=by unfold m_lows;rw [List.length_map]
theorem lows_at {p:PP} {ts:List TT} {j:Nat} (h:j<(Bj p).length):(m_lows p ts)[j]'(by rw [lows_len];exact h)=ig ts (Bj p)[j]:=by simp [m_lows]
theorem lows_small {p:PP} {ts:List TT} (hw:Fh p=true) (ht:Eg p ts=true):small (m_lows p ts):=by
 have hv:=(He hw).1
 have h1:=WK hv
 have h2:=iI hv
 obtain ⟨_,ED,_⟩:=Xa ht
 refine ⟨by rw [lows_len];exact h1,by unfold short;rw [lows_len];omega,λx hx=>?_⟩
 obtain ⟨s,hs,rfl⟩:=List.mem_map.1 hx
 exact OY ED (dm hw ht hs)
theorem m_boundHist_short (p:PP) (ts:List TT):short (m_boundHist p ts):=by
 unfold m_boundHist short
 split
 ·rename_i h
  obtain ⟨hw,ht⟩:=Bool.and_eq_true_iff.1 h
  have:=rK (lows_small hw ht)
  simp only [jr,List.length_map,List.length_range]
  omega
 ·simp
theorem p_implBH (n:Int) (s:ByteArray) (g:List (List Int)) (ts:List TT) (h:Cf (n,s,g,())/\En ts):fnMW Nu (look [(24,Od),(25,Gv),(26,Oi),(27,dU),(28,Oe)]) s_implBH Tryz.f9 (n,s,g,ts,()) (λ(z:(List Int×Unit)×Unit)=>z=((m_boundHist (n,s,g,()) ts,()),())):=by
 obtain ⟨hp,jl⟩:=h
 obtain ⟨p,hpe⟩: ∃p:PP,p=(n,s,g,()):=⟨_,rfl⟩
 refine Eq.mp (w_implBH n s g ts _) ?_
 rw [<-hpe] at hp⊢
 unfold m_boundHist
 by_cases hw:Fh p=true
 ·have he:Od.fn (p,())=some (some (Vk p),true,()):=(if_pos hp).trans (congrArg some (if_pos hw))
  rw [hw,Bool.true_and]
  refine ⟨_,he,λhb=>by simp at hb,λ_=>⟨_,if_pos ⟨hp,jl⟩,Br.of (λhm=>?_) λhm=>?_⟩⟩
  ·rw [if_neg (Ck hm)];rfl
  have hm:Eg p ts=true:=by simpa using hm
  rw [if_pos hm]
  have hv:=(He hw).1
  have hx:YE (Vk p):=⟨hw,rfl⟩
  have Ss:(Vk p).2.1=Bj p:=YK hx
  have hm3:=iI hv
  obtain ⟨_,ED,_⟩:=Xa hm
  have hsm:=lows_small hw hm
  have vZ:=lows_len p ts
  generalize Vk p=e at*
  refine ⟨_,if_pos ED,e,rfl,rfl,rfl,?_⟩
  rw [Ss]
  refine Ag (Bj p).length (λv=>v.1) (λj v=>v=((j:Int),(m_lows p ts).take j,())) rfl (by rw [List.take_zero];rfl) ?_
  rintro j v K hj hi rfl hK
  dsimp only
  refine Br.dec (λhl=>?_) λhl=>?_
  ·have hl:j<(Bj p).length:=by omega
   have Ts:=List.getElem_mem hl
   refine ⟨_,Am hl,_,if_pos ⟨ts,ED,rfl,dm hw hm Ts⟩,rfl,rfl,?_,rfl,rfl,?_⟩
   ·show ((m_lows p ts).take j).length+1<=4294967296
    rw [List.length_take];omega
   ·rw [Ah (by omega)]
    refine hK hl _ rfl ?_
    rw [List.take_succ_eq_append_getElem (show j<(m_lows p ts).length by omega),lows_at hl]
    rfl
  ·have:j=(Bj p).length:=by omega
   subst this
   rw [<-vZ,List.take_length,At]
   refine ⟨_,if_pos hsm,?_⟩
   simp only [At]
 ·have he:Od.fn (p,())=some (none,false,()):=(if_pos hp).trans (congrArg some (if_neg hw))
  rw [Bool.not_eq_true _|>.mp hw,Bool.false_and,if_neg (by decide)]
  exact ⟨_,he,λ_=>rfl,λhb=>by simp at hb⟩
theorem sound_implBH:Bh Tryz.prog 9 s_implBH:=
 Bh.Wb Mo (Ae pT (Ae fV (Ae lF (Ae xq (Dt lA Ak))))) mixed Tryz.func9 (by kernel_rfl) (by kernel_rfl) λx h=>p_implBH x.1 x.2.1 x.2.2.1 x.2.2.2.1 h
theorem p_specBH (p:PP) (ts:List TT) (h:Cf p/\En ts):fnW Cl (look [(19,Lp),(20,Gv),(21,aL)]) s_specBH Tryz.f6 (p,ts,()) (λ(z:List Int)=>z=m_boundHist p ts):=by
 obtain ⟨hp,jl⟩:=h
 unfold m_boundHist
 by_cases hw:Fh p=true
 ·have hv:=(He hw).1
  rw [hw,Bool.true_and]
  refine Eq.mp (w_specBH p ts _) ⟨_,oB hp hw,λhb=>by simp at hb,λ_=>⟨_,if_pos ⟨hp,jl⟩,Br.of (λhm=>?_) λhm=>?_⟩⟩
  ·rw [if_neg (Ck hm)];rfl
  have hm:Eg p ts=true:=by simpa using hm
  rw [if_pos hm]
  have hlen:=iI hv
  obtain ⟨_,ED,_⟩:=Xa hm
  obtain ⟨h1,h2,h3⟩:=lows_small hw hm
  have vZ:=lows_len p ts
  obtain ⟨xs,NG⟩: ∃xs,m_lows p ts=xs:=⟨_,rfl⟩
  have YY: ∀j (hl:j<(Bj p).length),∃hx:j<xs.length,xs[j]=ig ts (Bj p)[j]:= λj hl=>by subst NG;exact ⟨by omega,lows_at hl⟩
  rw [NG] at h1 h2 h3 vZ⊢
  refine ⟨rfl,rfl,?_⟩
  refine Ag (Bj p).length (λv=>v.1) (λj v=>v.2.1=Bj p/\ ∃m:Nat,v.2.2.2.2.2.1=uG xs j m/\(∀x∈xs.take j,x<m)/\((m=0/\j=0)\/ ∃x∈xs.take j,x+1=(m:Int))) rfl
   ⟨rfl,0,by simp [uG],by simp, .inl ⟨rfl,rfl⟩⟩ ?_
  rintro j ⟨i,L,a1,a2,a3,ys,⟨⟩⟩ K hj hi ⟨hL,m,e4,e5,e6⟩ hK
  dsimp only at hi hL e4⊢
  subst hi;subst hL;subst e4
  refine Br.dec (λhl=>?_) λhl=>?_
  ·have hl:j<(Bj p).length:=by omega
   obtain ⟨HS,hxj⟩:=YY j hl
   have Ts:=List.getElem_mem hl
   have hx:=h3 _ (List.getElem_mem HS)
   obtain ⟨d,hd⟩:=Int.eq_ofNat_of_zero_le hx.1
   have UI:aL.fn (ts,(Bj p)[j],())=some (d:Int):=(if_pos ⟨ED,dm hw hm Ts⟩).trans (congrArg some (hxj.symm.trans hd))
   have hm:m<=3001:=by
    rcases e6 with ⟨h,_⟩|⟨x,h,h'⟩
    ·omega
    ·have:=h3 x (List.mem_of_mem_take h);omega
   refine ⟨_,Am hl,_,UI,rfl,rfl,?_⟩
   refine ⟨λv=>v.1=Bj p/\ ∃n:Nat,v.2.2.2.2.1=uG xs j n/\m<=n/\n<=max m (d+1),λv=>3002-v.2.2.2.2.1.length,⟨rfl,m,rfl,Nat.le_refl _,by omega⟩,?_⟩
   rintro ⟨L,b1,b2,b3,zs,⟨⟩⟩ ⟨f1,n,f4,f5,f6⟩
   dsimp only at f1 f4⊢
   subst f1;subst f4
   refine Br.dec (λhle=>?_) λhle=>?_
   ·rw [Ow] at hle
    have hn:n<=d:=by omega
    have w5:List.take 1 (List.drop 0 [(0:Int)])= [0]:=rfl
    have Aak: ∀x∈xs.take j,x<(n:Int):= λx hx=>by have:=e5 x hx;omega
    rw [w5,IN Aak]
    refine ⟨rfl,rfl,by rw [Ow];show n+1<=4294967296;omega,rfl,rfl,⟨rfl,n+1,rfl,by omega,by omega⟩,?_⟩
    simp only [Ow]
    omega
   ·rw [Ow] at hle
    have TR:d<n:=by omega
    have hc:=count_le xs j d
    unfold short at h2
    refine ⟨⟨by omega,by rw [Ow];omega⟩,?_⟩
    rw [Int.toNat_natCast,Nat.zero_add]
    refine ⟨_,gw TR,⟨by omega,by rw [Ow];omega⟩,by rw [Ow];exact TR,rfl,by rw [List.length_set],?_⟩
    rw [Ah (by omega),Ca (by omega) (by omega),vu HS hd TR]
    refine hK hl _ rfl ⟨rfl,n,rfl,λx hx=>?_, .inr ?_⟩
    ·rw [List.take_succ_eq_append_getElem HS] at hx
     rcases List.mem_append.1 hx with hx|hx
     ·have:=e5 x hx;omega
     ·have:=List.mem_singleton.1 hx;rw [this,hd];omega
    ·by_cases hmd:m<=d
     ·exact ⟨xs[j],by rw [List.take_succ_eq_append_getElem HS];exact List.mem_append_right _ (List.mem_singleton.2 rfl),by rw [hd];omega⟩
     ·rcases e6 with ⟨h,_⟩|⟨x,h,h'⟩
      ·omega
      ·exact ⟨x,by rw [List.take_succ_eq_append_getElem HS];exact List.mem_append_left _ h,by rw [h'];omega⟩
  ·have hj:j=(Bj p).length:=by omega
   subst hj
   rw [At]
   rw [<-vZ,List.take_length] at e5 e6
   have hmm:m=(Vm xs+1).toNat:=by
    have hb:=qV h1
    have h4:=e5 _ hb
    rcases e6 with ⟨_,h⟩|⟨x,h,h'⟩
    ·omega
    ·have:=wA h;omega
   rw [hmm]
   simp [uG,jr,<-vZ]
 ·obtain ⟨f,he⟩:=tZ hp hw
  rw [Bool.not_eq_true _|>.mp hw,Bool.false_and,if_neg (by decide)]
  exact Eq.mp (w_specBH p ts _) ⟨_,he,λ_=>rfl,λhb=>by simp at hb⟩
theorem sound_specBH:Sound Tryz.prog 6 s_specBH:=
 Sound.Cv Bk (Ae oo (Ae fX (Ae xp Ak))) mixed Tryz.func6 (by kernel_rfl) (by kernel_rfl) λx h=>p_specBH x.1 x.2.1 h
theorem szTSGo_room: ∀(ts:List TT) (room:Int),roomy room-> ¬Vx ts room<0->((totTS ts:Nat):Int)<=room-Vx ts room/\roomy (Vx ts room)
 | [],room,hr,_=>⟨by simp [totTS,Vx],hr⟩
 |t::ts,room,hr,h=>by
  simp only [Vx] at h⊢
  split at h
  ·exact absurd (show (-1:Int)<0 by decide) h
  ·rename_i h1
   rw [if_neg h1]
   obtain ⟨a,b⟩:=LW hr h1
   obtain ⟨c,d⟩:=szTSGo_room ts _ b h
   refine ⟨?_,d⟩
   simp only [totTS,totT]
   omega
theorem szTS_room {ts:List TT} {room:Int} (hr:roomy room) (h: ¬Vn ts room<0):((totTS ts:Nat):Int)<=room-Vn ts room/\roomy (Vn ts room):=by
 unfold Vn at h⊢
 split at h
 ·exact absurd (show (-1:Int)<0 by decide) h
 ·rename_i h1
  rw [if_neg h1]
  obtain ⟨h2,h3⟩:=hr
  obtain ⟨a,b⟩:=szTSGo_room ts _ (show roomy (room-ts.length) from ⟨by omega,by omega⟩) h
  exact ⟨by omega,b⟩
theorem m_eqTS_self (ts:List TT):decide (ts=ts)=true:=decide_eq_true rfl
theorem p_lawBH (p:PP) (ts:List TT) (h:Cf p/\En ts):fnW Cl (look [(4,rF),(5,jI),(6,s_specBH),(9,s_implBH),(7,Wd.b rG Jw),(8,Wd.b nZ s_toTSm),(10,An),(11,rz),(12,jG),(13,Ma),(14,s_markTS),(15,Tx),(16,aK)]) nY Tryz.f3 (p,ts,()) (λ(z:Bool)=>z=true):=by
 have h0:Cf (p.1,p.2.1,p.2.2.1,()):=h.1
 have h1:En ts:=h.2
 refine Eq.mp (w_lawBH p ts _) ?_
 refine ⟨_,if_pos ⟨h0,xd⟩,Br.dec (λ_=>rfl) λAfr=>?_⟩
 have OV:(((Bx p.2.2.1:Nat):Nat):Int)<=(1048576)-(Tg (p.1,p.2.1,p.2.2.1,()) (1048576))/\roomy (Tg (p.1,p.2.1,p.2.2.1,()) (1048576)):=LV xd Afr
 have Akq:=OV.1
 have Ak4:0<=Tg (p.1,p.2.1,p.2.2.1,()) (1048576)/\Tg (p.1,p.2.1,p.2.2.1,()) (1048576)<=4294967296:=OV.2
 refine ⟨_,if_pos ⟨h1,OV.2⟩,Br.dec (λ_=>rfl) λAa9=>?_⟩
 have SK:(((totTS ts:Nat):Nat):Int)<=(Tg (p.1,p.2.1,p.2.2.1,()) (1048576))-(Vn ts (Tg (p.1,p.2.1,p.2.2.1,()) (1048576)))/\roomy (Vn ts (Tg (p.1,p.2.1,p.2.2.1,()) (1048576))):=szTS_room OV.2 Aa9
 have Ai1:=SK.1
 have Ahv:0<=Vn ts (Tg (p.1,p.2.1,p.2.2.1,()) (1048576))/\Vn ts (Tg (p.1,p.2.1,p.2.2.1,()) (1048576))<=4294967296:=SK.2
 have l0:low (1+(Bx p.2.2.1:Nat)):=⟨by omega,by omega⟩
 have l1:low (1+(Bx p.2.2.1:Nat)+(totTS ts:Nat)):=⟨by omega,by omega⟩
 refine ⟨_,if_pos h0,_,if_pos h1,?_⟩
 simp only [At]
 refine ⟨_,if_pos ⟨h0,h1⟩,_,if_pos h0,_,if_pos h1,?_⟩
 simp only [At]
 have OF:short (m_boundHist (p.1,p.2.1,p.2.2.1,()) ts):=m_boundHist_short _ _
 generalize he0:m_boundHist (p.1,p.2.1,p.2.2.1,()) ts=g0 at OF
 refine ⟨_,if_pos ⟨h0,h1⟩,?_⟩
 simp only [At,he0]
 refine ⟨_,if_pos OF,⟨λhe=>absurd (Qu _) (Ck he),λ_=>?_⟩⟩
 refine ⟨_,if_pos h0,_,if_pos h0,⟨λhe=>absurd (zg _) (Ck he),λ_=>?_⟩⟩
 refine ⟨_,if_pos h1,?_⟩
 simp only [At]
 refine ⟨_,if_pos h1,⟨λhe=>absurd (m_eqTS_self _) (Ck he),λ_=>?_⟩⟩
 refine ⟨trivial,trivial,_,if_pos ⟨h0.2,m4,l0⟩,⟨Xp _ _,trivial⟩,trivial,trivial,_,if_pos ⟨h1,l0,l1⟩,Br.dec (λhn=>absurd l1.1 (Int.not_le.2 hn)) λ_=>?_⟩
 refine ⟨_,if_pos OF,⟨λhe=>absurd (Qu _) (Ck he),λ_=>?_⟩⟩
 refine ⟨trivial,trivial,_,if_pos ⟨OF,m4⟩,⟨Sf _ _,trivial⟩,?_⟩
 simp only [yb]
 have UJ: ∀k,short (Gr k g0.length):= λk=>by unfold short at*;rw [Sf];exact OF
 refine ⟨_,if_pos ⟨UJ _,m4⟩,?_⟩
 simp only [eI]
 refine Br.dec (λhn=>by omega) λ_=>⟨λhe=>by simp at he,λ_=>?_⟩
 refine ⟨_,if_pos h0,_,if_pos h1,?_⟩
 simp only [At]
 refine ⟨_,if_pos ⟨h0,h1⟩,?_⟩
 simp only [At,he0]
 refine ⟨_,if_pos OF,⟨λhe=>absurd (Qu _) (Ck he),λ_=>?_⟩⟩
 refine ⟨_,if_pos ⟨UJ _,m4⟩,?_⟩
 simp only [eI]
 exact Br.dec (λhn=>by omega) λ_=>⟨λhe=>by simp at he,λ_=>trivial⟩
theorem sound_lawBH:Sound Tryz.prog 3 nY:=
 Sound.Cv Bk (Ae GI (Ae AF (Ae sound_specBH (Dt sound_implBH (vE GJ lJ (vE AG sound_toTSm (Ae jL (Ae GC (Ae AB (Dt jP (Dt sound_markTS (Dt dh (Ae xm Ak))))))))))))) mixed Tryz.func3 (by kernel_rfl) (by kernel_rfl) λx h=>p_lawBH x.1 x.2.1 h
end Go.Proofs.YtjbdmibbbpdnnaaGreat
