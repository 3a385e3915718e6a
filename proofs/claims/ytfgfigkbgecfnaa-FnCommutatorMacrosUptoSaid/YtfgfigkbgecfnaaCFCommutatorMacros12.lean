/-
  Part 13 of the proof that the statement FnCommutatorMacros holds.
-/
import Derived.Test.YtfgfigkbgecfnaaCFCommutatorMacros11
import Derived.MapKept
namespace Go.Proofs.Ytfgfigkbgecfnaa
open Go.RowKit
section
variable {P:Program} {T:Tab} {X:Ctx} {w w':World} {π:Pi} {H:List (Nat×OB)}
theorem gS (hT:De P T) {st:St} {a:Act} (h:Ax X π st a w) (dst:Nat) (t:TypeId) (av:AV) (st':St) (he:Ql T st dst t=some (av,st')):
  ∃v' w' π',(Instr.makeMap t none).run P w= .ok v' w'/\Ax X π' st' a w'/\Ba X w' π' st'.heap av v':=by
 unfold Ql at he
 split at he
 ·rename_i v ht
  split at he
  ·rename_i hp
   simp only [Aa,Ab] at he
   obtain ⟨rfl,rfl⟩:=he
   obtain ⟨k,e,h1,h2,h3,h4,h5⟩:=hT.mapOf t v ht
   have eG:(w.alloc (.map #[] 0)).heap[w.heap.size]?=some (.map #[] 0):=heap_alloc_new w _
   refine ⟨.map (some w.heap.size),w.alloc (.map #[] 0),_,rfl,h.replace dst hp (some (Real.one w.heap.size 0 0)) _ (World.grownBy_alloc w _ _) (λr hr=>by cases hr;exact ⟨rfl, .inr (Ao _),Ej eG⟩) λm=>?_,?_⟩
   ·refine ⟨_,rfl,rfl,⟨h4,h5⟩, .inr ⟨_,rfl,Ej eG,λh=>h, #[],0,eG,by simp,λ_ _=>rfl,λs y hy=>by cases hy⟩⟩
   ·exact ⟨_,v,_,St.Ew st dst _,Eo _ _ _,rfl⟩
  ·cases he
 ·cases he
theorem po {e:MapEntry} {t:ByteArray} (h:e.key= .string t) (r:List MapEntry):Nq (e::r) t=some e.val:=by
 unfold Nq;rw [Af (by rw [h];rfl)]
theorem Qe {e:MapEntry} {t:ByteArray} (h:Pg e.key≠some t) (r:List MapEntry):Nq (e::r) t=Nq r t:=by
 rw [Nq,Aj h]
theorem jD {s t:ByteArray} (h:t≠s):Pg (.string s)≠some t:=by
 simp only [Pg,ne_eq,Aa];exact λe=>h e.symm
theorem iu (s:ByteArray) (x:Value): ∀(es:List MapEntry) (j:Nat) (e:MapEntry),es[j]?=some e->e.key= .string s->(∀k e,k<j->es[k]?=some e->Pg e.key≠some s)->
  ∀t,Nq (es.modify j λe=> {e with key:= .string s,val:=x}) t=if t=s then some x else Nq es t
 | [],j,e,h,_,_,_=>by simp at h
 |a::r,0,e,h,hk,_,t=>by
  simp only [Bd,Aa] at h
  subst h
  simp only [List.modify_zero_cons]
  by_cases nT:t=s
  ·subst nT;rw [po rfl,Af rfl]
  ·rw [Qe (jD nT),Aj nT,Qe (by rw [hk];exact jD nT)]
 |a::r,j+1,e,h,hk,hf,t=>by
  simp only [List.modify_succ_cons]
  have ih:=iu s x r j e (by simpa using h) hk (λk e hk he=>hf (k+1) e (by omega) (by simpa using he)) t
  have h0:=hf 0 a (by omega) rfl
  by_cases ha:Pg a.key=some t
  ·have:t≠s:= λe=>h0 (e▸ha)
   rw [Aj this]
   simp only [Nq,Af ha]
  ·rw [Qe ha,Qe ha,ih]
theorem mr (s:ByteArray) (x:Value) (b:Nat): ∀(es:List MapEntry) (t:ByteArray),Nq (es++ [{key:= .string s,val:=x,born:=b}]) t=match Nq es t with|some v=>some v|none=>if t=s then some x else none
 | [],t=>by
  simp only [List.nil_append]
  by_cases nT:t=s
  ·subst nT;rw [po rfl];simp [Nq]
  ·rw [Qe (jD nT)];simp [Nq,nT]
 |a::r,t=>by
  simp only [Ov]
  by_cases ha:Pg a.key=some t
  ·simp only [Nq,Af ha]
  ·rw [Qe ha,Qe ha];exact mr s x b r t
theorem mY {r:Nat} {es:Array MapEntry} {clock:Nat} (o:Obj) (hb:w.heap[r]?=some (.map es clock)):(setObj r o).run P w= .ok () {w with heap:=w.heap.setIfInBounds r o} :=by simp [setObj,Sem.run,hb]
theorem a6 (hT:De P T) {st:St} {a:Act} (h:Ax X π st a w) (t:TypeId) (m k x:AV) (vm vk vx:Value) (hm:Ba X w π st.heap m vm) (hk:Ba X w π st.heap k vk) (hx:Ba X w π st.heap x vx) (st':St)
  (he:Gl T st t m k x=some st'): ∃w',(Instr.mapUpdate t vm vk vx).run P w= .ok () w'/\Ax X π st' a w':=by
 unfold Gl at he
 split at he
 ·rename_i v l fr s ht
  have:=bw hk;subst this
  obtain ⟨kt,et,h1,h2,h3,h4,h5⟩:=hT.mapOf t v ht
  split at he
  ·rename_i v' f l8 y hl hv
   split at he
   ·rename_i hc
    obtain ⟨rfl,_,_⟩:=hc
    simp only [Aa] at he;subst he
    unfold St.at at hl
    obtain ⟨r,vt,mm,g1,g2,rfl⟩:=hm
    obtain ⟨r',g3,g4,g5,g6⟩:=(h.1.heap l).Ns hl
    rw [g2] at g3;cases g3
    simp only [Cells] at g6
    rcases g6 with ⟨g6,_⟩|⟨g,g6,hg,_,es,clock,q1,q2,q3,q4⟩
    ·simp at g6
    simp only [Es,Value.map.injEq,Aa,cA] at g6
    subst g6
    have hr:=Tl h.1 (S:= λ_=>False) v' x vx l8 y hx hv ⟨λ_ h=>h.elim, .inr λ_ h=>h.elim⟩
    have hxc:Cells w (λ_=>False) v' [vx] y:=Ck.Oc h5 hr
    obtain ⟨res,p1,p2,p3⟩:=dc s es.toList 0 q2
    have IL:(Instr.findKey kt (.string s) es.toList).run P w= .ok res w:=by
     unfold Instr.findKey
     simp only [Sem.run_bind,run_underlying h2,Result.andThen_ok,p1,Sem.run_pure]
    have QS: ∀w,(Instr.keyThatStays (.string s) (.string s)).run P w= .ok (.string s) w:= λw=>by
     unfold Instr.keyThatStays
     rw [show (10000:Nat)=9999+1 from rfl]
     simp only [Instr.sameBits,vd,decide_true,Nh,Sem.run_pure]
    have done: ∀(gN:Array MapEntry) (vu:Nat),(Instr.mapUpdate t (.map (some r.g)) (.string s) vx).run P w= .ok () {w with heap:=w.heap.setIfInBounds r.g (.map gN vu)} ->
      (∀e∈gN.toList,(Pg e.key).isSome=true)->(∀t,Nq gN.toList t=if t=s then some vx else Nq es.toList t)->
      ∃w',(Instr.mapUpdate t (.map (some r.g)) (.string s) vx).run P w= .ok () w'/\Ax X π (st.He l (.Qy v' (Sb f s y))) a w':=by
     intro gN vu Qw e1 e2
     refine ⟨_,Qw,h.set hl trivial (b:= .Qy v' (Sb f s y)) (by rw [g2];exact ⟨rfl,rfl,rfl,by simp,λk hk Hs=>by simp only [Ah,ne_eq,Aa] at Hs;simp [Array.getElem?_setIfInBounds_ne (λe=>Hs e.symm)]⟩) λmv=>?_⟩
     refine ⟨r,g2,g4,g5, .inr ⟨r.g,rfl,by simpa using hg,λh=>h,gN,vu,by simp [hg],e1,λt ht=>?_,λt z hz=>?_⟩⟩
     ·rw [e2]
      unfold Sb at ht
      split at ht
      ·cases ht
      ·rename_i Hs;rw [Aj Hs];exact q3 t ht
     ·rw [e2]
      unfold Sb at hz
      split at hz
      ·rename_i heq
       rw [Af heq]
       simp only [Aa] at hz;subst hz
       exact ⟨vx,rfl,Cells.flat v' _ _ h4 hxc⟩
      ·rename_i Hs
       rw [Aj Hs]
       obtain ⟨u,z1,z2⟩:=q4 t z hz
       exact ⟨u,z1,Cells.flat v' _ _ h4 z2⟩
    cases res with
    |none=>
     refine done (es.push {key:= .string s,val:=vx,born:=clock}) (clock+1) ?_ (λe he=>?_) λt=>?_
     ·unfold Instr.mapUpdate
      simp [run_underlying h1,bC q1,Re h2,IL,mY _ q1]
     ·rw [Array.toList_push] at he
      rcases Av.1 he with he|he
      ·exact q2 e he
      ·simp only [Ad] at he;subst he;rfl
     ·rw [Array.toList_push,mr]
      simp only [Option.map_none] at p2
      by_cases nT:t=s
      ·subst nT;rw [<-p2]
      ·rw [Aj nT]
       cases Nq es.toList t<;>simp [nT]
    |some pr=>
     obtain ⟨j,vj⟩:=pr
     obtain ⟨_,⟨e0,z1,z2⟩,z3⟩:=p3 j vj rfl
     simp only [Nat.sub_zero] at z1 z3
     refine done (es.modify j λe=> {e with key:= .string s,val:=vx}) clock ?_ (λe he=>?_) λt=>?_
     ·unfold Instr.mapUpdate
      have hj:es[j]?=some e0:=by rw [<-Array.getElem?_toList];exact z1
      simp [run_underlying h1,bC q1,Re h2,IL,hj,z2,QS,mY _ q1]
     ·rw [Array.toList_modify] at he
      obtain ⟨i,hi,rfl⟩:=Ko he
      rw [List.getElem_modify]
      split
      ·rfl
      ·exact q2 _ (Ar _)
     ·rw [Array.toList_modify]
      exact iu s vx es.toList j e0 z1 z2 z3 t
   ·cases he
  ·cases he
 ·cases he
theorem yq {S:Nat->Prop} {e:Ty} {ys:List e.den} {v:Value} (h1:e.size=1) (h:Cells w S (.slice e) [v] ys):
  ∃ad c,v= .slice ad ys.length c/\ ∃cs:List Value,cs.length=ys.length/\(ys= []\/ ∃g o,ad=some ⟨g,o,none⟩/\ ∀j u,cs[j]?=some u->w.cell? ⟨g,o+j,none⟩=some u)/\(∀u∈cs,u.oneCell'=true)/\
   ∀(i:Nat) (y:e.den),ys[i]?=some y-> ∃u,cs[i]?=some u/\Cells w S e [u] y:=by
 obtain ⟨ad,c,rfl,vP⟩:=nc h
 refine ⟨ad,c,rfl,?_⟩
 rcases vP with rfl|⟨g,o,rfl,news,n1,n2,n3,_,n4⟩
 ·exact ⟨[],rfl, .inl rfl,by simp,λi y hy=>by simp at hy⟩
 ·rw [h1,Dt] at n1
  refine ⟨news,n1, .inr ⟨g,o,rfl,n2⟩,n3,λi y hy=>?_⟩
  obtain ⟨es,q1,q2,q3⟩:=n4 i y hy
  rw [h1] at q1
  obtain ⟨u,rfl⟩:=Cv.1 q1
  have:=q2 0 u rfl
  rw [h1,Dt,Dc] at this
  exact ⟨u,this,q3⟩
theorem mW {st:St} {a:Act} (h:Ax X π st a w) {l:Nat} {fr tr:Bool} {e:Ty} {tid:TypeId} {xs ys:List e.den} {r:Real} {off:Nat} {cs:List Value} {cur:Array Value} {ti:TypeId} (hf:e.flat=true) (h1:e.size=1)
  (hp:π l=some r) (hl:Ap st.heap l=some (.arr fr tr e tid xs)) (ai:w.heap[r.g]?=some (.cells cur ti (0,0))) (hle:off+ys.length<=xs.length) (qv:cs.length=ys.length)
  (KJ: ∀(i:Nat) (y:e.den),ys[i]?=some y-> ∃u,cs[i]?=some u/\Cells w (λ_=>False) e [u] y):
  Ax X π (st.He l (.arr fr false e tid (Dd xs off ys))) a (w.setRow r.g (Dd cur.toList (r.o+off) cs).toArray):=by
 have hb:=(h.1.heap l).Ns hl
 simp only [Bn,Hg,hp] at hb
 obtain ⟨k1,Ut,FH,k2,k3,k4,k5,k6,_⟩:=hb
 rw [ai] at k2
 simp only [Aa,Obj.cells.injEq,cA] at k2
 obtain ⟨rfl,rfl⟩:=k2
 rw [h1,Dt] at k3
 have Su:r.o+off+cs.length<=cur.toList.length:=by simp [k3];omega
 have ZY:(Dd xs off ys).length=xs.length:=Gg xs ys off hle
 refine h.set hl (b:= .arr fr false e tid (Dd xs off ys)) ⟨rfl,by omega⟩ (by rw [hp];exact Kq w r.g _) λm=>?_
 simp only [Bn,Hg,hp]
 refine ⟨k1,_,_,setRow_heap w r.g cur _ ti _ ai,by rw [Eu,Gg _ _ _ Su,h1];simpa using k3,k4,by omega,λi x hx=>?_,λh=>by cases h⟩
 rw [Fu _ _ _ _ hle] at hx
 have Rk: ∀(u:Value) (z:e.den),Cells w (λ_=>False) e [u] z\/Cells w (Cb X.w0.heap.size X.Sc π fr) e [u] z->Cells (w.setRow r.g (Dd cur.toList (r.o+off) cs).toArray) (Cb X.w0.heap.size X.Sc π fr) e [u] z:= λu z hz=>hz.elim (Cells.flat e _ _ hf) (Cells.flat e _ _ hf)
 by_cases BH:off<=i/\i<off+ys.length
 ·rw [Aj (by omega),Af BH.2] at hx
  obtain ⟨u,q1,q2⟩:=KJ _ x hx
  refine ⟨[u],by simp [h1],λj u' cv=>?_,Rk u x (.inl q2)⟩
  rcases j with _|j
  ·simp only [Bd,Aa] at cv;subst cv
   rw [Fv,Fu _ _ _ _ Su,h1,Dt,Dc,Aj (by omega),Af (by omega),<-q1]
   congr 1;omega
  ·simp at cv
 ·have LQ:xs[i]?=some x:=by
   by_cases h0:i<off
   ·rw [Af h0] at hx;exact hx
   ·rw [Aj h0,Aj (by omega)] at hx;exact hx
  obtain ⟨es,q1,q2,q3⟩:=k6 i x LQ
  rw [h1] at q1
  obtain ⟨u,rfl⟩:=Cv.1 q1
  refine ⟨[u],by simp [h1],λj u' cv=>?_,Rk u x (.inr q3)⟩
  rcases j with _|j
  ·simp only [Bd,Aa] at cv;subst cv
   have:=q2 0 u rfl
   rw [h1,Dt,Dc] at this
   rw [Fv,Fu _ _ _ _ Su,h1,Dt,Dc]
   by_cases h0:r.o+i<r.o+off
   ·rw [Af h0];simpa using this
   ·rw [Aj h0,Aj (by omega)];simpa using this
  ·simp at cv
theorem lU (hT:De P T) {st:St} {a:Act} (h:Ax X π st a w) (t t' ty:TypeId) (x y:AV) (vx vy:Value) (hx:Ba X w π st.heap x vx) (hy:Ba X w π st.heap y vy) (av:AV) (st':St)
  (he:da T st t t' x y=some (av,st')): ∃v' w',(Builtin.copy_ #[t,t'] ty #[vx,vy]).run P w= .ok v' w'/\Ax X π st' a w'/\Ba X w' π st'.heap av v':=by
 unfold da at he
 split at he
 ·rename_i l off len e eZ
  obtain ⟨te,g1,g2,g3,g4⟩:=l6 hT eZ
  split at he
  ·rename_i hc
   obtain ⟨FZ,NI,IG⟩:=hc
   split at he
   ·rename_i fr tr e' tid xs l8 ys hl hv
    split at he
    ·rename_i VQ
     obtain ⟨rfl,KI⟩:=VQ
     rw [g1] at KI
     simp only [Aa] at KI;subst KI
     simp only [Aa,Ab] at he
     obtain ⟨rfl,rfl⟩:=he
     unfold St.at at hl
     obtain ⟨h2,h3⟩:=Lk (X:=X) (w:=w) hx hl
     have hyr:=Ck.Oc rfl (Tl h.1 (S:= λ_=>False) _ y vy l8 ys hy hv ⟨λ_ h=>h.elim, .inr λ_ h=>h.elim⟩)
     obtain ⟨ad,c,rfl,cs,c1,c2,c3,c4⟩:=yq IG hyr
     obtain ⟨inf,hi,Qv,_⟩:=(hT.ty te e' g2).info
     have WG:(P.info? te).map (·.size)=some 1:=by rw [hi];simp [Qv,IG]
     have Abr: ∀n:Nat,n=min len ys.length->Ba X w π st.heap (.at (.data true (.int .i64) ((min len ys.length:Nat):Int))) (goInt n):= λn hn=>by subst hn;exact Ke _ _ _
     have IV: ∀(w':World) (H':List (Nat×OB)) (n:Nat),n=min len ys.length->Ba X w' π H' (.at (.data true (.int .i64) ((min len ys.length:Nat):Int))) (goInt n):= λw' H' n hn=>by subst hn;exact Ke _ _ _
     have nothing:min len ys.length=0-> ∀v',(Builtin.copy_ #[t,t'] ty #[vx, .slice ad ys.length c]).run P w= .ok v' w->v'=goInt 0->
       ∃v' w',(Builtin.copy_ #[t,t'] ty #[vx, .slice ad ys.length c]).run P w= .ok v' w'/\Ax X π (st.He l (.arr fr false e' te (Dd xs off (ys.take len)))) a w'/\
        Ba X w' π (st.He l (.arr fr false e' te (Dd xs off (ys.take len)))).heap (.at (.data true (.int .i64) ((min len ys.length:Nat):Int))) v':=by
      intro h0 v' hr tq
      subst tq
      have BN:ys.take len= []:=Cj (by rw [Ed];exact h0)
      refine ⟨_,w,hr,?_,IV _ _ 0 h0.symm⟩
      rw [BN]
      have BW:Dd xs off []=xs:=by simp [Dd]
      rw [BW]
      refine h.set hl (b:= .arr fr false e' te xs) ⟨rfl,Ao _⟩ (Mi w _) λm=>?_
      have hb:=(h.1.heap l).Ns hl
      simp only [Bn,Hg] at hb⊢
      cases hp:π l with
      |none=>rw [hp] at hb;exact hb
      |some r=>
       rw [hp] at hb
       obtain ⟨k1,cur,ti,k2,k3,k4,k5,k6,_⟩:=hb
       exact ⟨k1,cur,ti,k2,k3,k4,k5,k6,λh=>by cases h⟩
     cases hp:π l with
     |none=>
      rw [hp] at h3
      obtain ⟨rfl,rfl,rfl⟩:=h3
      refine nothing (by simp) (goInt 0) ?_ rfl
      rcases c2 with c2|⟨g,o,rfl,_⟩
      ·subst c2
       cases ad<;>simp [Builtin.copy_,run_underlying g3,Builtin.lenOf,Builtin.firstCells,sizeOf,typeInfo,hi,loadCells,loadCellsFrom]
      ·simp [Builtin.copy_,run_underlying g3,Builtin.lenOf,Builtin.firstCells,sizeOf,typeInfo,hi,loadCells,loadCellsFrom]
     |some r=>
      rw [hp] at h3
      obtain ⟨adx,rfl,lb,j9⟩:=h3
      by_cases hz:min len ys.length=0
      ·refine nothing hz (goInt 0) ?_ rfl
       have hn:Nat.min ys.length len=0:=by show min ys.length len=0;omega
       cases ad<;>simp [Builtin.copy_,run_underlying g3,Builtin.lenOf,Builtin.firstCells,sizeOf,typeInfo,hi,hn,loadCells,loadCellsFrom,storeCells]
      ·rcases c2 with c2|⟨g,o,rfl,c2⟩
       ·subst c2;simp at hz
       ·have hb:=(h.1.heap l).Ns hl
        simp only [Bn,Hg,hp] at hb
        obtain ⟨k1,cur,ti,k2,k3,k4,k5,k6,_⟩:=hb
        have:=j9 (by omega)
        subst this
        rw [IG,Dt] at k3
        have hlen:(cs.take len).length=Nat.min ys.length len:=by rw [Ed,c1];exact Nat.min_comm _ _
        have hr:=run_copy_row (P:=P) w t t' ty te r.g ((r.o+off)*e'.size) len (r.cap-off) ⟨g,o,none⟩ ys.length c cur ti (cs.take len) g3 WG k2 hlen
         (λj v hv=>by rw [Addr.add_lit];refine c2 j v ?_;rw [By] at hv;split at hv;exact hv;cases hv)
         (by rw [IG,Dt,Ed];omega) (λv hv=>c3 v (Hm hv))
        rw [IG,Dt] at hr
        have BW:(cur.toList.take (r.o+off)++cs.take len++cur.toList.drop (r.o+off+(cs.take len).length))=Dd cur.toList (r.o+off) (cs.take len):=rfl
        rw [BW] at hr
        refine ⟨_,_,by rw [IG,Dt];exact hr,mW h NI IG hp hl k2 (by rw [Ed];omega) (by rw [Ed,Ed,c1]) (λi z hz=>?_),IV _ _ _ (by rw [hlen];exact Nat.min_comm _ _)⟩
        rw [By] at hz
        split at hz
        ·rename_i k9
         obtain ⟨u,q1,q2⟩:=c4 i z hz
         exact ⟨u,by rw [By,Af k9];exact q1,q2⟩
        ·cases hz
    ·cases he
   ·cases he
  ·cases he
 ·cases he
theorem kL (hT:De P T) {st:St} {a:Act} (h:Ax X π st a w) (t ty:TypeId) (x:AV) (vx:Value) (hx:Ba X w π st.heap x vx) (st':St)
  (he:evalClear T st t x=some st'): ∃v' w',(Builtin.clear_ #[t] ty #[vx]).run P w= .ok v' w'/\Ax X π st' a w':=by
 unfold evalClear at he
 split at he
 ·rename_i l off len e eZ
  obtain ⟨te,g1,g2,g3,g4⟩:=l6 hT eZ
  split at he
  ·rename_i hc
   obtain ⟨NI,hz⟩:=hc
   split at he
   ·rename_i fr tr e' tid xs hl
    split at he
    ·rename_i VQ
     obtain ⟨rfl,KI⟩:=VQ
     rw [g1] at KI
     simp only [Aa] at KI;subst KI
     simp only [Aa] at he;subst he
     unfold St.at at hl
     obtain ⟨h2,h3⟩:=Lk (X:=X) (w:=w) hx hl
     obtain ⟨z,z1,z2,z3,z4,z5⟩:=(show ∃z,Bb e'= [z]/\e'.Ak=false/\e'.size=1/\Cells w (λ_=>False) e' [z] e'.zero/\z.oneCell'=true from by
      cases e'<;>simp [gx] at hz<;>try (simp [Ty.flat] at NI;done)
      ·exact ⟨_,rfl,rfl,rfl,rfl,rfl⟩
      ·exact ⟨_,rfl,rfl,rfl,rfl,rfl⟩
      ·exact ⟨_,rfl,rfl,rfl,rfl,rfl⟩)
     obtain ⟨inf,hi,Qv,_,mb⟩:=(hT.ty te e' g2).info
     have IW:Bi e' (Bb e')=z:=by simp [Bi,z1,z2]
     have BY:z.cells= #[z]:=by
      have:=Ii e' _ _ (z1▸z4:Cells w _ e' (Bb e') e'.zero)
      rw [IW,z1] at this;exact this
     by_cases h0:len=0
     ·subst h0
      have BW:Dd xs off (List.replicate 0 e'.zero)=xs:=by simp [Dd]
      rw [BW]
      have hv: ∃ad c,vx= .slice ad 0 c:=by
       cases hp:π l with
       |none=>rw [hp] at h3;obtain ⟨rfl,_⟩:=h3;exact ⟨_,_,rfl⟩
       |some r=>rw [hp] at h3;obtain ⟨ad,rfl,_⟩:=h3;exact ⟨_,_,rfl⟩
      obtain ⟨ad,c,rfl⟩:=hv
      refine ⟨.tuple #[],w,by cases ad<;>simp [Builtin.clear_,run_underlying g3],?_⟩
      refine h.set hl (b:= .arr fr false e' te xs) ⟨rfl,Ao _⟩ (Mi w _) λm=>?_
      have hb:=(h.1.heap l).Ns hl
      simp only [Bn,Hg] at hb⊢
      cases hp:π l with
      |none=>rw [hp] at hb;exact hb
      |some r=>
       rw [hp] at hb
       obtain ⟨k1,cur,ti,k2,k3,k4,k5,k6,_⟩:=hb
       exact ⟨k1,cur,ti,k2,k3,k4,k5,k6,λh=>by cases h⟩
     ·cases hp:π l with
      |none=>rw [hp] at h3;obtain ⟨_,_,h3⟩:=h3;exact absurd h3 h0
      |some r=>
       rw [hp] at h3
       obtain ⟨adx,rfl,lb,j9⟩:=h3
       have hb:=(h.1.heap l).Ns hl
       simp only [Bn,Hg,hp] at hb
       obtain ⟨k1,cur,ti,k2,k3,k4,k5,k6,_⟩:=hb
       have:=j9 (by omega)
       subst this
       rw [z3,Dt] at k3
       have Yi:=run_storeCells_at P r.g (r.o+off) ti (List.replicate len z) 0 cur w k2 (by simp;omega) (λv hv=>by rw [Dx hv];exact z5)
       simp only [Dc] at Yi
       have hzl:(Builtin.zeroCells #[z] len).toList=List.replicate len z:=by
        apply List.ext_getElem
        ·simp [Builtin.zeroCells]
        ·intro i h1 h2
         simp [Builtin.zeroCells,Nat.mod_one]
       refine ⟨.tuple #[],_,?_,mW (ys:=List.replicate len e'.zero) (cs:=List.replicate len z) h NI z3 hp hl k2 (by simp;omega) (by simp) (λi y hy=>?_)⟩
       ·obtain ⟨n,rfl⟩: ∃n,len=n+1:=⟨len-1,by omega⟩
        rw [z3,Dt]
        simp only [Builtin.clear_]
        simp [run_underlying g3,zeroValue,typeInfo,hi,mb,IW,BY,hzl,Yi,Dd]
       ·have k9:=(Ai.1 hy).1
        simp at k9
        have:=Bo hy
        rw [Dx this]
        exact ⟨z,by simp [k9],z4⟩
    ·cases he
   ·cases he
  ·cases he
 ·cases he
end
end Go.Proofs.Ytfgfigkbgecfnaa
