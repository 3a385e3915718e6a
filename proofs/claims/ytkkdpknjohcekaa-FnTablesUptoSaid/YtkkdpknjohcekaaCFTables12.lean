/-
  Part 13 of the proof that the statement FnTables holds.
-/
import Derived.Test.YtkkdpknjohcekaaCFTables11
import Derived.MapKept
namespace Go.Proofs.Ytkkdpknjohcekaa
open Go.RowKit
section
variable {P:Program} {T:Tab} {X:Ctx} {w w':World} {π:Pi} {H:List (Nat×OB)}
theorem kY (hT:Ed P T) {st:St} {a:Act} (h:Bd X π st a w) (dst:Nat) (t:TypeId) (av:AV) (st':St) (he:Th T st dst t=some (av,st')):
  ∃v' w' π',(Instr.makeMap t none).run P w= .ok v' w'/\Bd X π' st' a w'/\Bi X w' π' st'.heap av v':=by
 unfold Th at he
 split at he
 ·rename_i v ht
  split at he
  ·rename_i hp
   simp only [Aa,Ae] at he
   obtain ⟨rfl,rfl⟩:=he
   obtain ⟨k,e,h1,h2,h3,h4,h5⟩:=hT.mapOf t v ht
   have iJ:(w.alloc (.map #[] 0)).heap[w.heap.size]?=some (.map #[] 0):=heap_alloc_new w _
   refine ⟨.map (some w.heap.size),w.alloc (.map #[] 0),_,rfl,h.replace dst hp (some (Real.one w.heap.size 0 0)) _ (World.grownBy_alloc w _ _) (λr hr=>by cases hr;exact ⟨rfl, .inr (Ar _),Ft iJ⟩) λm=>?_,?_⟩
   ·refine ⟨_,rfl,rfl,⟨h4,h5⟩, .inr ⟨_,rfl,Ft iJ,λh=>h, #[],0,iJ,by simp,λ_ _=>rfl,λs y hy=>by cases hy⟩⟩
   ·exact ⟨_,v,_,St.Gm st dst _,Ga _ _ _,rfl⟩
  ·cases he
 ·cases he
theorem uq {e:MapEntry} {t:ByteArray} (h:e.key= .string t) (r:List MapEntry):Qf (e::r) t=some e.val:=by
 unfold Qf;rw [Ab (by rw [h];rfl)]
theorem Sz {e:MapEntry} {t:ByteArray} (h:Rv e.key≠some t) (r:List MapEntry):Qf (e::r) t=Qf r t:=by
 rw [Qf,Al h]
theorem nh {s t:ByteArray} (h:t≠s):Rv (.string s)≠some t:=by
 simp only [Rv,ne_eq,Aa];exact λe=>h e.symm
theorem lx (s:ByteArray) (x:Value): ∀(es:List MapEntry) (j:Nat) (e:MapEntry),es[j]?=some e->e.key= .string s->(∀k e,k<j->es[k]?=some e->Rv e.key≠some s)->
  ∀t,Qf (es.modify j λe=> {e with key:= .string s,val:=x}) t=if t=s then some x else Qf es t
 | [],j,e,h,_,_,_=>by simp at h
 |a::r,0,e,h,hk,_,t=>by
  simp only [Bn,Aa] at h
  subst h
  simp only [List.modify_zero_cons]
  by_cases sC:t=s
  ·subst sC;rw [uq rfl,Ab rfl]
  ·rw [Sz (nh sC),Al sC,Sz (by rw [hk];exact nh sC)]
 |a::r,j+1,e,h,hk,hf,t=>by
  simp only [List.modify_succ_cons]
  have ih:=lx s x r j e (by simpa using h) hk (λk e hk he=>hf (k+1) e (by omega) (by simpa using he)) t
  have h0:=hf 0 a (by omega) rfl
  by_cases ha:Rv a.key=some t
  ·have:t≠s:= λe=>h0 (e▸ha)
   rw [Al this]
   simp only [Qf,Ab ha]
  ·rw [Sz ha,Sz ha,ih]
theorem qF (s:ByteArray) (x:Value) (b:Nat): ∀(es:List MapEntry) (t:ByteArray),Qf (es++ [{key:= .string s,val:=x,born:=b}]) t=match Qf es t with|some v=>some v|none=>if t=s then some x else none
 | [],t=>by
  simp only [List.nil_append]
  by_cases sC:t=s
  ·subst sC;rw [uq rfl];simp [Qf]
  ·rw [Sz (nh sC)];simp [Qf,sC]
 |a::r,t=>by
  simp only [Rj]
  by_cases ha:Rv a.key=some t
  ·simp only [Qf,Ab ha]
  ·rw [Sz ha,Sz ha];exact qF s x b r t
theorem rD {r:Nat} {es:Array MapEntry} {clock:Nat} (o:Obj) (hb:w.heap[r]?=some (.map es clock)):(setObj r o).run P w= .ok () {w with heap:=w.heap.setIfInBounds r o} :=by simp [setObj,Sem.run,hb]
theorem cf (hT:Ed P T) {st:St} {a:Act} (h:Bd X π st a w) (t:TypeId) (m k x:AV) (vm vk vx:Value) (hm:Bi X w π st.heap m vm) (hk:Bi X w π st.heap k vk) (hx:Bi X w π st.heap x vx) (st':St)
  (he:Ip T st t m k x=some st'): ∃w',(Instr.mapUpdate t vm vk vx).run P w= .ok () w'/\Bd X π st' a w':=by
 unfold Ip at he
 split at he
 ·rename_i v l fr s ht
  have:=dE hk;subst this
  obtain ⟨kt,et,h1,h2,h3,h4,h5⟩:=hT.mapOf t v ht
  split at he
  ·rename_i v' f p7 y hl hv
   split at he
   ·rename_i hc
    obtain ⟨rfl,_,_⟩:=hc
    simp only [Aa] at he;subst he
    unfold St.at at hl
    obtain ⟨r,vt,mm,g1,g2,rfl⟩:=hm
    obtain ⟨r',g3,g4,g5,g6⟩:=(h.1.heap l).Qi hl
    rw [g2] at g3;cases g3
    simp only [Cells] at g6
    rcases g6 with ⟨g6,_⟩|⟨g,g6,hg,_,es,clock,q1,q2,q3,q4⟩
    ·simp at g6
    simp only [Gi,Value.map.injEq,Aa,eZ] at g6
    subst g6
    have hr:=Wu h.1 (S:= λ_=>False) v' x vx p7 y hx hv ⟨λ_ h=>h.elim, .inr λ_ h=>h.elim⟩
    have hxc:Cells w (λ_=>False) v' [vx] y:=Df.Qr h5 hr
    obtain ⟨res,p1,p2,p3⟩:=fJ s es.toList 0 q2
    have XS:(Instr.findKey kt (.string s) es.toList).run P w= .ok res w:=by
     unfold Instr.findKey
     simp only [Sem.run_bind,run_underlying h2,Result.andThen_ok,p1,Sem.run_pure]
    have Ae7: ∀w,(Instr.keyThatStays (.string s) (.string s)).run P w= .ok (.string s) w:= λw=>by
     unfold Instr.keyThatStays
     rw [show (10000:Nat)=9999+1 from rfl]
     simp only [Instr.sameBits,BW,decide_true,Pw,Sem.run_pure]
    have done: ∀(kT:Array MapEntry) (CF:Nat),(Instr.mapUpdate t (.map (some r.g)) (.string s) vx).run P w= .ok () {w with heap:=w.heap.setIfInBounds r.g (.map kT CF)} ->
      (∀e∈kT.toList,(Rv e.key).isSome=true)->(∀t,Qf kT.toList t=if t=s then some vx else Qf es.toList t)->
      ∃w',(Instr.mapUpdate t (.map (some r.g)) (.string s) vx).run P w= .ok () w'/\Bd X π (st.Jh l (.Ub v' (kz f s y))) a w':=by
     intro kT CF Tz e1 e2
     refine ⟨_,Tz,h.set hl trivial (b:= .Ub v' (kz f s y)) (by rw [g2];exact ⟨rfl,rfl,rfl,by simp,λk hk Jg=>by simp only [Ai,ne_eq,Aa] at Jg;simp [Array.getElem?_setIfInBounds_ne (λe=>Jg e.symm)]⟩) λmv=>?_⟩
     refine ⟨r,g2,g4,g5, .inr ⟨r.g,rfl,by simpa using hg,λh=>h,kT,CF,by simp [hg],e1,λt ht=>?_,λt z hz=>?_⟩⟩
     ·rw [e2]
      unfold kz at ht
      split at ht
      ·cases ht
      ·rename_i Jg;rw [Al Jg];exact q3 t ht
     ·rw [e2]
      unfold kz at hz
      split at hz
      ·rename_i heq
       rw [Ab heq]
       simp only [Aa] at hz;subst hz
       exact ⟨vx,rfl,Cells.flat v' _ _ h4 hxc⟩
      ·rename_i Jg
       rw [Al Jg]
       obtain ⟨u,z1,z2⟩:=q4 t z hz
       exact ⟨u,z1,Cells.flat v' _ _ h4 z2⟩
    cases res with
    |none=>
     refine done (es.push {key:= .string s,val:=vx,born:=clock}) (clock+1) ?_ (λe he=>?_) λt=>?_
     ·unfold Instr.mapUpdate
      simp [run_underlying h1,dK q1,Uh h2,XS,rD _ q1]
     ·rw [Array.toList_push] at he
      rcases Aw.1 he with he|he
      ·exact q2 e he
      ·simp only [Ad] at he;subst he;rfl
     ·rw [Array.toList_push,qF]
      simp only [Option.map_none] at p2
      by_cases sC:t=s
      ·subst sC;rw [<-p2]
      ·rw [Al sC]
       cases Qf es.toList t<;>simp [sC]
    |some pr=>
     obtain ⟨j,vj⟩:=pr
     obtain ⟨_,⟨e0,z1,z2⟩,z3⟩:=p3 j vj rfl
     simp only [Nat.sub_zero] at z1 z3
     refine done (es.modify j λe=> {e with key:= .string s,val:=vx}) clock ?_ (λe he=>?_) λt=>?_
     ·unfold Instr.mapUpdate
      have hj:es[j]?=some e0:=by rw [<-Array.getElem?_toList];exact z1
      simp [run_underlying h1,dK q1,Uh h2,XS,hj,z2,Ae7,rD _ q1]
     ·rw [Array.toList_modify] at he
      obtain ⟨i,hi,rfl⟩:=Ja he
      rw [List.getElem_modify]
      split
      ·rfl
      ·exact q2 _ (Ak _)
     ·rw [Array.toList_modify]
      exact lx s vx es.toList j e0 z1 z2 z3 t
   ·cases he
  ·cases he
 ·cases he
theorem JM {S:Nat->Prop} {e:Ty} {ys:List e.den} {v:Value} (h1:e.size=1) (h:Cells w S (.slice e) [v] ys):
  ∃ad c,v= .slice ad ys.length c/\ ∃cs:List Value,cs.length=ys.length/\(ys= []\/ ∃g o,ad=some ⟨g,o,none⟩/\ ∀j u,cs[j]?=some u->w.cell? ⟨g,o+j,none⟩=some u)/\(∀u∈cs,u.oneCell'=true)/\
   ∀(i:Nat) (y:e.den),ys[i]?=some y-> ∃u,cs[i]?=some u/\Cells w S e [u] y:=by
 obtain ⟨ad,c,rfl,CX⟩:=rG h
 refine ⟨ad,c,rfl,?_⟩
 rcases CX with rfl|⟨g,o,rfl,news,n1,n2,n3,_,n4⟩
 ·exact ⟨[],rfl, .inl rfl,by simp,λi y hy=>by simp at hy⟩
 ·rw [h1,Ex] at n1
  refine ⟨news,n1, .inr ⟨g,o,rfl,n2⟩,n3,λi y hy=>?_⟩
  obtain ⟨es,q1,q2,q3⟩:=n4 i y hy
  rw [h1] at q1
  obtain ⟨u,rfl⟩:=Dv.1 q1
  have:=q2 0 u rfl
  rw [h1,Ex,Ef] at this
  exact ⟨u,this,q3⟩
theorem ru {st:St} {a:Act} (h:Bd X π st a w) {l:Nat} {fr tr:Bool} {e:Ty} {tid:TypeId} {xs ys:List e.den} {r:Real} {off:Nat} {cs:List Value} {cur:Array Value} {ti:TypeId} (hf:e.flat=true) (h1:e.size=1)
  (hp:π l=some r) (hl:Aq st.heap l=some (.arr fr tr e tid xs)) (eQ:w.heap[r.g]?=some (.cells cur ti (0,0))) (hle:off+ys.length<=xs.length) (vZ:cs.length=ys.length)
  (ZR: ∀(i:Nat) (y:e.den),ys[i]?=some y-> ∃u,cs[i]?=some u/\Cells w (λ_=>False) e [u] y):
  Bd X π (st.Jh l (.arr fr false e tid (Dq xs off ys))) a (w.setRow r.g (Dq cur.toList (r.o+off) cs).toArray):=by
 have hb:=(h.1.heap l).Qi hl
 simp only [Bw,Jj,hp] at hb
 obtain ⟨k1,Ye,UI,k2,k3,k4,k5,k6,_⟩:=hb
 rw [eQ] at k2
 simp only [Aa,Obj.cells.injEq,eZ] at k2
 obtain ⟨rfl,rfl⟩:=k2
 rw [h1,Ex] at k3
 have We:r.o+off+cs.length<=cur.toList.length:=by simp [k3];omega
 have hsl:(Dq xs off ys).length=xs.length:=Ij xs ys off hle
 refine h.set hl (b:= .arr fr false e tid (Dq xs off ys)) ⟨rfl,by omega⟩ (by rw [hp];exact Mr w r.g _) λm=>?_
 simp only [Bw,Jj,hp]
 refine ⟨k1,_,_,setRow_heap w r.g cur _ ti _ eQ,by rw [Gj,Ij _ _ _ We,h1];simpa using k3,k4,by omega,λi x hx=>?_,λh=>by cases h⟩
 rw [Hl _ _ _ _ hle] at hx
 have Uo: ∀(u:Value) (z:e.den),Cells w (λ_=>False) e [u] z\/Cells w (Cp X.w0.heap.size X.Sc π fr) e [u] z->Cells (w.setRow r.g (Dq cur.toList (r.o+off) cs).toArray) (Cp X.w0.heap.size X.Sc π fr) e [u] z:= λu z hz=>hz.elim (Cells.flat e _ _ hf) (Cells.flat e _ _ hf)
 by_cases aL:off<=i/\i<off+ys.length
 ·rw [Al (by omega),Ab aL.2] at hx
  obtain ⟨u,q1,q2⟩:=ZR _ x hx
  refine ⟨[u],by simp [h1],λj u' eU=>?_,Uo u x (.inl q2)⟩
  rcases j with _|j
  ·simp only [Bn,Aa] at eU;subst eU
   rw [Ho,Hl _ _ _ _ We,h1,Ex,Ef,Al (by omega),Ab (by omega),<-q1]
   congr 1;omega
  ·simp at eU
 ·have hx':xs[i]?=some x:=by
   by_cases h0:i<off
   ·rw [Ab h0] at hx;exact hx
   ·rw [Al h0,Al (by omega)] at hx;exact hx
  obtain ⟨es,q1,q2,q3⟩:=k6 i x hx'
  rw [h1] at q1
  obtain ⟨u,rfl⟩:=Dv.1 q1
  refine ⟨[u],by simp [h1],λj u' eU=>?_,Uo u x (.inr q3)⟩
  rcases j with _|j
  ·simp only [Bn,Aa] at eU;subst eU
   have:=q2 0 u rfl
   rw [h1,Ex,Ef] at this
   rw [Ho,Hl _ _ _ _ We,h1,Ex,Ef]
   by_cases h0:r.o+i<r.o+off
   ·rw [Ab h0];simpa using this
   ·rw [Al h0,Al (by omega)];simpa using this
  ·simp at eU
theorem q9 (hT:Ed P T) {st:St} {a:Act} (h:Bd X π st a w) (t t' ty:TypeId) (x y:AV) (vx vy:Value) (hx:Bi X w π st.heap x vx) (hy:Bi X w π st.heap y vy) (av:AV) (st':St)
  (he:fH T st t t' x y=some (av,st')): ∃v' w',(Builtin.copy_ #[t,t'] ty #[vx,vy]).run P w= .ok v' w'/\Bd X π st' a w'/\Bi X w' π st'.heap av v':=by
 unfold fH at he
 split at he
 ·rename_i l off len e j8
  obtain ⟨te,g1,g2,g3,g4⟩:=oZ hT j8
  split at he
  ·rename_i hc
   obtain ⟨UX,hc2,XN⟩:=hc
   split at he
   ·rename_i fr tr e' tid xs p7 ys hl hv
    split at he
    ·rename_i hc4
     obtain ⟨rfl,ZQ⟩:=hc4
     rw [g1] at ZQ
     simp only [Aa] at ZQ;subst ZQ
     simp only [Aa,Ae] at he
     obtain ⟨rfl,rfl⟩:=he
     unfold St.at at hl
     obtain ⟨h2,h3⟩:=Nl (X:=X) (w:=w) hx hl
     have hyr:=Df.Qr rfl (Wu h.1 (S:= λ_=>False) _ y vy p7 ys hy hv ⟨λ_ h=>h.elim, .inr λ_ h=>h.elim⟩)
     obtain ⟨ad,c,rfl,cs,c1,c2,c3,c4⟩:=JM XN hyr
     obtain ⟨inf,hi,Tx,_⟩:=(hT.ty te e' g2).info
     have Aiu:(P.info? te).map (·.size)=some 1:=by rw [hi];simp [Tx,XN]
     have Aoh: ∀n:Nat,n=min len ys.length->Bi X w π st.heap (.at (.data true (.int .i64) ((min len ys.length:Nat):Int))) (goInt n):= λn hn=>by subst hn;exact Mj _ _ _
     have XX: ∀(w':World) (H':List (Nat×OB)) (n:Nat),n=min len ys.length->Bi X w' π H' (.at (.data true (.int .i64) ((min len ys.length:Nat):Int))) (goInt n):= λw' H' n hn=>by subst hn;exact Mj _ _ _
     have nothing:min len ys.length=0-> ∀v',(Builtin.copy_ #[t,t'] ty #[vx, .slice ad ys.length c]).run P w= .ok v' w->v'=goInt 0->
       ∃v' w',(Builtin.copy_ #[t,t'] ty #[vx, .slice ad ys.length c]).run P w= .ok v' w'/\Bd X π (st.Jh l (.arr fr false e' te (Dq xs off (ys.take len)))) a w'/\
        Bi X w' π (st.Jh l (.arr fr false e' te (Dq xs off (ys.take len)))).heap (.at (.data true (.int .i64) ((min len ys.length:Nat):Int))) v':=by
      intro h0 v' hr yX
      subst yX
      have Aac:ys.take len= []:=De (by rw [Cl];exact h0)
      refine ⟨_,w,hr,?_,XX _ _ 0 h0.symm⟩
      rw [Aac]
      have PV:Dq xs off []=xs:=by simp [Dq]
      rw [PV]
      refine h.set hl (b:= .arr fr false e' te xs) ⟨rfl,Ar _⟩ (Oq w _) λm=>?_
      have hb:=(h.1.heap l).Qi hl
      simp only [Bw,Jj] at hb⊢
      cases hp:π l with
      |none=>rw [hp] at hb;exact hb
      |some r=>
       rw [hp] at hb
       obtain ⟨k1,cur,ti,k2,k3,k4,k5,k6,_⟩:=hb
       exact ⟨k1,cur,ti,k2,k3,k4,k5,k6,λh=>by cases h⟩
     cases hp:π l with
     |none=>
      rw [hp] at h3
      obtain ⟨rfl,rfl,rfl⟩:=h3
      refine nothing (by simp) (goInt 0) ?_ rfl
      rcases c2 with c2|⟨g,o,rfl,_⟩
      ·subst c2
       cases ad<;>simp [Builtin.copy_,run_underlying g3,Builtin.lenOf,Builtin.firstCells,sizeOf,typeInfo,hi,loadCells,loadCellsFrom]
      ·simp [Builtin.copy_,run_underlying g3,Builtin.lenOf,Builtin.firstCells,sizeOf,typeInfo,hi,loadCells,loadCellsFrom]
     |some r=>
      rw [hp] at h3
      obtain ⟨adx,rfl,p9,mq⟩:=h3
      by_cases hz:min len ys.length=0
      ·refine nothing hz (goInt 0) ?_ rfl
       have hn:Nat.min ys.length len=0:=by show min ys.length len=0;omega
       cases ad<;>simp [Builtin.copy_,run_underlying g3,Builtin.lenOf,Builtin.firstCells,sizeOf,typeInfo,hi,hn,loadCells,loadCellsFrom,storeCells]
      ·rcases c2 with c2|⟨g,o,rfl,c2⟩
       ·subst c2;simp at hz
       ·have hb:=(h.1.heap l).Qi hl
        simp only [Bw,Jj,hp] at hb
        obtain ⟨k1,cur,ti,k2,k3,k4,k5,k6,_⟩:=hb
        have:=mq (by omega)
        subst this
        rw [XN,Ex] at k3
        have hlen:(cs.take len).length=Nat.min ys.length len:=by rw [Cl,c1];exact Nat.min_comm _ _
        have hr:=run_copy_row (P:=P) w t t' ty te r.g ((r.o+off)*e'.size) len (r.cap-off) ⟨g,o,none⟩ ys.length c cur ti (cs.take len) g3 Aiu k2 hlen
         (λj v hv=>by rw [Addr.add_lit];refine c2 j v ?_;rw [Ck] at hv;split at hv;exact hv;cases hv)
         (by rw [XN,Ex,Cl];omega) (λv hv=>c3 v (Ic hv))
        rw [XN,Ex] at hr
        have PV:(cur.toList.take (r.o+off)++cs.take len++cur.toList.drop (r.o+off+(cs.take len).length))=Dq cur.toList (r.o+off) (cs.take len):=rfl
        rw [PV] at hr
        refine ⟨_,_,by rw [XN,Ex];exact hr,ru h hc2 XN hp hl k2 (by rw [Cl];omega) (by rw [Cl,Cl,c1]) (λi z hz=>?_),XX _ _ _ (by rw [hlen];exact Nat.min_comm _ _)⟩
        rw [Ck] at hz
        split at hz
        ·rename_i pb
         obtain ⟨u,q1,q2⟩:=c4 i z hz
         exact ⟨u,by rw [Ck,Ab pb];exact q1,q2⟩
        ·cases hz
    ·cases he
   ·cases he
  ·cases he
 ·cases he
theorem ou (hT:Ed P T) {st:St} {a:Act} (h:Bd X π st a w) (t ty:TypeId) (x:AV) (vx:Value) (hx:Bi X w π st.heap x vx) (st':St)
  (he:evalClear T st t x=some st'): ∃v' w',(Builtin.clear_ #[t] ty #[vx]).run P w= .ok v' w'/\Bd X π st' a w':=by
 unfold evalClear at he
 split at he
 ·rename_i l off len e j8
  obtain ⟨te,g1,g2,g3,g4⟩:=oZ hT j8
  split at he
  ·rename_i hc
   obtain ⟨hc2,hz⟩:=hc
   split at he
   ·rename_i fr tr e' tid xs hl
    split at he
    ·rename_i hc4
     obtain ⟨rfl,ZQ⟩:=hc4
     rw [g1] at ZQ
     simp only [Aa] at ZQ;subst ZQ
     simp only [Aa] at he;subst he
     unfold St.at at hl
     obtain ⟨h2,h3⟩:=Nl (X:=X) (w:=w) hx hl
     obtain ⟨z,z1,z2,z3,z4,z5⟩:=(show ∃z,Bl e'= [z]/\e'.Am=false/\e'.size=1/\Cells w (λ_=>False) e' [z] e'.zero/\z.oneCell'=true from by
      cases e'<;>simp [kC] at hz<;>try (simp [Ty.flat] at hc2;done)
      ·exact ⟨_,rfl,rfl,rfl,rfl,rfl⟩
      ·exact ⟨_,rfl,rfl,rfl,rfl,rfl⟩
      ·exact ⟨_,rfl,rfl,rfl,rfl,rfl⟩)
     obtain ⟨inf,hi,Tx,_,qq⟩:=(hT.ty te e' g2).info
     have XY:Bs e' (Bl e')=z:=by simp [Bs,z1,z2]
     have PZ:z.cells= #[z]:=by
      have:=Ki e' _ _ (z1▸z4:Cells w _ e' (Bl e') e'.zero)
      rw [XY,z1] at this;exact this
     by_cases h0:len=0
     ·subst h0
      have PV:Dq xs off (List.replicate 0 e'.zero)=xs:=by simp [Dq]
      rw [PV]
      have hv: ∃ad c,vx= .slice ad 0 c:=by
       cases hp:π l with
       |none=>rw [hp] at h3;obtain ⟨rfl,_⟩:=h3;exact ⟨_,_,rfl⟩
       |some r=>rw [hp] at h3;obtain ⟨ad,rfl,_⟩:=h3;exact ⟨_,_,rfl⟩
      obtain ⟨ad,c,rfl⟩:=hv
      refine ⟨.tuple #[],w,by cases ad<;>simp [Builtin.clear_,run_underlying g3],?_⟩
      refine h.set hl (b:= .arr fr false e' te xs) ⟨rfl,Ar _⟩ (Oq w _) λm=>?_
      have hb:=(h.1.heap l).Qi hl
      simp only [Bw,Jj] at hb⊢
      cases hp:π l with
      |none=>rw [hp] at hb;exact hb
      |some r=>
       rw [hp] at hb
       obtain ⟨k1,cur,ti,k2,k3,k4,k5,k6,_⟩:=hb
       exact ⟨k1,cur,ti,k2,k3,k4,k5,k6,λh=>by cases h⟩
     ·cases hp:π l with
      |none=>rw [hp] at h3;obtain ⟨_,_,h3⟩:=h3;exact absurd h3 h0
      |some r=>
       rw [hp] at h3
       obtain ⟨adx,rfl,p9,mq⟩:=h3
       have hb:=(h.1.heap l).Qi hl
       simp only [Bw,Jj,hp] at hb
       obtain ⟨k1,cur,ti,k2,k3,k4,k5,k6,_⟩:=hb
       have:=mq (by omega)
       subst this
       rw [z3,Ex] at k3
       have Yo:=run_storeCells_at P r.g (r.o+off) ti (List.replicate len z) 0 cur w k2 (by simp;omega) (λv hv=>by rw [Fa hv];exact z5)
       simp only [Ef] at Yo
       have hzl:(Builtin.zeroCells #[z] len).toList=List.replicate len z:=by
        apply List.ext_getElem
        ·simp [Builtin.zeroCells]
        ·intro i h1 h2
         simp [Builtin.zeroCells,Nat.mod_one]
       refine ⟨.tuple #[],_,?_,ru (ys:=List.replicate len e'.zero) (cs:=List.replicate len z) h hc2 z3 hp hl k2 (by simp;omega) (by simp) (λi y hy=>?_)⟩
       ·obtain ⟨n,rfl⟩: ∃n,len=n+1:=⟨len-1,by omega⟩
        rw [z3,Ex]
        simp only [Builtin.clear_]
        simp [run_underlying g3,zeroValue,typeInfo,hi,qq,XY,PZ,hzl,Yo,Dq]
       ·have pb:=(Aj.1 hy).1
        simp at pb
        have:=Bx hy
        rw [Fa this]
        exact ⟨z,by simp [pb],z4⟩
    ·cases he
   ·cases he
  ·cases he
 ·cases he
end
end Go.Proofs.Ytkkdpknjohcekaa
