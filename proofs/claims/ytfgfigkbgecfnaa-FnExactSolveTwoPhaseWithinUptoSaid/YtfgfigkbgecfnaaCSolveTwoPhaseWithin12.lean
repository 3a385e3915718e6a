/-
  Part 13 of the proof that the statement FnExactSolveTwoPhaseWithin holds.
-/
import Derived.Test.YtfgfigkbgecfnaaCSolveTwoPhaseWithin11
import Derived.MapKept
namespace Go.Proofs.Ytfgfigkbgecfnaa
open Go.RowKit
section
variable {P:Program} {T:Tab} {X:Ctx} {w w':World} {π:Pi} {H:List (Nat×OB)}
theorem nS (hT:Ec P T) {st:St} {a:Act} (h:Bs X π st a w) (dst:Nat) (t:TypeId) (av:AV) (st':St) (he:Vv T st dst t=some (av,st')):
  ∃v' w' π',(Instr.makeMap t none).run P w= .ok v' w'/\Bs X π' st' a w'/\Bx X w' π' st'.heap av v':=by
 unfold Vv at he;split at he
 ·rename_i v ht;split at he
  ·rename_i hp;simp only [Aa,Ag] at he;obtain ⟨rfl,rfl⟩:=he;obtain ⟨k,e,h1,h2,h3,h4,h5⟩:=hT.mapOf t v ht;have l9:(w.alloc (.map #[] 0)).heap[w.heap.size]?=some (.map #[] 0):=heap_alloc_new w _;refine ⟨.map (some w.heap.size),w.alloc (.map #[] 0),_,rfl,h.replace dst hp (some (Real.one w.heap.size 0 0)) _ (World.grownBy_alloc w _ _) (λr hr=>by cases hr;exact ⟨rfl, .inr (Ap _),Gv l9⟩) λm=>?_,?_⟩
   ·refine ⟨_,rfl,rfl,⟨h4,h5⟩, .inr ⟨_,rfl,Gv l9,λh=>h, #[],0,l9,by simp,λ_ _=>rfl,λs y hy=>by cases hy⟩⟩
   ·exact ⟨_,v,_,St.Hm st dst _,Gx _ _ _,rfl⟩
  ·cases he
 ·cases he
theorem yl {e:MapEntry} {t:ByteArray} (h:e.key= .string t) (r:List MapEntry):Ru (e::r) t=some e.val:=by
 unfold Ru;rw [Ac (by rw [h];rfl)]
theorem Vo {e:MapEntry} {t:ByteArray} (h:Uc e.key≠some t) (r:List MapEntry):Ru (e::r) t=Ru r t:=by
 rw [Ru,Ai h]
theorem qw {s t:ByteArray} (h:t≠s):Uc (.string s)≠some t:=by
 simp only [Uc,ne_eq,Aa];exact λe=>h e.symm
theorem oo (s:ByteArray) (x:Value): ∀(es:List MapEntry) (j:Nat) (e:MapEntry),es[j]?=some e->e.key= .string s->(∀k e,k<j->es[k]?=some e->Uc e.key≠some s)->
  ∀t,Ru (es.modify j λe=> {e with key:= .string s,val:=x}) t=if t=s then some x else Ru es t
 | [],j,e,h,_,_,_=>by simp at h
 |a::r,0,e,h,hk,_,t=>by
  simp only [Cf,Aa] at h;subst h;simp only [List.modify_zero_cons]
  by_cases wK:t=s
  ·subst wK;rw [yl rfl,Ac rfl]
  ·rw [Vo (qw wK),Ai wK,Vo (by rw [hk];exact qw wK)]
 |a::r,j+1,e,h,hk,hf,t=>by
  simp only [List.modify_succ_cons];have ih:=oo s x r j e (by simpa using h) hk (λk e hk he=>hf (k+1) e (by omega) (by simpa using he)) t;have h0:=hf 0 a (by omega) rfl
  by_cases ha:Uc a.key=some t
  ·have:t≠s:= λe=>h0 (e▸ha);rw [Ai this];simp only [Ru,Ac ha]
  ·rw [Vo ha,Vo ha,ih]
theorem ur (s:ByteArray) (x:Value) (b:Nat): ∀(es:List MapEntry) (t:ByteArray),Ru (es++ [{key:= .string s,val:=x,born:=b}]) t=match Ru es t with|some v=>some v|none=>if t=s then some x else none
 | [],t=>by
  simp only [Om]
  by_cases wK:t=s
  ·subst wK;rw [yl rfl];simp [Ru]
  ·rw [Vo (qw wK)];simp [Ru,wK]
 |a::r,t=>by
  simp only [Ka]
  by_cases ha:Uc a.key=some t
  ·simp only [Ru,Ac ha]
  ·rw [Vo ha,Vo ha];exact ur s x b r t
theorem vf {r:Nat} {es:Array MapEntry} {clock:Nat} (o:Obj) (hb:w.heap[r]?=some (.map es clock)):(setObj r o).run P w= .ok () {w with heap:=w.heap.setIfInBounds r o} :=by simp [setObj,Sem.run,hb]
theorem eF (hT:Ec P T) {st:St} {a:Act} (h:Bs X π st a w) (t:TypeId) (m k x:AV) (vm vk vx:Value) (hm:Bx X w π st.heap m vm) (hk:Bx X w π st.heap k vk) (hx:Bx X w π st.heap x vx) (st':St)
  (he:Jo T st t m k x=some st'): ∃w',(Instr.mapUpdate t vm vk vx).run P w= .ok () w'/\Bs X π st' a w':=by
 unfold Jo at he;split at he
 ·rename_i v l fr s ht;have:=gw hk;subst this;obtain ⟨kt,et,h1,h2,h3,h4,h5⟩:=hT.mapOf t v ht;split at he
  ·rename_i v' f sA y hl hv;split at he
   ·rename_i hc;obtain ⟨rfl,_,_⟩:=hc;simp only [Aa] at he;subst he;unfold St.at at hl;obtain ⟨r,vt,mm,g1,g2,rfl⟩:=hm;obtain ⟨r',g3,g4,g5,g6⟩:=(h.1.heap l).Se hl;rw [g2] at g3;cases g3;simp only [Cells] at g6;rcases g6 with ⟨g6,_⟩|⟨g,g6,hg,_,es,clock,q1,q2,q3,q4⟩
    ·simp at g6
    simp only [Hi,Value.map.injEq,Aa,bz] at g6;subst g6;have hr:=Zo h.1 (S:= λ_=>False) v' x vx sA y hx hv ⟨λ_ h=>h.elim, .inr λ_ h=>h.elim⟩;have hxc:Cells w (λ_=>False) v' [vx] y:=Dd.Sw h5 hr;obtain ⟨res,p1,p2,p3⟩:=je s es.toList 0 q2
    have xW:(Instr.findKey kt (.string s) es.toList).run P w= .ok res w:=by
     unfold Instr.findKey;simp only [Sem.run_bind,run_underlying h2,Result.andThen_ok,p1,Sem.run_pure]
    have Aqe: ∀w,(Instr.keyThatStays (.string s) (.string s)).run P w= .ok (.string s) w:= λw=>by
     unfold Instr.keyThatStays;rw [show (10000:Nat)=9999+1 from rfl];simp only [Instr.sameBits,LU,decide_true,Oz,Sem.run_pure]
    have done: ∀(pd:Array MapEntry) (MI:Nat),(Instr.mapUpdate t (.map (some r.g)) (.string s) vx).run P w= .ok () {w with heap:=w.heap.setIfInBounds r.g (.map pd MI)} ->
      (∀e∈pd.toList,(Uc e.key).isSome=true)->(∀t,Ru pd.toList t=if t=s then some vx else Ru es.toList t)->
      ∃w',(Instr.mapUpdate t (.map (some r.g)) (.string s) vx).run P w= .ok () w'/\Bs X π (st.Kk l (.Wl v' (gR f s y))) a w':=by
     intro pd MI Wj e1 e2;refine ⟨_,Wj,h.set hl trivial (b:= .Wl v' (gR f s y)) (by rw [g2];exact ⟨rfl,rfl,rfl,by simp,λk hk Ii=>by simp only [An,ne_eq,Aa] at Ii;simp [Array.getElem?_setIfInBounds_ne (λe=>Ii e.symm)]⟩) λmv=>?_⟩;refine ⟨r,g2,g4,g5, .inr ⟨r.g,rfl,by simpa using hg,λh=>h,pd,MI,by simp [hg],e1,λt ht=>?_,λt z hz=>?_⟩⟩
     ·rw [e2];unfold gR at ht;split at ht
      ·cases ht
      ·rename_i Ii;rw [Ai Ii];exact q3 t ht
     ·rw [e2];unfold gR at hz;split at hz
      ·rename_i heq;rw [Ac heq];simp only [Aa] at hz;subst hz;exact ⟨vx,rfl,Cells.flat v' _ _ h4 hxc⟩
      ·rename_i Ii;rw [Ai Ii];obtain ⟨u,z1,z2⟩:=q4 t z hz;exact ⟨u,z1,Cells.flat v' _ _ h4 z2⟩
    cases res with
    |none=>
     refine done (es.push {key:= .string s,val:=vx,born:=clock}) (clock+1) ?_ (λe he=>?_) λt=>?_
     ·unfold Instr.mapUpdate;simp [run_underlying h1,gB q1,Wr h2,xW,vf _ q1]
     ·rw [Array.toList_push] at he;rcases Be.1 he with he|he
      ·exact q2 e he
      ·simp only [Af] at he;subst he;rfl
     ·rw [Array.toList_push,ur];simp only [Option.map_none] at p2
      by_cases wK:t=s
      ·subst wK;rw [<-p2]
      ·rw [Ai wK]
       cases Ru es.toList t<;>simp [wK]
    |some pr=>
     obtain ⟨j,vj⟩:=pr;obtain ⟨_,⟨e0,z1,z2⟩,z3⟩:=p3 j vj rfl;simp only [Nat.sub_zero] at z1 z3;refine done (es.modify j λe=> {e with key:= .string s,val:=vx}) clock ?_ (λe he=>?_) λt=>?_
     ·unfold Instr.mapUpdate
      have hj:es[j]?=some e0:=by rw [<-Array.getElem?_toList];exact z1
      simp [run_underlying h1,gB q1,Wr h2,xW,hj,z2,Aqe,vf _ q1]
     ·rw [Array.toList_modify] at he;obtain ⟨i,hi,rfl⟩:=Sa he;rw [List.getElem_modify];split
      ·rfl
      ·exact q2 _ (Ah _)
     ·rw [Array.toList_modify];exact oo s vx es.toList j e0 z1 z2 z3 t
   ·cases he
  ·cases he
 ·cases he
theorem UM {S:Nat->Prop} {e:Ty} {ys:List e.den} {v:Value} (h1:e.size=1) (h:Cells w S (.slice e) [v] ys):
  ∃ad c,v= .slice ad ys.length c/\ ∃cs:List Value,cs.length=ys.length/\(ys= []\/ ∃g o,ad=some ⟨g,o,none⟩/\ ∀j u,cs[j]?=some u->w.cell? ⟨g,o+j,none⟩=some u)/\(∀u∈cs,u.oneCell'=true)/\
   ∀(i:Nat) (y:e.den),ys[i]?=some y-> ∃u,cs[i]?=some u/\Cells w S e [u] y:=by
 obtain ⟨ad,c,rfl,ND⟩:=vn h;refine ⟨ad,c,rfl,?_⟩;rcases ND with rfl|⟨g,o,rfl,news,n1,n2,n3,_,n4⟩
 ·exact ⟨[],rfl, .inl rfl,by simp,λi y hy=>by simp at hy⟩
 ·rw [h1,Gm] at n1;refine ⟨news,n1, .inr ⟨g,o,rfl,n2⟩,n3,λi y hy=>?_⟩;obtain ⟨es,q1,q2,q3⟩:=n4 i y hy;rw [h1] at q1;obtain ⟨u,rfl⟩:=Ek.1 q1;have:=q2 0 u rfl;rw [h1,Gm,El] at this;exact ⟨u,this,q3⟩
theorem vd {st:St} {a:Act} (h:Bs X π st a w) {l:Nat} {fr tr:Bool} {e:Ty} {tid:TypeId} {xs ys:List e.den} {r:Real} {off:Nat} {cs:List Value} {cur:Array Value} {ti:TypeId} (hf:e.flat=true) (h1:e.size=1)
  (hp:π l=some r) (hl:Ay st.heap l=some (.arr fr tr e tid xs)) (iC:w.heap[r.g]?=some (.cells cur ti (0,0))) (hle:off+ys.length<=xs.length) (zJ:cs.length=ys.length)
  (Ak3: ∀(i:Nat) (y:e.den),ys[i]?=some y-> ∃u,cs[i]?=some u/\Cells w (λ_=>False) e [u] y):
  Bs X π (st.Kk l (.arr fr false e tid (Du xs off ys))) a (w.setRow r.g (Du cur.toList (r.o+off) cs).toArray):=by
 have hb:=(h.1.heap l).Se hl;simp only [Cq,Km,hp] at hb;obtain ⟨k1,aI,ti',k2,k3,k4,k5,k6,_⟩:=hb;rw [iC] at k2;simp only [Aa,Obj.cells.injEq,bz] at k2;obtain ⟨rfl,rfl⟩:=k2;rw [h1,Gm] at k3
 have Wz:r.o+off+cs.length<=cur.toList.length:=by simp [k3];omega
 have SM:(Du xs off ys).length=xs.length:=Jf xs ys off hle;refine h.set hl (b:= .arr fr false e tid (Du xs off ys)) ⟨rfl,by omega⟩ (by rw [hp];exact Oe w r.g _) λm=>?_;simp only [Cq,Km,hp];refine ⟨k1,_,_,setRow_heap w r.g cur _ ti _ iC,by rw [Hk,Jf _ _ _ Wz,h1];simpa using k3,k4,by omega,λi x hx=>?_,λh=>by cases h⟩;rw [Im _ _ _ _ hle] at hx;have aj: ∀(u:Value) (z:e.den),Cells w (λ_=>False) e [u] z\/Cells w (Dk X.w0.heap.size X.Sc π fr) e [u] z->Cells (w.setRow r.g (Du cur.toList (r.o+off) cs).toArray) (Dk X.w0.heap.size X.Sc π fr) e [u] z:= λu z hz=>hz.elim (Cells.flat e _ _ hf) (Cells.flat e _ _ hf)
 by_cases Jq:off<=i/\i<off+ys.length
 ·rw [Ai (by omega),Ac Jq.2] at hx;obtain ⟨u,q1,q2⟩:=Ak3 _ x hx;refine ⟨[u],by simp [h1],λj u' iG=>?_,aj u x (.inl q2)⟩;rcases j with _|j
  ·simp only [Cf,Aa] at iG;subst iG;rw [Io,Im _ _ _ _ Wz,h1,Gm,El,Ai (by omega),Ac (by omega),<-q1]
   congr 1;omega
  ·simp at iG
 ·have hx':xs[i]?=some x:=by
   by_cases h0:i<off
   ·rw [Ac h0] at hx;exact hx
   ·rw [Ai h0,Ai (by omega)] at hx;exact hx
  obtain ⟨es,q1,q2,q3⟩:=k6 i x hx';rw [h1] at q1;obtain ⟨u,rfl⟩:=Ek.1 q1;refine ⟨[u],by simp [h1],λj u' iG=>?_,aj u x (.inr q3)⟩;rcases j with _|j
  ·simp only [Cf,Aa] at iG;subst iG;have:=q2 0 u rfl;rw [h1,Gm,El] at this;rw [Io,Im _ _ _ _ Wz,h1,Gm,El]
   by_cases h0:r.o+i<r.o+off
   ·rw [Ac h0];simpa using this
   ·rw [Ai h0,Ai (by omega)];simpa using this
  ·simp at iG
theorem tD (hT:Ec P T) {st:St} {a:Act} (h:Bs X π st a w) (t t' ty:TypeId) (x y:AV) (vx vy:Value) (hx:Bx X w π st.heap x vx) (hy:Bx X w π st.heap y vy) (av:AV) (st':St)
  (he:jc T st t t' x y=some (av,st')): ∃v' w',(Builtin.copy_ #[t,t'] ty #[vx,vy]).run P w= .ok v' w'/\Bs X π st' a w'/\Bx X w' π st'.heap av v':=by
 unfold jc at he;split at he
 ·rename_i l off len e lI;obtain ⟨te,g1,g2,g3,g4⟩:=sx hT lI;split at he
  ·rename_i hc;obtain ⟨FZ,hc2,hc3⟩:=hc;split at he
   ·rename_i fr tr e' tid xs sA ys hl hv;split at he
    ·rename_i hc4;obtain ⟨rfl,hc5⟩:=hc4;rw [g1] at hc5;simp only [Aa] at hc5;subst hc5;simp only [Aa,Ag] at he;obtain ⟨rfl,rfl⟩:=he;unfold St.at at hl;obtain ⟨h2,h3⟩:=Pe (X:=X) (w:=w) hx hl;have hyr:=Dd.Sw rfl (Zo h.1 (S:= λ_=>False) _ y vy sA ys hy hv ⟨λ_ h=>h.elim, .inr λ_ h=>h.elim⟩);obtain ⟨ad,c,rfl,cs,c1,c2,c3,c4⟩:=UM hc3 hyr;obtain ⟨inf,hi,Wi,_⟩:=(hT.ty te e' g2).info
     have Avd:(P.info? te).map (·.size)=some 1:=by rw [hi];simp [Wi,hc3]
     have Ape: ∀n:Nat,n=min len ys.length->Bx X w π st.heap (.at (.data true (.int .i64) ((min len ys.length:Nat):Int))) (goInt n):= λn hn=>by subst hn;exact Nt _ _ _
     have Ail: ∀(w':World) (H':List (Nat×OB)) (n:Nat),n=min len ys.length->Bx X w' π H' (.at (.data true (.int .i64) ((min len ys.length:Nat):Int))) (goInt n):= λw' H' n hn=>by subst hn;exact Nt _ _ _
     have nothing:min len ys.length=0-> ∀v',(Builtin.copy_ #[t,t'] ty #[vx, .slice ad ys.length c]).run P w= .ok v' w->v'=goInt 0->
       ∃v' w',(Builtin.copy_ #[t,t'] ty #[vx, .slice ad ys.length c]).run P w= .ok v' w'/\Bs X π (st.Kk l (.arr fr false e' te (Du xs off (ys.take len)))) a w'/\
        Bx X w' π (st.Kk l (.arr fr false e' te (Du xs off (ys.take len)))).heap (.at (.data true (.int .i64) ((min len ys.length:Nat):Int))) v':=by
      intro h0 v' hr ya;subst ya;have Aw0:ys.take len= []:=Cr (by rw [Dx];exact h0);refine ⟨_,w,hr,?_,Ail _ _ 0 h0.symm⟩;rw [Aw0]
      have GI:Du xs off []=xs:=by simp [Du]
      rw [GI];refine h.set hl (b:= .arr fr false e' te xs) ⟨rfl,Ap _⟩ (Qc w _) λm=>?_;have hb:=(h.1.heap l).Se hl;simp only [Cq,Km] at hb⊢
      cases hp:π l with
      |none=>rw [hp] at hb;exact hb
      |some r=>
       rw [hp] at hb;obtain ⟨k1,cur,ti,k2,k3,k4,k5,k6,_⟩:=hb;exact ⟨k1,cur,ti,k2,k3,k4,k5,k6,λh=>by cases h⟩
     cases hp:π l with
     |none=>
      rw [hp] at h3;obtain ⟨rfl,rfl,rfl⟩:=h3;refine nothing (by simp) (goInt 0) ?_ rfl;rcases c2 with c2|⟨g,o,rfl,_⟩
      ·subst c2
       cases ad<;>simp [Builtin.copy_,run_underlying g3,Builtin.lenOf,Builtin.firstCells,sizeOf,typeInfo,hi,loadCells,loadCellsFrom]
      ·simp [Builtin.copy_,run_underlying g3,Builtin.lenOf,Builtin.firstCells,sizeOf,typeInfo,hi,loadCells,loadCellsFrom]
     |some r=>
      rw [hp] at h3;obtain ⟨adx,rfl,qT,lE⟩:=h3
      by_cases hz:min len ys.length=0
      ·refine nothing hz (goInt 0) ?_ rfl
       have hn:Nat.min ys.length len=0:=by show min ys.length len=0;omega
       cases ad<;>simp [Builtin.copy_,run_underlying g3,Builtin.lenOf,Builtin.firstCells,sizeOf,typeInfo,hi,hn,loadCells,loadCellsFrom,storeCells]
      ·rcases c2 with c2|⟨g,o,rfl,c2⟩
       ·subst c2;simp at hz
       ·have hb:=(h.1.heap l).Se hl;simp only [Cq,Km,hp] at hb;obtain ⟨k1,cur,ti,k2,k3,k4,k5,k6,_⟩:=hb;have:=lE (by omega);subst this;rw [hc3,Gm] at k3
        have hlen:(cs.take len).length=Nat.min ys.length len:=by rw [Dx,c1];exact Nat.min_comm _ _
        have hr:=run_copy_row (P:=P) w t t' ty te r.g ((r.o+off)*e'.size) len (r.cap-off) ⟨g,o,none⟩ ys.length c cur ti (cs.take len) g3 Avd k2 hlen
         (λj v hv=>by rw [Addr.add_lit];refine c2 j v ?_;rw [Di] at hv;split at hv;exact hv;cases hv)
         (by rw [hc3,Gm,Dx];omega) (λv hv=>c3 v (Gl hv))
        rw [hc3,Gm] at hr;have GI:(cur.toList.take (r.o+off)++cs.take len++cur.toList.drop (r.o+off+(cs.take len).length))=Du cur.toList (r.o+off) (cs.take len):=rfl;rw [GI] at hr;refine ⟨_,_,by rw [hc3,Gm];exact hr,vd h hc2 hc3 hp hl k2 (by rw [Dx];omega) (by rw [Dx,Dx,c1]) (λi z hz=>?_),Ail _ _ _ (by rw [hlen];exact Nat.min_comm _ _)⟩;rw [Di] at hz;split at hz
        ·rename_i cO;obtain ⟨u,q1,q2⟩:=c4 i z hz;exact ⟨u,by rw [Di,Ac cO];exact q1,q2⟩
        ·cases hz
    ·cases he
   ·cases he
  ·cases he
 ·cases he
theorem s7 (hT:Ec P T) {st:St} {a:Act} (h:Bs X π st a w) (t ty:TypeId) (x:AV) (vx:Value) (hx:Bx X w π st.heap x vx) (st':St)
  (he:evalClear T st t x=some st'): ∃v' w',(Builtin.clear_ #[t] ty #[vx]).run P w= .ok v' w'/\Bs X π st' a w':=by
 unfold evalClear at he;split at he
 ·rename_i l off len e lI;obtain ⟨te,g1,g2,g3,g4⟩:=sx hT lI;split at he
  ·rename_i hc;obtain ⟨hc2,hz⟩:=hc;split at he
   ·rename_i fr tr e' tid xs hl;split at he
    ·rename_i hc4;obtain ⟨rfl,hc5⟩:=hc4;rw [g1] at hc5;simp only [Aa] at hc5;subst hc5;simp only [Aa] at he;subst he;unfold St.at at hl;obtain ⟨h2,h3⟩:=Pe (X:=X) (w:=w) hx hl
     obtain ⟨z,z1,z2,z3,z4,z5⟩:=(show ∃z,Cd e'= [z]/\e'.Ar=false/\e'.size=1/\Cells w (λ_=>False) e' [z] e'.zero/\z.oneCell'=true from by
      cases e'<;>simp [nq] at hz<;>try (simp [Ty.flat] at hc2;done)
      ·exact ⟨_,rfl,rfl,rfl,rfl,rfl⟩
      ·exact ⟨_,rfl,rfl,rfl,rfl,rfl⟩
      ·exact ⟨_,rfl,rfl,rfl,rfl,rfl⟩)
     obtain ⟨inf,hi,Wi,_,tZ⟩:=(hT.ty te e' g2).info
     have hmk:Cj e' (Cd e')=z:=by simp [Cj,z1,z2]
     have hzc:z.cells= #[z]:=by
      have:=Lp e' _ _ (z1▸z4:Cells w _ e' (Cd e') e'.zero);rw [hmk,z1] at this;exact this
     by_cases h0:len=0
     ·subst h0
      have GI:Du xs off (List.replicate 0 e'.zero)=xs:=by simp [Du]
      rw [GI]
      have hv: ∃ad c,vx= .slice ad 0 c:=by
       cases hp:π l with
       |none=>rw [hp] at h3;obtain ⟨rfl,_⟩:=h3;exact ⟨_,_,rfl⟩
       |some r=>rw [hp] at h3;obtain ⟨ad,rfl,_⟩:=h3;exact ⟨_,_,rfl⟩
      obtain ⟨ad,c,rfl⟩:=hv
      refine ⟨.tuple #[],w,by cases ad<;>simp [Builtin.clear_,run_underlying g3],?_⟩
      refine h.set hl (b:= .arr fr false e' te xs) ⟨rfl,Ap _⟩ (Qc w _) λm=>?_;have hb:=(h.1.heap l).Se hl;simp only [Cq,Km] at hb⊢
      cases hp:π l with
      |none=>rw [hp] at hb;exact hb
      |some r=>
       rw [hp] at hb;obtain ⟨k1,cur,ti,k2,k3,k4,k5,k6,_⟩:=hb;exact ⟨k1,cur,ti,k2,k3,k4,k5,k6,λh=>by cases h⟩
     ·cases hp:π l with
      |none=>rw [hp] at h3;obtain ⟨_,_,h3⟩:=h3;exact absurd h3 h0
      |some r=>
       rw [hp] at h3;obtain ⟨adx,rfl,qT,lE⟩:=h3;have hb:=(h.1.heap l).Se hl;simp only [Cq,Km,hp] at hb;obtain ⟨k1,cur,ti,k2,k3,k4,k5,k6,_⟩:=hb;have:=lE (by omega);subst this;rw [z3,Gm] at k3;have Sd:=run_storeCells_at P r.g (r.o+off) ti (List.replicate len z) 0 cur w k2 (by simp;omega) (λv hv=>by rw [Gf hv];exact z5);simp only [El] at Sd
       have hzl:(Builtin.zeroCells #[z] len).toList=List.replicate len z:=by
        apply List.ext_getElem
        ·simp [Builtin.zeroCells]
        ·intro i h1 h2;simp [Builtin.zeroCells,Nat.mod_one]
       refine ⟨.tuple #[],_,?_,vd (ys:=List.replicate len e'.zero) (cs:=List.replicate len z) h hc2 z3 hp hl k2 (by simp;omega) (by simp) (λi y hy=>?_)⟩
       ·obtain ⟨n,rfl⟩: ∃n,len=n+1:=⟨len-1,by omega⟩
        rw [z3,Gm];simp only [Builtin.clear_];simp [run_underlying g3,zeroValue,typeInfo,hi,tZ,hmk,hzc,hzl,Sd,Du]
       ·have cO:=(Ao.1 hy).1;simp at cO;have:=Cs hy;rw [Gf this];exact ⟨z,by simp [cO],z4⟩
    ·cases he
   ·cases he
  ·cases he
 ·cases he
end
end Go.Proofs.Ytfgfigkbgecfnaa
