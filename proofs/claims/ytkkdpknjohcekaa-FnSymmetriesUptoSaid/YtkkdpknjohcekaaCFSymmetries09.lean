/-
  Part 10 of the proof that the statement FnSymmetries holds.
-/
import Derived.Test.YtkkdpknjohcekaaCFSymmetries08
namespace Go.Proofs.Ytkkdpknjohcekaa
open Go.RowKit
section
variable {P:Program} {T:Tab} {X:Ctx} {w w':World} {π:Pi} {H:List (Nat×OB)}
theorem Pc (w:World) (row:Option Nat):w.grownBy w row:=⟨rfl,rfl,rfl,Ar _,λ_ _ _=>rfl⟩
theorem ym (fr:Bool) {τ:Ty} (Sq:τ.Ap=false) (x:τ.den):Rj fr τ x= [.data fr τ x]:=by
 cases τ<;>first|rfl|simp [Ty.Ap] at Sq
theorem DJ {S:Nat->Prop} {τ:Ty} {v:Value} {x:τ.den} (h:Cells w S τ [v] x):v.oneCell'=true:=Cells.plain τ [v] x h v (by simp)
theorem nB {fr:Bool} : ∀(τ:Ty) (us:List Value) (x:τ.den),Cells w (Cr X.w0.heap.size X.Sc π fr) τ us x->Fc X w π H (Rj fr τ x) us:=by
 have one: ∀(τ:Ty) (us:List Value) (x:τ.den),τ.Ap=false->Cells w (Cr X.w0.heap.size X.Sc π fr) τ us x->Fc X w π H (Rj fr τ x) us:=by
  intro τ us x Sq h
  rw [ym fr Sq]
  have hl:=Cells.len τ us x h
  have h1:τ.size=1:=by cases τ<;>simp_all [Ty.Ap,Ty.size]
  rw [h1] at hl
  obtain ⟨u,rfl⟩:=Dy.1 hl
  refine ⟨rfl,λi c hc=>?_⟩
  rcases i with _|i
  ·simp at hc;subst hc
   exact ⟨u,rfl,DJ h,[u],h,by simp [Bs,Sq]⟩
  ·simp at hc
 intro τ
 induction τ with
 |unit=>intro us x h;simp only [Cells] at h;subst h;exact ⟨rfl,λi c hc=>by simp [Rj] at hc⟩
 |pair a r eZ eV=>
  intro us x h
  simp only [Cells] at h
  obtain ⟨c1,c2,rfl,h1,h2⟩:=h
  have r1:=eZ c1 x.1 h1
  have r2:=eV c2 x.2 h2
  refine ⟨by simp [Rj,r1.1,r2.1],λi c hc=>?_⟩
  simp only [Rj] at hc
  by_cases hi:i<(Rj fr a x.1).length
  ·rw [Aq hi] at hc
   obtain ⟨u,hu,h3⟩:=r1.2 i c hc
   exact ⟨u,by rw [Aq (by rw [r1.1];exact hi)];exact hu,h3⟩
  ·rw [Ao (by omega)] at hc
   obtain ⟨u,hu,h3⟩:=r2.2 _ c hc
   exact ⟨u,by rw [Ao (by rw [r1.1];omega),r1.1];exact hu,h3⟩
 |_=>exact λus x h=>one _ us x rfl h
theorem fu {τ:Ty} {c:AV} {v:Value} {cs:List AC} (h:Bf X w π H c v) (hc:cellsOf τ c=some cs):
  ∃us:List Value,v.cells=us.toArray/\us.length=τ.size/\Fc X w π H cs us:=by
 have single: ∀a:AC,(if τ.Ap then none else some [a])=some cs->Gy X w π H a v->v.oneCell'=true->v.cells= #[v]-> ∃us:List Value,v.cells=us.toArray/\us.length=τ.size/\Fc X w π H cs us:=by
  intro a ha hr h1 h2
  split at ha
  ·cases ha
  ·rename_i hs
   simp only [Aa] at ha;subst ha
   simp only [Gw] at hs
   have h3:τ.size=1:=by cases τ<;>simp_all [Ty.Ap,Ty.size]
   refine ⟨[v],h2,by rw [h3];rfl,rfl,λi c hc=>?_⟩
   rcases i with _|i
   ·simp at hc;subst hc;exact ⟨v,rfl,h1,hr⟩
   ·simp at hc
 cases c with
 |agg ds=>
  simp only [cellsOf] at hc
  split at hc
  ·rename_i Jg
   simp only [Ag,Vv] at Jg
   simp only [Aa] at hc;subst hc
   obtain ⟨us,rfl,hr⟩:=h
   exact ⟨us,rfl,by rw [hr.1,Jg.2],hr⟩
  ·cases hc
 |aa fr Nr x=>simp [cellsOf] at hc
 |Mh l=>simp [cellsOf] at hc
 | «at»a=>
  cases a with
  |data fr Nr x=>
   simp only [cellsOf] at hc
   split at hc
   ·rename_i ht;subst ht
    simp only [Aa] at hc;subst hc
    obtain ⟨us,h1,rfl⟩:=h
    exact ⟨us,Ks Nr us x h1,Cells.len Nr us x h1,nB Nr us x h1⟩
   ·cases hc
  |undef=>simp [cellsOf] at hc
  |skip=>simp [cellsOf] at hc
  |Lo=>have hv:v= .slice none 0 0:=h;exact single .Lo hc h (by rw [hv];rfl) (by rw [hv];rfl)
  |Uk=>have hv:v= .pointer none:=h;exact single .Uk hc h (by rw [hv];rfl) (by rw [hv];rfl)
  |own l off len=>
   have h':=h
   obtain ⟨b,sz,n,_,_,_,ho⟩:=h
   have hv: ∃a l c,v= .slice a l c:=by
    cases hp:π l with
    |none=>rw [hp] at ho;obtain ⟨rfl,_⟩:=ho;exact ⟨_,_,_,rfl⟩
    |some r=>rw [hp] at ho;obtain ⟨ad,rfl,_⟩:=ho;exact ⟨_,_,_,rfl⟩
   obtain ⟨a1,l1,c1,hv⟩:=hv
   exact single _ hc h' (by rw [hv];rfl) (by rw [hv];rfl)
  |Gr l i=>
   have h':=h
   obtain ⟨r,tid,vs,_,_,hv⟩:=h
   exact single _ hc h' (by rw [hv];rfl) (by rw [hv];rfl)
  |Jp l i=>
   have h':=h
   obtain ⟨r,b,sz,n,_,_,_,_,hv⟩:=h
   exact single _ hc h' (by rw [hv];rfl) (by rw [hv];rfl)
  |sub l i c0=>
   have h':=h
   obtain ⟨r,b,sz,n,_,_,_,_,⟨_,a,n,m,hv⟩,_⟩:=h
   exact single _ hc h' (by rw [hv];rfl) (by rw [hv];rfl)
  |Jn l i c0=>
   have h':=h
   obtain ⟨r,b,n,sz,g,o,len,cap,_,_,_,_,_,_,hv⟩:=h
   exact single _ hc h' (by rw [hv];rfl) (by rw [hv];rfl)
  |clo f Eb=>
   have h':=h
   obtain ⟨us,hv,_⟩:=h
   exact single _ hc h' (by rw [hv];rfl) (by rw [hv];rfl)
  |Ka l=>
   have h':=h
   obtain ⟨r,vt,m,_,_,hv⟩:=h
   exact single _ hc h' (by rw [hv];rfl) (by rw [hv];rfl)
theorem rf {vs cs:List AC} {us ns:List Value} (h:Fc X w π H vs us) (h2:Fc X w π H cs ns) (i:Nat) (hi:i+cs.length<=vs.length):
  Fc X w π H (Dq vs i cs) (Dq us i ns):=by
 have e1:=h.1
 have e2:=h2.1
 refine ⟨by simp [Dq,e1,e2],λj c hc=>?_⟩
 unfold Dq at hc⊢
 have t1:(vs.take i).length=i:=by simp;omega
 have t2:(us.take i).length=i:=by simp;omega
 by_cases h3:j<i
 ·rw [Ct,Aq (by omega),Cn,Ab h3] at hc
  obtain ⟨u,hu,h4⟩:=h.2 j c hc
  exact ⟨u,by rw [Ct,Aq (by omega),Cn,Ab h3];exact hu,h4⟩
 ·by_cases h4:j<i+cs.length
  ·rw [Ct,Ao (by omega),t1,Aq (by omega)] at hc
   obtain ⟨u,hu,h5⟩:=h2.2 _ c hc
   exact ⟨u,by rw [Ct,Ao (by omega),t2,Aq (by omega)];exact hu,h5⟩
  ·rw [Ao (by simp;omega),Ci] at hc
   obtain ⟨u,hu,h5⟩:=h.2 _ c hc
   refine ⟨u,?_,h5⟩
   rw [Ao (by simp;omega),Ci]
   rw [<-hu]
   congr 1
   simp
   omega
theorem Mx (w:World) (g:Nat) (cs:Array Value):w.grownBy (w.setRow g cs) (some g):=
 ⟨rfl,rfl,rfl,by simp,λk _ hk=>setRow_other w g k cs (λe=>hk (by rw [e]))⟩
theorem Vj {t:TypeId} {τ:Ty} (ht:pd P T t τ) (g i:Nat) (v:Value) (us:List Value) (hv:v.cells=us.toArray) (hl:us.length=τ.size) (h1: ∀u∈us,u.oneCell'=true)
  (cur:Array Value) (tid:TypeId) (hg:w.heap[g]?=some (.cells cur tid (0,0))) (hle:i+us.length<=cur.size):
  (storeVar t ⟨g,i,none⟩ v).run P w= .ok () (w.setRow g (Dq cur.toList i us).toArray):=by
 unfold storeVar
 rw [hv]
 simp only [Sem.run_bind,ht.size,Result.andThen_ok,Gf,hl]
 have:=run_storeCells_at P g i tid us 0 cur w hg (by simpa using hle) h1
 simp only [Dz] at this
 simpa [Dq,hl] using this
def fe (P:Program) (X:Ctx) (st':St) (a:Act) (w:World) (av:AV):Result Next->Prop
 | .ok (.value v) w'=> ∃π',Bb X π' st' a w'/\Bf X w' π' st'.heap av v
 | .ok .skip w'=> ∃π',Bb X π' st' a w'/\Bf X w' π' st'.heap av undef
 | .ok (.enter f args) w'=>w'=w/\Calls P f args w (λe o9=> ∃v,e= .returned v/\ ∃π',Bb X π' st' a o9/\Bf X o9 π' st'.heap av v)
 |_=>False
theorem xa (hT:Du P T) {st:St} {a:Act} (h:Bb X π st a w) {t:TypeId} {τ:Ty} (ht:T.ty t=some τ) {l i:Nat} {vp vx:Value} {x:AV} {tid:TypeId} {vs cs:List AC}
  (hp:Bf X w π st.heap (.at (.Gr l i)) vp) (hx:Bf X w π st.heap x vx) (hl:st.at l=some (.var tid vs)) (hc:cellsOf τ x=some cs) (hle:i+cs.length<=vs.length):
  ∃w',(Instr.storeAt t vp vx).run P w= .ok () w'/\Bb X π (st.Jm l (.var tid (Dq vs i cs))) a w':=by
 obtain ⟨r,Tu,vs',h1,h2,rfl⟩:=hp
 unfold St.at at hl
 rw [hl] at h1;cases h1
 obtain ⟨r',h3,h4,cur,h5,h6⟩:=(h.1.heap l).Qq hl
 rw [h2] at h3;cases h3
 obtain ⟨us,hv,hlu,hr⟩:=fu hx hc
 have rI:us.length=cs.length:=hr.1
 have eQ:cur.toList.length=vs.length:=h6.1
 have ZT: ∀u∈us,u.oneCell'=true:=by
  intro u hu
  obtain ⟨j,hj,rfl⟩:=Mw hu
  obtain ⟨u',eU,h7,_⟩:=hr.2 j cs[j] (Ac (by omega))
  rw [Ac hj] at eU
  simp only [Aa] at eU
  rw [eU];exact h7
 have Qy:=Vj (P:=P) (w:=w) (hT.ty _ _ ht) r.g i vx us hv hlu ZT cur tid h5 (by simp at eQ;omega)
 refine ⟨_,by simp only [Instr.storeAt,Instr.sureAddr];simpa using Qy,?_⟩
 refine h.set hl (b:= .var tid (Dq vs i cs)) trivial (by rw [h2];exact Mx w r.g _) λm=>?_
 refine ⟨r,h2,h4,_,setRow_heap w r.g cur _ tid _ h5,?_⟩
 have m1:=m.SW h6
 have m2:=m.SW hr
 simp only [List.map_id'] at m1 m2
 exact rf m1 m2 i hle
theorem Ug {α:Type} : ∀(l:List α) (i:Nat) (x:α),Rr l i x=l.set i x
 | [],i,x=>by cases i<;>rfl
 |_::_,0,_=>rfl
 |y::r,n+1,x=>by simp [Rr,Ug r n x]
def FV (st:St) (l:Nat):Prop:= ∃tid vs,As st.heap l=some (.var tid vs)
theorem fF (te:TypeId) (e:Ty) (w:World) (π:Pi) (H:List (Nat×OB)):By X w π H none (cc T te e):=by
 unfold cc
 split
 ·exact ⟨rfl,trivial⟩
 ·rfl
theorem kI (te:TypeId) (e:Ty): ∃sz,(cc T te e).row=some (sz,0):=by
 unfold cc
 split<;>exact ⟨_,rfl⟩
theorem gl {st:St} {a:Act} (h:Bb X π st a w) {b:OB} (hb0: ∀(w:World) (π:Pi) (H:List (Nat×OB)),By X w π H none b) {sz:Nat} (dr:b.row=some (sz,0)) (key l i:Nat) (OJ:key<Be):
  ∃π',Bb X π' (Tq b key l i st) a w/\(FV (Tq b key l i st) l->FV st l/\π' l=π l):=by
 unfold Tq
 split
 ·rename_i tid vs hl
  split
  ·rename_i hi
   have h1:=h.replace (w':=w) key OJ none b (Pc w _) (λr hr=>by cases hr) (λ_=>hb0 _ _ _)
   dsimp only
   unfold St.at at hl
   split
   ·rename_i Tu vs' Nt
    unfold St.at at Nt
    have Rl:key≠l:=by
     intro e
     subst e
     rw [St.Gh] at Nt
     cases Nt
     cases dr
    refine ⟨_,h1.set Nt (b:= .var Tu (Rr vs' i (.own key 0 0))) trivial (Pc w _) λm=>?_,λ_=>⟨⟨tid,vs,hl⟩,Fo π none (Gl Rl)⟩⟩
    obtain ⟨r,h3,h4,cur,h5,h6⟩:=(h1.1.heap l).Qq Nt
    have m1:=m.SW h6
    simp only [List.map_id'] at m1
    refine ⟨r,h3,h4,cur,h5,?_⟩
    have Is:=St.Yc st key l b (Gl Rl)
    rw [hl,Nt] at Is
    simp only [Ah,Aa,OB.map,OB.var.injEq] at Is
    obtain ⟨rfl,rfl⟩:=Is
    refine ⟨by rw [Yi];exact m1.1,λj c hc=>?_⟩
    rw [Ug,Eh] at hc
    split at hc
    ·rename_i dm;subst dm
     split at hc
     ·simp only [Aa] at hc;subst hc
      obtain ⟨u,hu,IT,tA⟩:=m1.2 i (.Lo) (by rw [Ge,hi];rfl)
      refine ⟨u,hu,IT,b,sz,0,?_,dr,Ar _,?_⟩
      ·rw [show As ((st.new key b).Jm l _).heap key=As (st.new key b).heap key from Dv _ _ _ _ Rl]
       exact St.Gh st key _
      ·rw [Ft];exact ⟨tA,rfl,rfl⟩
     ·cases hc
    ·exact m1.2 j c hc
   ·rename_i hno
    refine ⟨_,h1,λ⟨t1,v1,hv⟩=>?_⟩
    exact absurd hv (hno t1 v1)
  ·unfold St.at at hl
   exact ⟨_,h,λhv=>⟨hv,rfl⟩⟩
 ·exact ⟨_,h,λhv=>⟨hv,rfl⟩⟩
theorem gm (l:Nat) (t:TypeId) (τ:Ty) {a:Act} : ∀(n i:Nat) (st:St) (π:Pi),100000+l*100+i+n<Be->Bb X π st a w->
  ∃π',Bb X π' (dC T l t τ n i st) a w/\(FV (dC T l t τ n i st) l->FV st l/\π' l=π l)
 |0,i,st,π,_,h=>⟨π,h,λhv=>⟨hv,rfl⟩⟩
 |n+1,i,st,π,Jx,h=>by
  unfold dC
  split
  ·rename_i te e _
   obtain ⟨sz,dr⟩:=kI (T:=T) te e
   obtain ⟨aV,h1,k1⟩:=gl h (fF te e) dr (100000+l*100+i) l i (by omega)
   obtain ⟨MG,h2,k2⟩:=gm l t τ n (i+1) _ aV (by omega) h1
   exact ⟨MG,h2,λhv=>⟨(k1 (k2 hv).1).1,(k2 hv).2.trans (k1 (k2 hv).1).2⟩⟩
  ·obtain ⟨MG,h2,k2⟩:=gm l t τ n (i+1) _ π (by omega) h
   exact ⟨MG,h2,k2⟩
theorem dD (l off:Nat) (t:TypeId) (τ:Ty) {a:Act} : ∀(n i:Nat) (st:St) (π:Pi),100000+l*100+(off+i+n)<Be->Bb X π st a w-> ∃π',Bb X π' (cE T l off t τ n i st) a w
 |0,i,st,π,_,h=>⟨π,h⟩
 |n+1,i,st,π,Jx,h=>by
  unfold cE
  split
  ·rename_i te e _
   obtain ⟨aV,h1,_⟩:=gl h (fF te e) (kI (T:=T) te e).choose_spec (100000+l*100+(off+i)) l (off+i) (by omega)
   exact dD l off t τ n (i+1) _ aV (by omega) h1
  ·exact dD l off t τ n (i+1) _ π (by omega) h
theorem w8 {st:St} {a:Act} (h:Bb X π st a w) (l:Nat) (t:TypeId) (cs:List AC) (us:List Value) (hr:Fc X w π st.heap cs us) (av:AV) (st':St)
  (he:qp st l t cs=some (av,st')):
  ∃π',Bb X π' st' a (w.alloc (.cells us.toArray t))/\Bf X (w.alloc (.cells us.toArray t)) π' st'.heap av (.pointer (some ⟨w.heap.size,0,none⟩)):=by
 unfold qp at he
 split at he
 ·cases he
 rename_i dp
 simp only [Aa,Ad] at he
 obtain ⟨rfl,rfl⟩:=he
 have h1:Bb X (Vr π l (some (Real.one w.heap.size 0 0))) (st.new l (.var t (cs.map (Cg l)))) a (w.alloc (.cells us.toArray t)):=by
  refine h.replace l (by omega) (some (Real.one w.heap.size 0 0)) (.var t (cs.map (Cg l))) (World.grownBy_alloc w _ _) (λr ix=>by cases ix;exact ⟨rfl, .inr (Ar _),by simp [Real.one]⟩) λm=>?_
  exact ⟨_,rfl,rfl,us.toArray,heap_alloc_new w _,m.SW (by simpa using hr)⟩
 exact ⟨_,h1,_,t,_,St.Gh ..,Ft ..,rfl⟩
theorem nO {st:St} {a:Act} (h:Bb X π st a w) (l:Nat) (t:TypeId) (τ:Ty) (cs:List AC) (us:List Value) (hr:Fc X w π st.heap cs us) (av:AV) (st':St)
  (he:mkVar T st l t τ cs=some (av,st')):
  ∃π',Bb X π' st' a (w.alloc (.cells us.toArray t))/\Bf X (w.alloc (.cells us.toArray t)) π' st'.heap av (.pointer (some ⟨w.heap.size,0,none⟩)):=by
 unfold mkVar at he
 split at he
 ·cases he
 rename_i dp
 have h1:Bb X (Vr π l (some (Real.one w.heap.size 0 0))) (st.new l (.var t (cs.map (Cg l)))) a (w.alloc (.cells us.toArray t)):=by
  refine h.replace l (by omega) (some (Real.one w.heap.size 0 0)) (.var t (cs.map (Cg l))) (World.grownBy_alloc w _ _) (λr ix=>by cases ix;exact ⟨rfl, .inr (Ar _),by simp [Real.one]⟩) λm=>?_
  exact ⟨_,rfl,rfl,us.toArray,heap_alloc_new w _,m.SW (by simpa using hr)⟩
 obtain ⟨MG,h2,k2⟩:=gm (T:=T) l t τ cs.length 0 _ _ (by omega) h1
 dsimp only at he
 split at he
 ·rename_i tid vs hl
  unfold St.at at hl
  simp only [Aa,Ad] at he
  obtain ⟨rfl,rfl⟩:=he
  have:=(k2 ⟨tid,vs,hl⟩).2
  rw [Ft] at this
  exact ⟨MG,h2,_,tid,vs,hl,this,rfl⟩
 ·cases he
end
end Go.Proofs.Ytkkdpknjohcekaa
