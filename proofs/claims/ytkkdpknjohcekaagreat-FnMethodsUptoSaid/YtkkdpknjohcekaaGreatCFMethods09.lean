/-
  Part 10 of the proof that the statement FnMethods holds.
-/
import Derived.Test.YtkkdpknjohcekaaGreatCFMethods08
namespace Go.Proofs.YtkkdpknjohcekaaGreat
open Go.RowKit
section
variable {P:Program} {T:Tab} {X:Ctx} {w w':World} {π:Pi} {H:List (Nat×OB)}
theorem Qi (w:World) (row:Option Nat):w.grownBy w row:=⟨rfl,rfl,rfl,Aq _,λ_ _ _=>rfl⟩
theorem FG (fr:Bool) {τ:Ty} (Um:τ.Ar=false) (x:τ.den):Td fr τ x= [.data fr τ x]:=by
 cases τ<;>first|rfl|simp [Ty.Ar] at Um
theorem NI {S:Nat->Prop} {τ:Ty} {v:Value} {x:τ.den} (h:Cells w S τ [v] x):v.oneCell'=true:=Cells.plain τ [v] x h v (by simp)
theorem qG {fr:Bool} : ∀(τ:Ty) (us:List Value) (x:τ.den),Cells w (Dc X.w0.heap.size X.Sc π fr) τ us x->Gv X w π H (Td fr τ x) us:=by
 have one: ∀(τ:Ty) (us:List Value) (x:τ.den),τ.Ar=false->Cells w (Dc X.w0.heap.size X.Sc π fr) τ us x->Gv X w π H (Td fr τ x) us:=by
  intro τ us x Um h
  rw [FG fr Um]
  have hl:=Cells.len τ us x h
  have h1:τ.size=1:=by cases τ<;>simp_all [Ty.Ar,Ty.size]
  rw [h1] at hl
  obtain ⟨u,rfl⟩:=En.1 hl
  refine ⟨rfl,λi c hc=>?_⟩
  rcases i with _|i
  ·simp at hc;subst hc
   exact ⟨u,rfl,NI h,[u],h,by simp [Ce,Um]⟩
  ·simp at hc
 intro τ
 induction τ with
 |unit=>intro us x h;simp only [Cells] at h;subst h;exact ⟨rfl,λi c hc=>by simp [Td] at hc⟩
 |pair a r iC iw=>
  intro us x h
  simp only [Cells] at h
  obtain ⟨c1,c2,rfl,h1,h2⟩:=h
  have r1:=iC c1 x.1 h1
  have r2:=iw c2 x.2 h2
  refine ⟨by simp [Td,r1.1,r2.1],λi c hc=>?_⟩
  simp only [Td] at hc
  by_cases hi:i<(Td fr a x.1).length
  ·rw [At hi] at hc
   obtain ⟨u,hu,h3⟩:=r1.2 i c hc
   exact ⟨u,by rw [At (by rw [r1.1];exact hi)];exact hu,h3⟩
  ·rw [As (by omega)] at hc
   obtain ⟨u,hu,h3⟩:=r2.2 _ c hc
   exact ⟨u,by rw [As (by rw [r1.1];omega),r1.1];exact hu,h3⟩
 |_=>exact λus x h=>one _ us x rfl h
theorem iQ {τ:Ty} {c:AV} {v:Value} {cs:List AC} (h:Bs X w π H c v) (hc:cellsOf τ c=some cs):
  ∃us:List Value,v.cells=us.toArray/\us.length=τ.size/\Gv X w π H cs us:=by
 have single: ∀a:AC,(if τ.Ar then none else some [a])=some cs->Iq X w π H a v->v.oneCell'=true->v.cells= #[v]-> ∃us:List Value,v.cells=us.toArray/\us.length=τ.size/\Gv X w π H cs us:=by
  intro a ha hr h1 h2
  split at ha
  ·cases ha
  ·rename_i hs
   simp only [Aa] at ha;subst ha
   simp only [Fc] at hs
   have h3:τ.size=1:=by cases τ<;>simp_all [Ty.Ar,Ty.size]
   refine ⟨[v],h2,by rw [h3];rfl,rfl,λi c hc=>?_⟩
   rcases i with _|i
   ·simp at hc;subst hc;exact ⟨v,rfl,h1,hr⟩
   ·simp at hc
 cases c with
 |agg ds=>
  simp only [cellsOf] at hc
  split at hc
  ·rename_i Kt
   simp only [Ah,Xt] at Kt
   simp only [Aa] at hc;subst hc
   obtain ⟨us,rfl,hr⟩:=h
   exact ⟨us,rfl,by rw [hr.1,Kt.2],hr⟩
  ·cases hc
 |bH fr Pj x=>simp [cellsOf] at hc
 |Nr l=>simp [cellsOf] at hc
 | «at»a=>
  cases a with
  |data fr Pj x=>
   simp only [cellsOf] at hc
   split at hc
   ·rename_i ht;subst ht
    simp only [Aa] at hc;subst hc
    obtain ⟨us,h1,rfl⟩:=h
    exact ⟨us,Ly Pj us x h1,Cells.len Pj us x h1,qG Pj us x h1⟩
   ·cases hc
  |undef=>simp [cellsOf] at hc
  |skip=>simp [cellsOf] at hc
  |Mx=>have hv:v= .slice none 0 0:=h;exact single .Mx hc h (by rw [hv];rfl) (by rw [hv];rfl)
  |Wh=>have hv:v= .pointer none:=h;exact single .Wh hc h (by rw [hv];rfl) (by rw [hv];rfl)
  |own l off len=>
   have h':=h
   obtain ⟨b,sz,n,_,_,_,ho⟩:=h
   have hv: ∃a l c,v= .slice a l c:=by
    cases hp:π l with
    |none=>rw [hp] at ho;obtain ⟨rfl,_⟩:=ho;exact ⟨_,_,_,rfl⟩
    |some r=>rw [hp] at ho;obtain ⟨ad,rfl,_⟩:=ho;exact ⟨_,_,_,rfl⟩
   obtain ⟨a1,l1,c1,hv⟩:=hv
   exact single _ hc h' (by rw [hv];rfl) (by rw [hv];rfl)
  |Ii l i=>
   have h':=h
   obtain ⟨r,tid,vs,_,_,hv⟩:=h
   exact single _ hc h' (by rw [hv];rfl) (by rw [hv];rfl)
  |Ld l i=>
   have h':=h
   obtain ⟨r,b,sz,n,_,_,_,_,hv⟩:=h
   exact single _ hc h' (by rw [hv];rfl) (by rw [hv];rfl)
  |sub l i c0=>
   have h':=h
   obtain ⟨r,b,sz,n,_,_,_,_,⟨_,a,n,m,hv⟩,_⟩:=h
   exact single _ hc h' (by rw [hv];rfl) (by rw [hv];rfl)
  |Ky l i c0=>
   have h':=h
   obtain ⟨r,b,n,sz,g,o,len,cap,_,_,_,_,_,_,hv⟩:=h
   exact single _ hc h' (by rw [hv];rfl) (by rw [hv];rfl)
  |clo f Ev=>
   have h':=h
   obtain ⟨us,hv,_⟩:=h
   exact single _ hc h' (by rw [hv];rfl) (by rw [hv];rfl)
  |Lk l=>
   have h':=h
   obtain ⟨r,vt,m,_,_,hv⟩:=h
   exact single _ hc h' (by rw [hv];rfl) (by rw [hv];rfl)
theorem vB {vs cs:List AC} {us ns:List Value} (h:Gv X w π H vs us) (h2:Gv X w π H cs ns) (i:Nat) (hi:i+cs.length<=vs.length):
  Gv X w π H (Dt vs i cs) (Dt us i ns):=by
 have e1:=h.1
 have e2:=h2.1
 refine ⟨by simp [Dt,e1,e2],λj c hc=>?_⟩
 unfold Dt at hc⊢
 have t1:(vs.take i).length=i:=by simp;omega
 have t2:(us.take i).length=i:=by simp;omega
 by_cases h3:j<i
 ·rw [Bm,At (by omega),Cv,Ab h3] at hc
  obtain ⟨u,hu,h4⟩:=h.2 j c hc
  exact ⟨u,by rw [Bm,At (by omega),Cv,Ab h3];exact hu,h4⟩
 ·by_cases h4:j<i+cs.length
  ·rw [Bm,As (by omega),t1,At (by omega)] at hc
   obtain ⟨u,hu,h5⟩:=h2.2 _ c hc
   exact ⟨u,by rw [Bm,As (by omega),t2,At (by omega)];exact hu,h5⟩
  ·rw [As (by simp;omega),Cz] at hc
   obtain ⟨u,hu,h5⟩:=h.2 _ c hc
   refine ⟨u,?_,h5⟩
   rw [As (by simp;omega),Cz]
   rw [<-hu]
   congr 1
   simp
   omega
theorem Om (w:World) (g:Nat) (cs:Array Value):w.grownBy (w.setRow g cs) (some g):=
 ⟨rfl,rfl,rfl,by simp,λk _ hk=>setRow_other w g k cs (λe=>hk (by rw [e]))⟩
theorem Xg {t:TypeId} {τ:Ty} (ht:ph P T t τ) (g i:Nat) (v:Value) (us:List Value) (hv:v.cells=us.toArray) (hl:us.length=τ.size) (h1: ∀u∈us,u.oneCell'=true)
  (cur:Array Value) (tid:TypeId) (hg:w.heap[g]?=some (.cells cur tid (0,0))) (hle:i+us.length<=cur.size):
  (storeVar t ⟨g,i,none⟩ v).run P w= .ok () (w.setRow g (Dt cur.toList i us).toArray):=by
 unfold storeVar
 rw [hv]
 simp only [Sem.run_bind,ht.size,Result.andThen_ok,Gz,hl]
 have:=run_storeCells_at P g i tid us 0 cur w hg (by simpa using hle) h1
 simp only [Eo] at this
 simpa [Dt,hl] using this
def iF (P:Program) (X:Ctx) (st':St) (a:Act) (w:World) (av:AV):Result Next->Prop
 | .ok (.value v) w'=> ∃π',Bh X π' st' a w'/\Bs X w' π' st'.heap av v
 | .ok .skip w'=> ∃π',Bh X π' st' a w'/\Bs X w' π' st'.heap av undef
 | .ok (.enter f args) w'=>w'=w/\Calls P f args w (λe rG=> ∃v,e= .returned v/\ ∃π',Bh X π' st' a rG/\Bs X rG π' st'.heap av v)
 |_=>False
theorem CN (hT:Ep P T) {st:St} {a:Act} (h:Bh X π st a w) {t:TypeId} {τ:Ty} (ht:T.ty t=some τ) {l i:Nat} {vp vx:Value} {x:AV} {tid:TypeId} {vs cs:List AC}
  (hp:Bs X w π st.heap (.at (.Ii l i)) vp) (hx:Bs X w π st.heap x vx) (hl:st.at l=some (.var tid vs)) (hc:cellsOf τ x=some cs) (hle:i+cs.length<=vs.length):
  ∃w',(Instr.storeAt t vp vx).run P w= .ok () w'/\Bh X π (st.Kx l (.var tid (Dt vs i cs))) a w':=by
 obtain ⟨r,Vo,vs',h1,h2,rfl⟩:=hp
 unfold St.at at hl
 rw [hl] at h1;cases h1
 obtain ⟨r',h3,h4,cur,h5,h6⟩:=(h.1.heap l).Sl hl
 rw [h2] at h3;cases h3
 obtain ⟨us,hv,hlu,hr⟩:=iQ hx hc
 have tF:us.length=cs.length:=hr.1
 have iq:cur.toList.length=vs.length:=h6.1
 have Ak7: ∀u∈us,u.oneCell'=true:=by
  intro u hu
  obtain ⟨j,hj,rfl⟩:=Ol hu
  obtain ⟨u',iv,h7,_⟩:=hr.2 j cs[j] (Ac (by omega))
  rw [Ac hj] at iv
  simp only [Aa] at iv
  rw [iv];exact h7
 have Wg:=Xg (P:=P) (w:=w) (hT.ty _ _ ht) r.g i vx us hv hlu Ak7 cur tid h5 (by simp at iq;omega)
 refine ⟨_,by simp only [Instr.storeAt,Instr.sureAddr];simpa using Wg,?_⟩
 refine h.set hl (b:= .var tid (Dt vs i cs)) trivial (by rw [h2];exact Om w r.g _) λm=>?_
 refine ⟨r,h2,h4,_,setRow_heap w r.g cur _ tid _ h5,?_⟩
 have m1:=m.acs h6
 have m2:=m.acs hr
 simp only [List.map_id'] at m1 m2
 exact vB m1 m2 i hle
theorem We {α:Type} : ∀(l:List α) (i:Nat) (x:α),Tk l i x=l.set i x
 | [],i,x=>by cases i<;>rfl
 |_::_,0,_=>rfl
 |y::r,n+1,x=>by simp [Tk,We r n x]
def QR (st:St) (l:Nat):Prop:= ∃tid vs,Av st.heap l=some (.var tid vs)
theorem j0 (te:TypeId) (e:Ty) (w:World) (π:Pi) (H:List (Nat×OB)):Cl X w π H none (ee T te e):=by
 unfold ee
 split
 ·exact ⟨rfl,trivial⟩
 ·rfl
theorem nD (te:TypeId) (e:Ty): ∃sz,(ee T te e).row=some (sz,0):=by
 unfold ee
 split<;>exact ⟨_,rfl⟩
theorem jz {st:St} {a:Act} (h:Bh X π st a w) {b:OB} (hb0: ∀(w:World) (π:Pi) (H:List (Nat×OB)),Cl X w π H none b) {sz:Nat} (Yq:b.row=some (sz,0)) (key l i:Nat) (MD:key<Bk):
  ∃π',Bh X π' (Vh b key l i st) a w/\(QR (Vh b key l i st) l->QR st l/\π' l=π l):=by
 unfold Vh
 split
 ·rename_i tid vs hl
  split
  ·rename_i hi
   have h1:=h.replace (w':=w) key MD none b (Qi w _) (λr hr=>by cases hr) (λ_=>hb0 _ _ _)
   dsimp only
   unfold St.at at hl
   split
   ·rename_i Vo vs' Lq
    unfold St.at at Lq
    have Pf:key≠l:=by
     intro e
     subst e
     rw [St.Ht] at Lq
     cases Lq
     cases Yq
    refine ⟨_,h1.set Lq (b:= .var Vo (Tk vs' i (.own key 0 0))) trivial (Qi w _) λm=>?_,λ_=>⟨⟨tid,vs,hl⟩,Hg π none (Hv Pf)⟩⟩
    obtain ⟨r,h3,h4,cur,h5,h6⟩:=(h1.1.heap l).Sl Lq
    have m1:=m.acs h6
    simp only [List.map_id'] at m1
    refine ⟨r,h3,h4,cur,h5,?_⟩
    have Jd:=St.ah st key l b (Hv Pf)
    rw [hl,Lq] at Jd
    simp only [An,Aa,OB.map,OB.var.injEq] at Jd
    obtain ⟨rfl,rfl⟩:=Jd
    refine ⟨by rw [ar];exact m1.1,λj c hc=>?_⟩
    rw [We,Ex] at hc
    split at hc
    ·rename_i kA;subst kA
     split at hc
     ·simp only [Aa] at hc;subst hc
      obtain ⟨u,hu,UK,xG⟩:=m1.2 i (.Mx) (by rw [Fo,hi];rfl)
      refine ⟨u,hu,UK,b,sz,0,?_,Yq,Aq _,?_⟩
      ·rw [show Av ((st.new key b).Kx l _).heap key=Av (st.new key b).heap key from El _ _ _ _ Pf]
       exact St.Ht st key _
      ·rw [Hk];exact ⟨xG,rfl,rfl⟩
     ·cases hc
    ·exact m1.2 j c hc
   ·rename_i hno
    refine ⟨_,h1,λ⟨t1,v1,hv⟩=>?_⟩
    exact absurd hv (hno t1 v1)
  ·unfold St.at at hl
   exact ⟨_,h,λhv=>⟨hv,rfl⟩⟩
 ·exact ⟨_,h,λhv=>⟨hv,rfl⟩⟩
theorem jA (l:Nat) (t:TypeId) (τ:Ty) {a:Act} : ∀(n i:Nat) (st:St) (π:Pi),100000+l*100+i+n<Bk->Bh X π st a w->
  ∃π',Bh X π' (fT T l t τ n i st) a w/\(QR (fT T l t τ n i st) l->QR st l/\π' l=π l)
 |0,i,st,π,_,h=>⟨π,h,λhv=>⟨hv,rfl⟩⟩
 |n+1,i,st,π,Me,h=>by
  unfold fT
  split
  ·rename_i te e _
   obtain ⟨sz,Yq⟩:=nD (T:=T) te e
   obtain ⟨cG,h1,k1⟩:=jz h (j0 te e) Yq (100000+l*100+i) l i (by omega)
   obtain ⟨YF,h2,k2⟩:=jA l t τ n (i+1) _ cG (by omega) h1
   exact ⟨YF,h2,λhv=>⟨(k1 (k2 hv).1).1,(k2 hv).2.trans (k1 (k2 hv).1).2⟩⟩
  ·obtain ⟨YF,h2,k2⟩:=jA l t τ n (i+1) _ π (by omega) h
   exact ⟨YF,h2,k2⟩
theorem fU (l off:Nat) (t:TypeId) (τ:Ty) {a:Act} : ∀(n i:Nat) (st:St) (π:Pi),100000+l*100+(off+i+n)<Bk->Bh X π st a w-> ∃π',Bh X π' (eK T l off t τ n i st) a w
 |0,i,st,π,_,h=>⟨π,h⟩
 |n+1,i,st,π,Me,h=>by
  unfold eK
  split
  ·rename_i te e _
   obtain ⟨cG,h1,_⟩:=jz h (j0 te e) (nD (T:=T) te e).choose_spec (100000+l*100+(off+i)) l (off+i) (by omega)
   exact fU l off t τ n (i+1) _ cG (by omega) h1
  ·exact fU l off t τ n (i+1) _ π (by omega) h
theorem AN {st:St} {a:Act} (h:Bh X π st a w) (l:Nat) (t:TypeId) (cs:List AC) (us:List Value) (hr:Gv X w π st.heap cs us) (av:AV) (st':St)
  (he:uk st l t cs=some (av,st')):
  ∃π',Bh X π' st' a (w.alloc (.cells us.toArray t))/\Bs X (w.alloc (.cells us.toArray t)) π' st'.heap av (.pointer (some ⟨w.heap.size,0,none⟩)):=by
 unfold uk at he
 split at he
 ·cases he
 rename_i dF
 simp only [Aa,Af] at he
 obtain ⟨rfl,rfl⟩:=he
 have h1:Bh X (Xo π l (some (Real.one w.heap.size 0 0))) (st.new l (.var t (cs.map (Cs l)))) a (w.alloc (.cells us.toArray t)):=by
  refine h.replace l (by omega) (some (Real.one w.heap.size 0 0)) (.var t (cs.map (Cs l))) (World.grownBy_alloc w _ _) (λr kW=>by cases kW;exact ⟨rfl, .inr (Aq _),by simp [Real.one]⟩) λm=>?_
  exact ⟨_,rfl,rfl,us.toArray,heap_alloc_new w _,m.acs (by simpa using hr)⟩
 exact ⟨_,h1,_,t,_,St.Ht ..,Hk ..,rfl⟩
theorem r7 {st:St} {a:Act} (h:Bh X π st a w) (l:Nat) (t:TypeId) (τ:Ty) (cs:List AC) (us:List Value) (hr:Gv X w π st.heap cs us) (av:AV) (st':St)
  (he:mkVar T st l t τ cs=some (av,st')):
  ∃π',Bh X π' st' a (w.alloc (.cells us.toArray t))/\Bs X (w.alloc (.cells us.toArray t)) π' st'.heap av (.pointer (some ⟨w.heap.size,0,none⟩)):=by
 unfold mkVar at he
 split at he
 ·cases he
 rename_i dF
 have h1:Bh X (Xo π l (some (Real.one w.heap.size 0 0))) (st.new l (.var t (cs.map (Cs l)))) a (w.alloc (.cells us.toArray t)):=by
  refine h.replace l (by omega) (some (Real.one w.heap.size 0 0)) (.var t (cs.map (Cs l))) (World.grownBy_alloc w _ _) (λr kW=>by cases kW;exact ⟨rfl, .inr (Aq _),by simp [Real.one]⟩) λm=>?_
  exact ⟨_,rfl,rfl,us.toArray,heap_alloc_new w _,m.acs (by simpa using hr)⟩
 obtain ⟨YF,h2,k2⟩:=jA (T:=T) l t τ cs.length 0 _ _ (by omega) h1
 dsimp only at he
 split at he
 ·rename_i tid vs hl
  unfold St.at at hl
  simp only [Aa,Af] at he
  obtain ⟨rfl,rfl⟩:=he
  have:=(k2 ⟨tid,vs,hl⟩).2
  rw [Hk] at this
  exact ⟨YF,h2,_,tid,vs,hl,this,rfl⟩
 ·cases he
end
end Go.Proofs.YtkkdpknjohcekaaGreat
