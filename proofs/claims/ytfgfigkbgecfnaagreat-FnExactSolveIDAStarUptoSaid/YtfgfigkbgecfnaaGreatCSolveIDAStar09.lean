/-
  Part 10 of the proof that the statement FnExactSolveIDAStar holds.
-/
import Derived.Test.YtfgfigkbgecfnaaGreatCSolveIDAStar08
namespace Go.Proofs.YtfgfigkbgecfnaaGreat
open Go.RowKit
section
variable {P:Program} {T:Tab} {X:Ctx} {w w':World} {π:Pi} {H:List (Nat×OB)}
theorem Qg (w:World) (row:Option Nat):w.grownBy w row:=⟨rfl,rfl,rfl,Ao _,λ_ _ _=>rfl⟩
theorem HU (fr:Bool) {τ:Ty} (Uq:τ.Aq=false) (x:τ.den):Tc fr τ x= [.data fr τ x]:=by
 cases τ<;>first|rfl|simp [Ty.Aq] at Uq
theorem RI {S:Nat->Prop} {τ:Ty} {v:Value} {x:τ.den} (h:Cells w S τ [v] x):v.oneCell'=true:=Cells.plain τ [v] x h v (by simp)
theorem rO {fr:Bool} : ∀(τ:Ty) (us:List Value) (x:τ.den),Cells w (Dd X.w0.heap.size X.Sc π fr) τ us x->Fv X w π H (Tc fr τ x) us:=by
 have one: ∀(τ:Ty) (us:List Value) (x:τ.den),τ.Aq=false->Cells w (Dd X.w0.heap.size X.Sc π fr) τ us x->Fv X w π H (Tc fr τ x) us:=by
  intro τ us x Uq h
  rw [HU fr Uq]
  have hl:=Cells.len τ us x h
  have h1:τ.size=1:=by cases τ<;>simp_all [Ty.Aq,Ty.size]
  rw [h1] at hl
  obtain ⟨u,rfl⟩:=Dg.1 hl
  refine ⟨rfl,λi c hc=>?_⟩
  rcases i with _|i
  ·simp at hc;subst hc
   exact ⟨u,rfl,RI h,[u],h,by simp [Cf,Uq]⟩
  ·simp at hc
 intro τ
 induction τ with
 |unit=>intro us x h;simp only [Cells] at h;subst h;exact ⟨rfl,λi c hc=>by simp [Tc] at hc⟩
 |pair a r iX iR=>
  intro us x h
  simp only [Cells] at h
  obtain ⟨c1,c2,rfl,h1,h2⟩:=h
  have r1:=iX c1 x.1 h1
  have r2:=iR c2 x.2 h2
  refine ⟨by simp [Tc,r1.1,r2.1],λi c hc=>?_⟩
  simp only [Tc] at hc
  by_cases hi:i<(Tc fr a x.1).length
  ·rw [At hi] at hc
   obtain ⟨u,hu,h3⟩:=r1.2 i c hc
   exact ⟨u,by rw [At (by rw [r1.1];exact hi)];exact hu,h3⟩
  ·rw [As (by omega)] at hc
   obtain ⟨u,hu,h3⟩:=r2.2 _ c hc
   exact ⟨u,by rw [As (by rw [r1.1];omega),r1.1];exact hu,h3⟩
 |_=>exact λus x h=>one _ us x rfl h
theorem je {τ:Ty} {c:AV} {v:Value} {cs:List AC} (h:Bs X w π H c v) (hc:cellsOf τ c=some cs):
  ∃us:List Value,v.cells=us.toArray/\us.length=τ.size/\Fv X w π H cs us:=by
 have single: ∀a:AC,(if τ.Aq then none else some [a])=some cs->Hk X w π H a v->v.oneCell'=true->v.cells= #[v]-> ∃us:List Value,v.cells=us.toArray/\us.length=τ.size/\Fv X w π H cs us:=by
  intro a ha hr h1 h2
  split at ha
  ·cases ha
  ·rename_i hs
   simp only [Aa] at ha;subst ha
   simp only [Ir] at hs
   have h3:τ.size=1:=by cases τ<;>simp_all [Ty.Aq,Ty.size]
   refine ⟨[v],h2,by rw [h3];rfl,rfl,λi c hc=>?_⟩
   rcases i with _|i
   ·simp at hc;subst hc;exact ⟨v,rfl,h1,hr⟩
   ·simp at hc
 cases c with
 |agg ds=>
  simp only [cellsOf] at hc
  split at hc
  ·rename_i Ju
   simp only [Af,Xw] at Ju
   simp only [Aa] at hc;subst hc
   obtain ⟨us,rfl,hr⟩:=h
   exact ⟨us,rfl,by rw [hr.1,Ju.2],hr⟩
  ·cases hc
 |cf fr Oq x=>simp [cellsOf] at hc
 |Mn l=>simp [cellsOf] at hc
 | «at»a=>
  cases a with
  |data fr Oq x=>
   simp only [cellsOf] at hc
   split at hc
   ·rename_i ht;subst ht
    simp only [Aa] at hc;subst hc
    obtain ⟨us,h1,rfl⟩:=h
    exact ⟨us,Lc Oq us x h1,Cells.len Oq us x h1,rO Oq us x h1⟩
   ·cases hc
  |undef=>simp [cellsOf] at hc
  |skip=>simp [cellsOf] at hc
  |Lm=>have hv:v= .slice none 0 0:=h;exact single .Lm hc h (by rw [hv];rfl) (by rw [hv];rfl)
  |Vo=>have hv:v= .pointer none:=h;exact single .Vo hc h (by rw [hv];rfl) (by rw [hv];rfl)
  |own l off len=>
   have h':=h
   obtain ⟨b,sz,n,_,_,_,ho⟩:=h
   have hv: ∃a l c,v= .slice a l c:=by
    cases hp:π l with
    |none=>rw [hp] at ho;obtain ⟨rfl,_⟩:=ho;exact ⟨_,_,_,rfl⟩
    |some r=>rw [hp] at ho;obtain ⟨ad,rfl,_⟩:=ho;exact ⟨_,_,_,rfl⟩
   obtain ⟨a1,l1,c1,hv⟩:=hv
   exact single _ hc h' (by rw [hv];rfl) (by rw [hv];rfl)
  |Gy l i=>
   have h':=h
   obtain ⟨r,tid,vs,_,_,hv⟩:=h
   exact single _ hc h' (by rw [hv];rfl) (by rw [hv];rfl)
  |Kh l i=>
   have h':=h
   obtain ⟨r,b,sz,n,_,_,_,_,hv⟩:=h
   exact single _ hc h' (by rw [hv];rfl) (by rw [hv];rfl)
  |sub l i c0=>
   have h':=h
   obtain ⟨r,b,sz,n,_,_,_,_,⟨_,a,n,m,hv⟩,_⟩:=h
   exact single _ hc h' (by rw [hv];rfl) (by rw [hv];rfl)
  |Kd l i c0=>
   have h':=h
   obtain ⟨r,b,n,sz,g,o,len,cap,_,_,_,_,_,_,hv⟩:=h
   exact single _ hc h' (by rw [hv];rfl) (by rw [hv];rfl)
  |clo f Eg=>
   have h':=h
   obtain ⟨us,hv,_⟩:=h
   exact single _ hc h' (by rw [hv];rfl) (by rw [hv];rfl)
  |Kr l=>
   have h':=h
   obtain ⟨r,vt,m,_,_,hv⟩:=h
   exact single _ hc h' (by rw [hv];rfl) (by rw [hv];rfl)
theorem xb {vs cs:List AC} {us ns:List Value} (h:Fv X w π H vs us) (h2:Fv X w π H cs ns) (i:Nat) (hi:i+cs.length<=vs.length):
  Fv X w π H (Ea vs i cs) (Ea us i ns):=by
 have e1:=h.1
 have e2:=h2.1
 refine ⟨by simp [Ea,e1,e2],λj c hc=>?_⟩
 unfold Ea at hc⊢
 have t1:(vs.take i).length=i:=by simp;omega
 have t2:(us.take i).length=i:=by simp;omega
 by_cases h3:j<i
 ·rw [Dh,At (by omega),Da,Ab h3] at hc
  obtain ⟨u,hu,h4⟩:=h.2 j c hc
  exact ⟨u,by rw [Dh,At (by omega),Da,Ab h3];exact hu,h4⟩
 ·by_cases h4:j<i+cs.length
  ·rw [Dh,As (by omega),t1,At (by omega)] at hc
   obtain ⟨u,hu,h5⟩:=h2.2 _ c hc
   exact ⟨u,by rw [Dh,As (by omega),t2,At (by omega)];exact hu,h5⟩
  ·rw [As (by simp;omega),Cz] at hc
   obtain ⟨u,hu,h5⟩:=h.2 _ c hc
   refine ⟨u,?_,h5⟩
   rw [As (by simp;omega),Cz]
   rw [<-hu]
   congr 1
   simp
   omega
theorem Nw (w:World) (g:Nat) (cs:Array Value):w.grownBy (w.setRow g cs) (some g):=
 ⟨rfl,rfl,rfl,by simp,λk _ hk=>setRow_other w g k cs (λe=>hk (by rw [e]))⟩
theorem Xl {t:TypeId} {τ:Ty} (ht:q7 P T t τ) (g i:Nat) (v:Value) (us:List Value) (hv:v.cells=us.toArray) (hl:us.length=τ.size) (h1: ∀u∈us,u.oneCell'=true)
  (cur:Array Value) (tid:TypeId) (hg:w.heap[g]?=some (.cells cur tid (0,0))) (hle:i+us.length<=cur.size):
  (storeVar t ⟨g,i,none⟩ v).run P w= .ok () (w.setRow g (Ea cur.toList i us).toArray):=by
 unfold storeVar
 rw [hv]
 simp only [Sem.run_bind,ht.size,Result.andThen_ok,Gw,hl]
 have:=run_storeCells_at P g i tid us 0 cur w hg (by simpa using hle) h1
 simp only [Fk] at this
 simpa [Ea,hl] using this
def j4 (P:Program) (X:Ctx) (st':St) (a:Act) (w:World) (av:AV):Result Next->Prop
 | .ok (.value v) w'=> ∃π',Bk X π' st' a w'/\Bs X w' π' st'.heap av v
 | .ok .skip w'=> ∃π',Bk X π' st' a w'/\Bs X w' π' st'.heap av undef
 | .ok (.enter f args) w'=>w'=w/\Calls P f args w (λe sM=> ∃v,e= .returned v/\ ∃π',Bk X π' st' a sM/\Bs X sM π' st'.heap av v)
 |_=>False
theorem FE (hT:Ed P T) {st:St} {a:Act} (h:Bk X π st a w) {t:TypeId} {τ:Ty} (ht:T.ty t=some τ) {l i:Nat} {vp vx:Value} {x:AV} {tid:TypeId} {vs cs:List AC}
  (hp:Bs X w π st.heap (.at (.Gy l i)) vp) (hx:Bs X w π st.heap x vx) (hl:st.at l=some (.var tid vs)) (hc:cellsOf τ x=some cs) (hle:i+cs.length<=vs.length):
  ∃w',(Instr.storeAt t vp vx).run P w= .ok () w'/\Bk X π (st.Kc l (.var tid (Ea vs i cs))) a w':=by
 obtain ⟨r,Tm,vs',h1,h2,rfl⟩:=hp
 unfold St.at at hl
 rw [hl] at h1;cases h1
 obtain ⟨r',h3,h4,cur,h5,h6⟩:=(h.1.heap l).Qs hl
 rw [h2] at h3;cases h3
 obtain ⟨us,hv,hlu,hr⟩:=je hx hc
 have sW:us.length=cs.length:=hr.1
 have iP:cur.toList.length=vs.length:=h6.1
 have Ame: ∀u∈us,u.oneCell'=true:=by
  intro u hu
  obtain ⟨j,hj,rfl⟩:=Ry hu
  obtain ⟨u',ga,h7,_⟩:=hr.2 j cs[j] (Ac (by omega))
  rw [Ac hj] at ga
  simp only [Aa] at ga
  rw [ga];exact h7
 have Vl:=Xl (P:=P) (w:=w) (hT.ty _ _ ht) r.g i vx us hv hlu Ame cur tid h5 (by simp at iP;omega)
 refine ⟨_,by simp only [Instr.storeAt,Instr.sureAddr];simpa using Vl,?_⟩
 refine h.set hl (b:= .var tid (Ea vs i cs)) trivial (by rw [h2];exact Nw w r.g _) λm=>?_
 refine ⟨r,h2,h4,_,setRow_heap w r.g cur _ tid _ h5,?_⟩
 have m1:=m.acs h6
 have m2:=m.acs hr
 simp only [List.map_id'] at m1 m2
 exact xb m1 m2 i hle
theorem Wl {α:Type} : ∀(l:List α) (i:Nat) (x:α),Tj l i x=l.set i x
 | [],i,x=>by cases i<;>rfl
 |_::_,0,_=>rfl
 |y::r,n+1,x=>by simp [Tj,Wl r n x]
def UG (st:St) (l:Nat):Prop:= ∃tid vs,Au st.heap l=some (.var tid vs)
theorem jn (te:TypeId) (e:Ty) (w:World) (π:Pi) (H:List (Nat×OB)):Cm X w π H none (eM T te e):=by
 unfold eM
 split
 ·exact ⟨rfl,trivial⟩
 ·rfl
theorem o8 (te:TypeId) (e:Ty): ∃sz,(eM T te e).row=some (sz,0):=by
 unfold eM
 split<;>exact ⟨_,rfl⟩
theorem jX {st:St} {a:Act} (h:Bk X π st a w) {b:OB} (hb0: ∀(w:World) (π:Pi) (H:List (Nat×OB)),Cm X w π H none b) {sz:Nat} (La:b.row=some (sz,0)) (key l i:Nat) (Acm:key<Bn):
  ∃π',Bk X π' (Vp b key l i st) a w/\(UG (Vp b key l i st) l->UG st l/\π' l=π l):=by
 unfold Vp
 split
 ·rename_i tid vs hl
  split
  ·rename_i hi
   have h1:=h.replace (w':=w) key Acm none b (Qg w _) (λr hr=>by cases hr) (λ_=>hb0 _ _ _)
   dsimp only
   unfold St.at at hl
   split
   ·rename_i Tm vs' Kp
    unfold St.at at Kp
    have Rz:key≠l:=by
     intro e
     subst e
     rw [St.Hc] at Kp
     cases Kp
     cases La
    refine ⟨_,h1.set Kp (b:= .var Tm (Tj vs' i (.own key 0 0))) trivial (Qg w _) λm=>?_,λ_=>⟨⟨tid,vs,hl⟩,Gp π none (Gl Rz)⟩⟩
    obtain ⟨r,h3,h4,cur,h5,h6⟩:=(h1.1.heap l).Qs Kp
    have m1:=m.acs h6
    simp only [List.map_id'] at m1
    refine ⟨r,h3,h4,cur,h5,?_⟩
    have Ih:=St.aI st key l b (Gl Rz)
    rw [hl,Kp] at Ih
    simp only [Am,Aa,OB.map,OB.var.injEq] at Ih
    obtain ⟨rfl,rfl⟩:=Ih
    refine ⟨by rw [aN];exact m1.1,λj c hc=>?_⟩
    rw [Wl,Fo] at hc
    split at hc
    ·rename_i jC;subst jC
     split at hc
     ·simp only [Aa] at hc;subst hc
      obtain ⟨u,hu,XR,II⟩:=m1.2 i (.Lm) (by rw [Fm,hi];rfl)
      refine ⟨u,hu,XR,b,sz,0,?_,La,Ao _,?_⟩
      ·rw [show Au ((st.new key b).Kc l _).heap key=Au (st.new key b).heap key from Ee _ _ _ _ Rz]
       exact St.Hc st key _
      ·rw [Gr];exact ⟨II,rfl,rfl⟩
     ·cases hc
    ·exact m1.2 j c hc
   ·rename_i hno
    refine ⟨_,h1,λ⟨t1,v1,hv⟩=>?_⟩
    exact absurd hv (hno t1 v1)
  ·unfold St.at at hl
   exact ⟨_,h,λhv=>⟨hv,rfl⟩⟩
 ·exact ⟨_,h,λhv=>⟨hv,rfl⟩⟩
theorem jY (l:Nat) (t:TypeId) (τ:Ty) {a:Act} : ∀(n i:Nat) (st:St) (π:Pi),100000+l*100+i+n<Bn->Bk X π st a w->
  ∃π',Bk X π' (gz T l t τ n i st) a w/\(UG (gz T l t τ n i st) l->UG st l/\π' l=π l)
 |0,i,st,π,_,h=>⟨π,h,λhv=>⟨hv,rfl⟩⟩
 |n+1,i,st,π,Iz,h=>by
  unfold gz
  split
  ·rename_i te e _
   obtain ⟨sz,La⟩:=o8 (T:=T) te e
   obtain ⟨cY,h1,k1⟩:=jX h (jn te e) La (100000+l*100+i) l i (by omega)
   obtain ⟨π2,h2,k2⟩:=jY l t τ n (i+1) _ cY (by omega) h1
   exact ⟨π2,h2,λhv=>⟨(k1 (k2 hv).1).1,(k2 hv).2.trans (k1 (k2 hv).1).2⟩⟩
  ·obtain ⟨π2,h2,k2⟩:=jY l t τ n (i+1) _ π (by omega) h
   exact ⟨π2,h2,k2⟩
theorem gA (l off:Nat) (t:TypeId) (τ:Ty) {a:Act} : ∀(n i:Nat) (st:St) (π:Pi),100000+l*100+(off+i+n)<Bn->Bk X π st a w-> ∃π',Bk X π' (fk T l off t τ n i st) a w
 |0,i,st,π,_,h=>⟨π,h⟩
 |n+1,i,st,π,Iz,h=>by
  unfold fk
  split
  ·rename_i te e _
   obtain ⟨cY,h1,_⟩:=jX h (jn te e) (o8 (T:=T) te e).choose_spec (100000+l*100+(off+i)) l (off+i) (by omega)
   exact gA l off t τ n (i+1) _ cY (by omega) h1
  ·exact gA l off t τ n (i+1) _ π (by omega) h
theorem DI {st:St} {a:Act} (h:Bk X π st a w) (l:Nat) (t:TypeId) (cs:List AC) (us:List Value) (hr:Fv X w π st.heap cs us) (av:AV) (st':St)
  (he:w6 st l t cs=some (av,st')):
  ∃π',Bk X π' st' a (w.alloc (.cells us.toArray t))/\Bs X (w.alloc (.cells us.toArray t)) π' st'.heap av (.pointer (some ⟨w.heap.size,0,none⟩)):=by
 unfold w6 at he
 split at he
 ·cases he
 rename_i aC
 simp only [Aa,Ae] at he
 obtain ⟨rfl,rfl⟩:=he
 have h1:Bk X (Xt π l (some (Real.one w.heap.size 0 0))) (st.new l (.var t (cs.map (Cs l)))) a (w.alloc (.cells us.toArray t)):=by
  refine h.replace l (by omega) (some (Real.one w.heap.size 0 0)) (.var t (cs.map (Cs l))) (World.grownBy_alloc w _ _) (λr eE=>by cases eE;exact ⟨rfl, .inr (Ao _),by simp [Real.one]⟩) λm=>?_
  exact ⟨_,rfl,rfl,us.toArray,heap_alloc_new w _,m.acs (by simpa using hr)⟩
 exact ⟨_,h1,_,t,_,St.Hc ..,Gr ..,rfl⟩
theorem jR {st:St} {a:Act} (h:Bk X π st a w) (l:Nat) (t:TypeId) (τ:Ty) (cs:List AC) (us:List Value) (hr:Fv X w π st.heap cs us) (av:AV) (st':St)
  (he:mkVar T st l t τ cs=some (av,st')):
  ∃π',Bk X π' st' a (w.alloc (.cells us.toArray t))/\Bs X (w.alloc (.cells us.toArray t)) π' st'.heap av (.pointer (some ⟨w.heap.size,0,none⟩)):=by
 unfold mkVar at he
 split at he
 ·cases he
 rename_i aC
 have h1:Bk X (Xt π l (some (Real.one w.heap.size 0 0))) (st.new l (.var t (cs.map (Cs l)))) a (w.alloc (.cells us.toArray t)):=by
  refine h.replace l (by omega) (some (Real.one w.heap.size 0 0)) (.var t (cs.map (Cs l))) (World.grownBy_alloc w _ _) (λr eE=>by cases eE;exact ⟨rfl, .inr (Ao _),by simp [Real.one]⟩) λm=>?_
  exact ⟨_,rfl,rfl,us.toArray,heap_alloc_new w _,m.acs (by simpa using hr)⟩
 obtain ⟨π2,h2,k2⟩:=jY (T:=T) l t τ cs.length 0 _ _ (by omega) h1
 dsimp only at he
 split at he
 ·rename_i tid vs hl
  unfold St.at at hl
  simp only [Aa,Ae] at he
  obtain ⟨rfl,rfl⟩:=he
  have:=(k2 ⟨tid,vs,hl⟩).2
  rw [Gr] at this
  exact ⟨π2,h2,_,tid,vs,hl,this,rfl⟩
 ·cases he
end
end Go.Proofs.YtfgfigkbgecfnaaGreat
