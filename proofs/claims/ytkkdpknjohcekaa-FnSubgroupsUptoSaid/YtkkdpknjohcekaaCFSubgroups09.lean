/-
  Part 10 of the proof that the statement FnSubgroups holds.
-/
import Derived.Test.YtkkdpknjohcekaaCFSubgroups08
namespace Go.Proofs.Ytkkdpknjohcekaa
open Go.RowKit
section
variable {P:Program} {T:Tab} {X:Ctx} {w w':World} {π:Pi} {H:List (Nat×OB)}
theorem Pj (w:World) (row:Option Nat):w.grownBy w row:=⟨rfl,rfl,rfl,Aq _,λ_ _ _=>rfl⟩
theorem ER (fr:Bool) {τ:Ty} (Ts:τ.Ap=false) (x:τ.den):Sa fr τ x= [.data fr τ x]:=by
 cases τ<;>first|rfl|simp [Ty.Ap] at Ts
theorem MX {S:Nat->Prop} {τ:Ty} {v:Value} {x:τ.den} (h:Cells w S τ [v] x):v.oneCell'=true:=Cells.plain τ [v] x h v (by simp)
theorem qE {fr:Bool} : ∀(τ:Ty) (us:List Value) (x:τ.den),Cells w (De X.w0.heap.size X.Sc π fr) τ us x->Fw X w π H (Sa fr τ x) us:=by
 have one: ∀(τ:Ty) (us:List Value) (x:τ.den),τ.Ap=false->Cells w (De X.w0.heap.size X.Sc π fr) τ us x->Fw X w π H (Sa fr τ x) us:=by
  intro τ us x Ts h
  rw [ER fr Ts]
  have hl:=Cells.len τ us x h
  have h1:τ.size=1:=by cases τ<;>simp_all [Ty.Ap,Ty.size]
  rw [h1] at hl
  obtain ⟨u,rfl⟩:=Eh.1 hl
  refine ⟨rfl,λi c hc=>?_⟩
  rcases i with _|i
  ·simp at hc;subst hc
   exact ⟨u,rfl,MX h,[u],h,by simp [Ce,Ts]⟩
  ·simp at hc
 intro τ
 induction τ with
 |unit=>intro us x h;simp only [Cells] at h;subst h;exact ⟨rfl,λi c hc=>by simp [Sa] at hc⟩
 |pair a r iq ie=>
  intro us x h
  simp only [Cells] at h
  obtain ⟨c1,c2,rfl,h1,h2⟩:=h
  have r1:=iq c1 x.1 h1
  have r2:=ie c2 x.2 h2
  refine ⟨by simp [Sa,r1.1,r2.1],λi c hc=>?_⟩
  simp only [Sa] at hc
  by_cases hi:i<(Sa fr a x.1).length
  ·rw [At hi] at hc
   obtain ⟨u,hu,h3⟩:=r1.2 i c hc
   exact ⟨u,by rw [At (by rw [r1.1];exact hi)];exact hu,h3⟩
  ·rw [As (by omega)] at hc
   obtain ⟨u,hu,h3⟩:=r2.2 _ c hc
   exact ⟨u,by rw [As (by rw [r1.1];omega),r1.1];exact hu,h3⟩
 |_=>exact λus x h=>one _ us x rfl h
theorem iJ {τ:Ty} {c:AV} {v:Value} {cs:List AC} (h:Bq X w π H c v) (hc:cellsOf τ c=some cs):
  ∃us:List Value,v.cells=us.toArray/\us.length=τ.size/\Fw X w π H cs us:=by
 have single: ∀a:AC,(if τ.Ap then none else some [a])=some cs->Hj X w π H a v->v.oneCell'=true->v.cells= #[v]-> ∃us:List Value,v.cells=us.toArray/\us.length=τ.size/\Fw X w π H cs us:=by
  intro a ha hr h1 h2
  split at ha
  ·cases ha
  ·rename_i hs
   simp only [Aa] at ha;subst ha
   simp only [Fa] at hs
   have h3:τ.size=1:=by cases τ<;>simp_all [Ty.Ap,Ty.size]
   refine ⟨[v],h2,by rw [h3];rfl,rfl,λi c hc=>?_⟩
   rcases i with _|i
   ·simp at hc;subst hc;exact ⟨v,rfl,h1,hr⟩
   ·simp at hc
 cases c with
 |agg ds=>
  simp only [cellsOf] at hc
  split at hc
  ·rename_i Jk
   simp only [Ai,aD] at Jk
   simp only [Aa] at hc;subst hc
   obtain ⟨us,rfl,hr⟩:=h
   exact ⟨us,rfl,by rw [hr.1,Jk.2],hr⟩
  ·cases hc
 |bp fr Nv x=>simp [cellsOf] at hc
 |Mn l=>simp [cellsOf] at hc
 | «at»a=>
  cases a with
  |data fr Nv x=>
   simp only [cellsOf] at hc
   split at hc
   ·rename_i ht;subst ht
    simp only [Aa] at hc;subst hc
    obtain ⟨us,h1,rfl⟩:=h
    exact ⟨us,Kw Nv us x h1,Cells.len Nv us x h1,qE Nv us x h1⟩
   ·cases hc
  |undef=>simp [cellsOf] at hc
  |skip=>simp [cellsOf] at hc
  |Lp=>have hv:v= .slice none 0 0:=h;exact single .Lp hc h (by rw [hv];rfl) (by rw [hv];rfl)
  |Vp=>have hv:v= .pointer none:=h;exact single .Vp hc h (by rw [hv];rfl) (by rw [hv];rfl)
  |own l off len=>
   have h':=h
   obtain ⟨b,sz,n,_,_,_,ho⟩:=h
   have hv: ∃a l c,v= .slice a l c:=by
    cases hp:π l with
    |none=>rw [hp] at ho;obtain ⟨rfl,_⟩:=ho;exact ⟨_,_,_,rfl⟩
    |some r=>rw [hp] at ho;obtain ⟨ad,rfl,_⟩:=ho;exact ⟨_,_,_,rfl⟩
   obtain ⟨a1,l1,c1,hv⟩:=hv
   exact single _ hc h' (by rw [hv];rfl) (by rw [hv];rfl)
  |He l i=>
   have h':=h
   obtain ⟨r,tid,vs,_,_,hv⟩:=h
   exact single _ hc h' (by rw [hv];rfl) (by rw [hv];rfl)
  |Jv l i=>
   have h':=h
   obtain ⟨r,b,sz,n,_,_,_,_,hv⟩:=h
   exact single _ hc h' (by rw [hv];rfl) (by rw [hv];rfl)
  |sub l i c0=>
   have h':=h
   obtain ⟨r,b,sz,n,_,_,_,_,⟨_,a,n,m,hv⟩,_⟩:=h
   exact single _ hc h' (by rw [hv];rfl) (by rw [hv];rfl)
  |Js l i c0=>
   have h':=h
   obtain ⟨r,b,n,sz,g,o,len,cap,_,_,_,_,_,_,hv⟩:=h
   exact single _ hc h' (by rw [hv];rfl) (by rw [hv];rfl)
  |clo f Ek=>
   have h':=h
   obtain ⟨us,hv,_⟩:=h
   exact single _ hc h' (by rw [hv];rfl) (by rw [hv];rfl)
  |Kh l=>
   have h':=h
   obtain ⟨r,vt,m,_,_,hv⟩:=h
   exact single _ hc h' (by rw [hv];rfl) (by rw [hv];rfl)
theorem ve {vs cs:List AC} {us ns:List Value} (h:Fw X w π H vs us) (h2:Fw X w π H cs ns) (i:Nat) (hi:i+cs.length<=vs.length):
  Fw X w π H (Dw vs i cs) (Dw us i ns):=by
 have e1:=h.1
 have e2:=h2.1
 refine ⟨by simp [Dw,e1,e2],λj c hc=>?_⟩
 unfold Dw at hc⊢
 have t1:(vs.take i).length=i:=by simp;omega
 have t2:(us.take i).length=i:=by simp;omega
 by_cases h3:j<i
 ·rw [Ck,At (by omega),Dc,Ab h3] at hc
  obtain ⟨u,hu,h4⟩:=h.2 j c hc
  exact ⟨u,by rw [Ck,At (by omega),Dc,Ab h3];exact hu,h4⟩
 ·by_cases h4:j<i+cs.length
  ·rw [Ck,As (by omega),t1,At (by omega)] at hc
   obtain ⟨u,hu,h5⟩:=h2.2 _ c hc
   exact ⟨u,by rw [Ck,As (by omega),t2,At (by omega)];exact hu,h5⟩
  ·rw [As (by simp;omega),Db] at hc
   obtain ⟨u,hu,h5⟩:=h.2 _ c hc
   refine ⟨u,?_,h5⟩
   rw [As (by simp;omega),Db]
   rw [<-hu]
   congr 1
   simp
   omega
theorem Nd (w:World) (g:Nat) (cs:Array Value):w.grownBy (w.setRow g cs) (some g):=
 ⟨rfl,rfl,rfl,by simp,λk _ hk=>setRow_other w g k cs (λe=>hk (by rw [e]))⟩
theorem Wp {t:TypeId} {τ:Ty} (ht:nk P T t τ) (g i:Nat) (v:Value) (us:List Value) (hv:v.cells=us.toArray) (hl:us.length=τ.size) (h1: ∀u∈us,u.oneCell'=true)
  (cur:Array Value) (tid:TypeId) (hg:w.heap[g]?=some (.cells cur tid (0,0))) (hle:i+us.length<=cur.size):
  (storeVar t ⟨g,i,none⟩ v).run P w= .ok () (w.setRow g (Dw cur.toList i us).toArray):=by
 unfold storeVar
 rw [hv]
 simp only [Sem.run_bind,ht.size,Result.andThen_ok,Gv,hl]
 have:=run_storeCells_at P g i tid us 0 cur w hg (by simpa using hle) h1
 simp only [Dv] at this
 simpa [Dw,hl] using this
def iy (P:Program) (X:Ctx) (st':St) (a:Act) (w:World) (av:AV):Result Next->Prop
 | .ok (.value v) w'=> ∃π',Bl X π' st' a w'/\Bq X w' π' st'.heap av v
 | .ok .skip w'=> ∃π',Bl X π' st' a w'/\Bq X w' π' st'.heap av undef
 | .ok (.enter f args) w'=>w'=w/\Calls P f args w (λe rE=> ∃v,e= .returned v/\ ∃π',Bl X π' st' a rE/\Bq X rE π' st'.heap av v)
 |_=>False
theorem BV (hT:Ef P T) {st:St} {a:Act} (h:Bl X π st a w) {t:TypeId} {τ:Ty} (ht:T.ty t=some τ) {l i:Nat} {vp vx:Value} {x:AV} {tid:TypeId} {vs cs:List AC}
  (hp:Bq X w π st.heap (.at (.He l i)) vp) (hx:Bq X w π st.heap x vx) (hl:st.at l=some (.var tid vs)) (hc:cellsOf τ x=some cs) (hle:i+cs.length<=vs.length):
  ∃w',(Instr.storeAt t vp vx).run P w= .ok () w'/\Bl X π (st.Jr l (.var tid (Dw vs i cs))) a w':=by
 obtain ⟨r,Ux,vs',h1,h2,rfl⟩:=hp
 unfold St.at at hl
 rw [hl] at h1;cases h1
 obtain ⟨r',h3,h4,cur,h5,h6⟩:=(h.1.heap l).Rc hl
 rw [h2] at h3;cases h3
 obtain ⟨us,hv,hlu,hr⟩:=iJ hx hc
 have zi:us.length=cs.length:=hr.1
 have ia:cur.toList.length=vs.length:=h6.1
 have Ajr: ∀u∈us,u.oneCell'=true:=by
  intro u hu
  obtain ⟨j,hj,rfl⟩:=Nc hu
  obtain ⟨u',ic,h7,_⟩:=hr.2 j cs[j] (Ad (by omega))
  rw [Ad hj] at ic
  simp only [Aa] at ic
  rw [ic];exact h7
 have Vo:=Wp (P:=P) (w:=w) (hT.ty _ _ ht) r.g i vx us hv hlu Ajr cur tid h5 (by simp at ia;omega)
 refine ⟨_,by simp only [Instr.storeAt,Instr.sureAddr];simpa using Vo,?_⟩
 refine h.set hl (b:= .var tid (Dw vs i cs)) trivial (by rw [h2];exact Nd w r.g _) λm=>?_
 refine ⟨r,h2,h4,_,setRow_heap w r.g cur _ tid _ h5,?_⟩
 have m1:=m.acs h6
 have m2:=m.acs hr
 simp only [List.map_id'] at m1 m2
 exact ve m1 m2 i hle
theorem Vl {α:Type} : ∀(l:List α) (i:Nat) (x:α),Sn l i x=l.set i x
 | [],i,x=>by cases i<;>rfl
 |_::_,0,_=>rfl
 |y::r,n+1,x=>by simp [Sn,Vl r n x]
def PW (st:St) (l:Nat):Prop:= ∃tid vs,Aw st.heap l=some (.var tid vs)
theorem iQ (te:TypeId) (e:Ty) (w:World) (π:Pi) (H:List (Nat×OB)):Cn X w π H none (eb T te e):=by
 unfold eb
 split
 ·exact ⟨rfl,trivial⟩
 ·rfl
theorem nC (te:TypeId) (e:Ty): ∃sz,(eb T te e).row=some (sz,0):=by
 unfold eb
 split<;>exact ⟨_,rfl⟩
theorem ju {st:St} {a:Act} (h:Bl X π st a w) {b:OB} (hb0: ∀(w:World) (π:Pi) (H:List (Nat×OB)),Cn X w π H none b) {sz:Nat} (Ka:b.row=some (sz,0)) (key l i:Nat) (LS:key<Bp):
  ∃π',Bl X π' (Uv b key l i st) a w/\(PW (Uv b key l i st) l->PW st l/\π' l=π l):=by
 unfold Uv
 split
 ·rename_i tid vs hl
  split
  ·rename_i hi
   have h1:=h.replace (w':=w) key LS none b (Pj w _) (λr hr=>by cases hr) (λ_=>hb0 _ _ _)
   dsimp only
   unfold St.at at hl
   split
   ·rename_i Ux vs' Jg
    unfold St.at at Jg
    have My:key≠l:=by
     intro e
     subst e
     rw [St.Gy] at Jg
     cases Jg
     cases Ka
    refine ⟨_,h1.set Jg (b:= .var Ux (Sn vs' i (.own key 0 0))) trivial (Pj w _) λm=>?_,λ_=>⟨⟨tid,vs,hl⟩,Gi π none (Gb My)⟩⟩
    obtain ⟨r,h3,h4,cur,h5,h6⟩:=(h1.1.heap l).Rc Jg
    have m1:=m.acs h6
    simp only [List.map_id'] at m1
    refine ⟨r,h3,h4,cur,h5,?_⟩
    have Ig:=St.Zz st key l b (Gb My)
    rw [hl,Jg] at Ig
    simp only [Am,Aa,OB.map,OB.var.injEq] at Ig
    obtain ⟨rfl,rfl⟩:=Ig
    refine ⟨by rw [ae];exact m1.1,λj c hc=>?_⟩
    rw [Vl,Em] at hc
    split at hc
    ·rename_i fw;subst fw
     split at hc
     ·simp only [Aa] at hc;subst hc
      obtain ⟨u,hu,FM,xp⟩:=m1.2 i (.Lp) (by rw [Ex,hi];rfl)
      refine ⟨u,hu,FM,b,sz,0,?_,Ka,Aq _,?_⟩
      ·rw [show Aw ((st.new key b).Jr l _).heap key=Aw (st.new key b).heap key from Eg _ _ _ _ My]
       exact St.Gy st key _
      ·rw [Gm];exact ⟨xp,rfl,rfl⟩
     ·cases hc
    ·exact m1.2 j c hc
   ·rename_i hno
    refine ⟨_,h1,λ⟨t1,v1,hv⟩=>?_⟩
    exact absurd hv (hno t1 v1)
  ·unfold St.at at hl
   exact ⟨_,h,λhv=>⟨hv,rfl⟩⟩
 ·exact ⟨_,h,λhv=>⟨hv,rfl⟩⟩
theorem jv (l:Nat) (t:TypeId) (τ:Ty) {a:Act} : ∀(n i:Nat) (st:St) (π:Pi),100000+l*100+i+n<Bp->Bl X π st a w->
  ∃π',Bl X π' (fN T l t τ n i st) a w/\(PW (fN T l t τ n i st) l->PW st l/\π' l=π l)
 |0,i,st,π,_,h=>⟨π,h,λhv=>⟨hv,rfl⟩⟩
 |n+1,i,st,π,Jc,h=>by
  unfold fN
  split
  ·rename_i te e _
   obtain ⟨sz,Ka⟩:=nC (T:=T) te e
   obtain ⟨cm,h1,k1⟩:=ju h (iQ te e) Ka (100000+l*100+i) l i (by omega)
   obtain ⟨XJ,h2,k2⟩:=jv l t τ n (i+1) _ cm (by omega) h1
   exact ⟨XJ,h2,λhv=>⟨(k1 (k2 hv).1).1,(k2 hv).2.trans (k1 (k2 hv).1).2⟩⟩
  ·obtain ⟨XJ,h2,k2⟩:=jv l t τ n (i+1) _ π (by omega) h
   exact ⟨XJ,h2,k2⟩
theorem fO (l off:Nat) (t:TypeId) (τ:Ty) {a:Act} : ∀(n i:Nat) (st:St) (π:Pi),100000+l*100+(off+i+n)<Bp->Bl X π st a w-> ∃π',Bl X π' (eG T l off t τ n i st) a w
 |0,i,st,π,_,h=>⟨π,h⟩
 |n+1,i,st,π,Jc,h=>by
  unfold eG
  split
  ·rename_i te e _
   obtain ⟨cm,h1,_⟩:=ju h (iQ te e) (nC (T:=T) te e).choose_spec (100000+l*100+(off+i)) l (off+i) (by omega)
   exact fO l off t τ n (i+1) _ cm (by omega) h1
  ·exact fO l off t τ n (i+1) _ π (by omega) h
theorem zQ {st:St} {a:Act} (h:Bl X π st a w) (l:Nat) (t:TypeId) (cs:List AC) (us:List Value) (hr:Fw X w π st.heap cs us) (av:AV) (st':St)
  (he:ub st l t cs=some (av,st')):
  ∃π',Bl X π' st' a (w.alloc (.cells us.toArray t))/\Bq X (w.alloc (.cells us.toArray t)) π' st'.heap av (.pointer (some ⟨w.heap.size,0,none⟩)):=by
 unfold ub at he
 split at he
 ·cases he
 rename_i Zu
 simp only [Aa,Ah] at he
 obtain ⟨rfl,rfl⟩:=he
 have h1:Bl X (Ww π l (some (Real.one w.heap.size 0 0))) (st.new l (.var t (cs.map (Cu l)))) a (w.alloc (.cells us.toArray t)):=by
  refine h.replace l (by omega) (some (Real.one w.heap.size 0 0)) (.var t (cs.map (Cu l))) (World.grownBy_alloc w _ _) (λr dQ=>by cases dQ;exact ⟨rfl, .inr (Aq _),by simp [Real.one]⟩) λm=>?_
  exact ⟨_,rfl,rfl,us.toArray,heap_alloc_new w _,m.acs (by simpa using hr)⟩
 exact ⟨_,h1,_,t,_,St.Gy ..,Gm ..,rfl⟩
theorem qY {st:St} {a:Act} (h:Bl X π st a w) (l:Nat) (t:TypeId) (τ:Ty) (cs:List AC) (us:List Value) (hr:Fw X w π st.heap cs us) (av:AV) (st':St)
  (he:mkVar T st l t τ cs=some (av,st')):
  ∃π',Bl X π' st' a (w.alloc (.cells us.toArray t))/\Bq X (w.alloc (.cells us.toArray t)) π' st'.heap av (.pointer (some ⟨w.heap.size,0,none⟩)):=by
 unfold mkVar at he
 split at he
 ·cases he
 rename_i Zu
 have h1:Bl X (Ww π l (some (Real.one w.heap.size 0 0))) (st.new l (.var t (cs.map (Cu l)))) a (w.alloc (.cells us.toArray t)):=by
  refine h.replace l (by omega) (some (Real.one w.heap.size 0 0)) (.var t (cs.map (Cu l))) (World.grownBy_alloc w _ _) (λr dQ=>by cases dQ;exact ⟨rfl, .inr (Aq _),by simp [Real.one]⟩) λm=>?_
  exact ⟨_,rfl,rfl,us.toArray,heap_alloc_new w _,m.acs (by simpa using hr)⟩
 obtain ⟨XJ,h2,k2⟩:=jv (T:=T) l t τ cs.length 0 _ _ (by omega) h1
 dsimp only at he
 split at he
 ·rename_i tid vs hl
  unfold St.at at hl
  simp only [Aa,Ah] at he
  obtain ⟨rfl,rfl⟩:=he
  have:=(k2 ⟨tid,vs,hl⟩).2
  rw [Gm] at this
  exact ⟨XJ,h2,_,tid,vs,hl,this,rfl⟩
 ·cases he
end
end Go.Proofs.Ytkkdpknjohcekaa
