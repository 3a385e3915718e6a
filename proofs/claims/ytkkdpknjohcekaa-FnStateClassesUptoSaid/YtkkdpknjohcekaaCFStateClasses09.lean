/-
  Part 10 of the proof that the statement FnStateClasses holds.
-/
import Derived.Test.YtkkdpknjohcekaaCFStateClasses08
namespace Go.Proofs.Ytkkdpknjohcekaa
open Go.RowKit
section
variable {P:Program} {T:Tab} {X:Ctx} {w w':World} {π:Pi} {H:List (Nat×OB)}
theorem Pf (w:World) (row:Option Nat):w.grownBy w row:=⟨rfl,rfl,rfl,Ao _,λ_ _ _=>rfl⟩
theorem zL (fr:Bool) {τ:Ty} (Sz:τ.Ap=false) (x:τ.den):Ro fr τ x= [.data fr τ x]:=by
 cases τ<;>first|rfl|simp [Ty.Ap] at Sz
theorem HK {S:Nat->Prop} {τ:Ty} {v:Value} {x:τ.den} (h:Cells w S τ [v] x):v.oneCell'=true:=Cells.plain τ [v] x h v (by simp)
theorem o8 {fr:Bool} : ∀(τ:Ty) (us:List Value) (x:τ.den),Cells w (Cv X.w0.heap.size X.Sc π fr) τ us x->Fg X w π H (Ro fr τ x) us:=by
 have one: ∀(τ:Ty) (us:List Value) (x:τ.den),τ.Ap=false->Cells w (Cv X.w0.heap.size X.Sc π fr) τ us x->Fg X w π H (Ro fr τ x) us:=by
  intro τ us x Sz h
  rw [zL fr Sz]
  have hl:=Cells.len τ us x h
  have h1:τ.size=1:=by cases τ<;>simp_all [Ty.Ap,Ty.size]
  rw [h1] at hl
  obtain ⟨u,rfl⟩:=Dw.1 hl
  refine ⟨rfl,λi c hc=>?_⟩
  rcases i with _|i
  ·simp at hc;subst hc
   exact ⟨u,rfl,HK h,[u],h,by simp [Bv,Sz]⟩
  ·simp at hc
 intro τ
 induction τ with
 |unit=>intro us x h;simp only [Cells] at h;subst h;exact ⟨rfl,λi c hc=>by simp [Ro] at hc⟩
 |pair a r fH fF=>
  intro us x h
  simp only [Cells] at h
  obtain ⟨c1,c2,rfl,h1,h2⟩:=h
  have r1:=fH c1 x.1 h1
  have r2:=fF c2 x.2 h2
  refine ⟨by simp [Ro,r1.1,r2.1],λi c hc=>?_⟩
  simp only [Ro] at hc
  by_cases hi:i<(Ro fr a x.1).length
  ·rw [Ar hi] at hc
   obtain ⟨u,hu,h3⟩:=r1.2 i c hc
   exact ⟨u,by rw [Ar (by rw [r1.1];exact hi)];exact hu,h3⟩
  ·rw [Aq (by omega)] at hc
   obtain ⟨u,hu,h3⟩:=r2.2 _ c hc
   exact ⟨u,by rw [Aq (by rw [r1.1];omega),r1.1];exact hu,h3⟩
 |_=>exact λus x h=>one _ us x rfl h
theorem fX {τ:Ty} {c:AV} {v:Value} {cs:List AC} (h:Bn X w π H c v) (hc:cellsOf τ c=some cs):
  ∃us:List Value,v.cells=us.toArray/\us.length=τ.size/\Fg X w π H cs us:=by
 have single: ∀a:AC,(if τ.Ap then none else some [a])=some cs->Gu X w π H a v->v.oneCell'=true->v.cells= #[v]-> ∃us:List Value,v.cells=us.toArray/\us.length=τ.size/\Fg X w π H cs us:=by
  intro a ha hr h1 h2
  split at ha
  ·cases ha
  ·rename_i hs
   simp only [Aa] at ha;subst ha
   simp only [Hs] at hs
   have h3:τ.size=1:=by cases τ<;>simp_all [Ty.Ap,Ty.size]
   refine ⟨[v],h2,by rw [h3];rfl,rfl,λi c hc=>?_⟩
   rcases i with _|i
   ·simp at hc;subst hc;exact ⟨v,rfl,h1,hr⟩
   ·simp at hc
 cases c with
 |agg ds=>
  simp only [cellsOf] at hc
  split at hc
  ·rename_i Je
   simp only [Ag,beq_iff_eq] at Je
   simp only [Aa] at hc;subst hc
   obtain ⟨us,rfl,hr⟩:=h
   exact ⟨us,rfl,by rw [hr.1,Je.2],hr⟩
  ·cases hc
 |ay fr Nx x=>simp [cellsOf] at hc
 |Mh l=>simp [cellsOf] at hc
 | «at»a=>
  cases a with
  |data fr Nx x=>
   simp only [cellsOf] at hc
   split at hc
   ·rename_i ht;subst ht
    simp only [Aa] at hc;subst hc
    obtain ⟨us,h1,rfl⟩:=h
    exact ⟨us,Ko Nx us x h1,Cells.len Nx us x h1,o8 Nx us x h1⟩
   ·cases hc
  |undef=>simp [cellsOf] at hc
  |skip=>simp [cellsOf] at hc
  |Ln=>have hv:v= .slice none 0 0:=h;exact single .Ln hc h (by rw [hv];rfl) (by rw [hv];rfl)
  |Up=>have hv:v= .pointer none:=h;exact single .Up hc h (by rw [hv];rfl) (by rw [hv];rfl)
  |own l off len=>
   have h':=h
   obtain ⟨b,sz,n,_,_,_,ho⟩:=h
   have hv: ∃a l c,v= .slice a l c:=by
    cases hp:π l with
    |none=>rw [hp] at ho;obtain ⟨rfl,_⟩:=ho;exact ⟨_,_,_,rfl⟩
    |some r=>rw [hp] at ho;obtain ⟨ad,rfl,_⟩:=ho;exact ⟨_,_,_,rfl⟩
   obtain ⟨a1,l1,c1,hv⟩:=hv
   exact single _ hc h' (by rw [hv];rfl) (by rw [hv];rfl)
  |Gp l i=>
   have h':=h
   obtain ⟨r,tid,vs,_,_,hv⟩:=h
   exact single _ hc h' (by rw [hv];rfl) (by rw [hv];rfl)
  |Jm l i=>
   have h':=h
   obtain ⟨r,b,sz,n,_,_,_,_,hv⟩:=h
   exact single _ hc h' (by rw [hv];rfl) (by rw [hv];rfl)
  |sub l i c0=>
   have h':=h
   obtain ⟨r,b,sz,n,_,_,_,_,⟨_,a,n,m,hv⟩,_⟩:=h
   exact single _ hc h' (by rw [hv];rfl) (by rw [hv];rfl)
  |Jj l i c0=>
   have h':=h
   obtain ⟨r,b,n,sz,g,o,len,cap,_,_,_,_,_,_,hv⟩:=h
   exact single _ hc h' (by rw [hv];rfl) (by rw [hv];rfl)
  |clo f Dz=>
   have h':=h
   obtain ⟨us,hv,_⟩:=h
   exact single _ hc h' (by rw [hv];rfl) (by rw [hv];rfl)
  |Jt l=>
   have h':=h
   obtain ⟨r,vt,m,_,_,hv⟩:=h
   exact single _ hc h' (by rw [hv];rfl) (by rw [hv];rfl)
theorem sx {vs cs:List AC} {us ns:List Value} (h:Fg X w π H vs us) (h2:Fg X w π H cs ns) (i:Nat) (hi:i+cs.length<=vs.length):
  Fg X w π H (Dp vs i cs) (Dp us i ns):=by
 have e1:=h.1
 have e2:=h2.1
 refine ⟨by simp [Dp,e1,e2],λj c hc=>?_⟩
 unfold Dp at hc⊢
 have t1:(vs.take i).length=i:=by simp;omega
 have t2:(us.take i).length=i:=by simp;omega
 by_cases h3:j<i
 ·rw [Ck,Ar (by omega),Cr,Ac h3] at hc
  obtain ⟨u,hu,h4⟩:=h.2 j c hc
  exact ⟨u,by rw [Ck,Ar (by omega),Cr,Ac h3];exact hu,h4⟩
 ·by_cases h4:j<i+cs.length
  ·rw [Ck,Aq (by omega),t1,Ar (by omega)] at hc
   obtain ⟨u,hu,h5⟩:=h2.2 _ c hc
   exact ⟨u,by rw [Ck,Aq (by omega),t2,Ar (by omega)];exact hu,h5⟩
  ·rw [Aq (by simp;omega),Co] at hc
   obtain ⟨u,hu,h5⟩:=h.2 _ c hc
   refine ⟨u,?_,h5⟩
   rw [Aq (by simp;omega),Co]
   rw [<-hu]
   congr 1
   simp
   omega
theorem Nb (w:World) (g:Nat) (cs:Array Value):w.grownBy (w.setRow g cs) (some g):=
 ⟨rfl,rfl,rfl,by simp,λk _ hk=>setRow_other w g k cs (λe=>hk (by rw [e]))⟩
theorem Vo {t:TypeId} {τ:Ty} (ht:p7 P T t τ) (g i:Nat) (v:Value) (us:List Value) (hv:v.cells=us.toArray) (hl:us.length=τ.size) (h1: ∀u∈us,u.oneCell'=true)
  (cur:Array Value) (tid:TypeId) (hg:w.heap[g]?=some (.cells cur tid (0,0))) (hle:i+us.length<=cur.size):
  (storeVar t ⟨g,i,none⟩ v).run P w= .ok () (w.setRow g (Dp cur.toList i us).toArray):=by
 unfold storeVar
 rw [hv]
 simp only [Sem.run_bind,ht.size,Result.andThen_ok,Gf,hl]
 have:=run_storeCells_at P g i tid us 0 cur w hg (by simpa using hle) h1
 simp only [Dx] at this
 simpa [Dp,hl] using this
def fL (P:Program) (X:Ctx) (st':St) (a:Act) (w:World) (av:AV):Result Next->Prop
 | .ok (.value v) w'=> ∃π',Bg X π' st' a w'/\Bn X w' π' st'.heap av v
 | .ok .skip w'=> ∃π',Bg X π' st' a w'/\Bn X w' π' st'.heap av undef
 | .ok (.enter f args) w'=>w'=w/\Calls P f args w (λe oW=> ∃v,e= .returned v/\ ∃π',Bg X π' st' a oW/\Bn X oW π' st'.heap av v)
 |_=>False
theorem yx (hT:Dn P T) {st:St} {a:Act} (h:Bg X π st a w) {t:TypeId} {τ:Ty} (ht:T.ty t=some τ) {l i:Nat} {vp vx:Value} {x:AV} {tid:TypeId} {vs cs:List AC}
  (hp:Bn X w π st.heap (.at (.Gp l i)) vp) (hx:Bn X w π st.heap x vx) (hl:st.at l=some (.var tid vs)) (hc:cellsOf τ x=some cs) (hle:i+cs.length<=vs.length):
  ∃w',(Instr.storeAt t vp vx).run P w= .ok () w'/\Bg X π (st.Ji l (.var tid (Dp vs i cs))) a w':=by
 obtain ⟨r,Tw,vs',h1,h2,rfl⟩:=hp
 unfold St.at at hl
 rw [hl] at h1;cases h1
 obtain ⟨r',h3,h4,cur,h5,h6⟩:=(h.1.heap l).Qw hl
 rw [h2] at h3;cases h3
 obtain ⟨us,hv,hlu,hr⟩:=fX hx hc
 have pK:us.length=cs.length:=hr.1
 have fy:cur.toList.length=vs.length:=h6.1
 have Ade: ∀u∈us,u.oneCell'=true:=by
  intro u hu
  obtain ⟨j,hj,rfl⟩:=Mz hu
  obtain ⟨u',fE,h7,_⟩:=hr.2 j cs[j] (Ab (by omega))
  rw [Ab hj] at fE
  simp only [Aa] at fE
  rw [fE];exact h7
 have Rd:=Vo (P:=P) (w:=w) (hT.ty _ _ ht) r.g i vx us hv hlu Ade cur tid h5 (by simp at fy;omega)
 refine ⟨_,by simp only [Instr.storeAt,Instr.sureAddr];simpa using Rd,?_⟩
 refine h.set hl (b:= .var tid (Dp vs i cs)) trivial (by rw [h2];exact Nb w r.g _) λm=>?_
 refine ⟨r,h2,h4,_,setRow_heap w r.g cur _ tid _ h5,?_⟩
 have m1:=m.XA h6
 have m2:=m.XA hr
 simp only [List.map_id'] at m1 m2
 exact sx m1 m2 i hle
theorem Um {α:Type} : ∀(l:List α) (i:Nat) (x:α),Rx l i x=l.set i x
 | [],i,x=>by cases i<;>rfl
 |_::_,0,_=>rfl
 |y::r,n+1,x=>by simp [Rx,Um r n x]
def JW (st:St) (l:Nat):Prop:= ∃tid vs,At st.heap l=some (.var tid vs)
theorem gi (te:TypeId) (e:Ty) (w:World) (π:Pi) (H:List (Nat×OB)):Cd X w π H none (cG T te e):=by
 unfold cG
 split
 ·exact ⟨rfl,trivial⟩
 ·rfl
theorem lr (te:TypeId) (e:Ty): ∃sz,(cG T te e).row=some (sz,0):=by
 unfold cG
 split<;>exact ⟨_,rfl⟩
theorem gQ {st:St} {a:Act} (h:Bg X π st a w) {b:OB} (hb0: ∀(w:World) (π:Pi) (H:List (Nat×OB)),Cd X w π H none b) {sz:Nat} (Wx:b.row=some (sz,0)) (key l i:Nat) (FZ:key<Bl):
  ∃π',Bg X π' (Tt b key l i st) a w/\(JW (Tt b key l i st) l->JW st l/\π' l=π l):=by
 unfold Tt
 split
 ·rename_i tid vs hl
  split
  ·rename_i hi
   have h1:=h.replace (w':=w) key FZ none b (Pf w _) (λr hr=>by cases hr) (λ_=>hb0 _ _ _)
   dsimp only
   unfold St.at at hl
   split
   ·rename_i Tw vs' Ll
    unfold St.at at Ll
    have Rq:key≠l:=by
     intro e
     subst e
     rw [St.Gi] at Ll
     cases Ll
     cases Wx
    refine ⟨_,h1.set Ll (b:= .var Tw (Rx vs' i (.own key 0 0))) trivial (Pf w _) λm=>?_,λ_=>⟨⟨tid,vs,hl⟩,Fy π none (Fv Rq)⟩⟩
    obtain ⟨r,h3,h4,cur,h5,h6⟩:=(h1.1.heap l).Qw Ll
    have m1:=m.XA h6
    simp only [List.map_id'] at m1
    refine ⟨r,h3,h4,cur,h5,?_⟩
    have Hq:=St.Yo st key l b (Fv Rq)
    rw [hl,Ll] at Hq
    simp only [Ak,Aa,OB.map,OB.var.injEq] at Hq
    obtain ⟨rfl,rfl⟩:=Hq
    refine ⟨by rw [Yu];exact m1.1,λj c hc=>?_⟩
    rw [Um,Eb] at hc
    split at hc
    ·rename_i dO;subst dO
     split at hc
     ·simp only [Aa] at hc;subst hc
      obtain ⟨u,hu,NC,uM⟩:=m1.2 i (.Ln) (by rw [Fl,hi];rfl)
      refine ⟨u,hu,NC,b,sz,0,?_,Wx,Ao _,?_⟩
      ·rw [show At ((st.new key b).Ji l _).heap key=At (st.new key b).heap key from Dv _ _ _ _ Rq]
       exact St.Gi st key _
      ·rw [Gb];exact ⟨uM,rfl,rfl⟩
     ·cases hc
    ·exact m1.2 j c hc
   ·rename_i hno
    refine ⟨_,h1,λ⟨t1,v1,hv⟩=>?_⟩
    exact absurd hv (hno t1 v1)
  ·unfold St.at at hl
   exact ⟨_,h,λhv=>⟨hv,rfl⟩⟩
 ·exact ⟨_,h,λhv=>⟨hv,rfl⟩⟩
theorem gR (l:Nat) (t:TypeId) (τ:Ty) {a:Act} : ∀(n i:Nat) (st:St) (π:Pi),100000+l*100+i+n<Bl->Bg X π st a w->
  ∃π',Bg X π' (ee T l t τ n i st) a w/\(JW (ee T l t τ n i st) l->JW st l/\π' l=π l)
 |0,i,st,π,_,h=>⟨π,h,λhv=>⟨hv,rfl⟩⟩
 |n+1,i,st,π,Jl,h=>by
  unfold ee
  split
  ·rename_i te e _
   obtain ⟨sz,Wx⟩:=lr (T:=T) te e
   obtain ⟨bl,h1,k1⟩:=gQ h (gi te e) Wx (100000+l*100+i) l i (by omega)
   obtain ⟨QQ,h2,k2⟩:=gR l t τ n (i+1) _ bl (by omega) h1
   exact ⟨QQ,h2,λhv=>⟨(k1 (k2 hv).1).1,(k2 hv).2.trans (k1 (k2 hv).1).2⟩⟩
  ·obtain ⟨QQ,h2,k2⟩:=gR l t τ n (i+1) _ π (by omega) h
   exact ⟨QQ,h2,k2⟩
theorem ef (l off:Nat) (t:TypeId) (τ:Ty) {a:Act} : ∀(n i:Nat) (st:St) (π:Pi),100000+l*100+(off+i+n)<Bl->Bg X π st a w-> ∃π',Bg X π' (da T l off t τ n i st) a w
 |0,i,st,π,_,h=>⟨π,h⟩
 |n+1,i,st,π,Jl,h=>by
  unfold da
  split
  ·rename_i te e _
   obtain ⟨bl,h1,_⟩:=gQ h (gi te e) (lr (T:=T) te e).choose_spec (100000+l*100+(off+i)) l (off+i) (by omega)
   exact ef l off t τ n (i+1) _ bl (by omega) h1
  ·exact ef l off t τ n (i+1) _ π (by omega) h
theorem xt {st:St} {a:Act} (h:Bg X π st a w) (l:Nat) (t:TypeId) (cs:List AC) (us:List Value) (hr:Fg X w π st.heap cs us) (av:AV) (st':St)
  (he:rF st l t cs=some (av,st')):
  ∃π',Bg X π' st' a (w.alloc (.cells us.toArray t))/\Bn X (w.alloc (.cells us.toArray t)) π' st'.heap av (.pointer (some ⟨w.heap.size,0,none⟩)):=by
 unfold rF at he
 split at he
 ·cases he
 rename_i cc
 simp only [Aa,Ad] at he
 obtain ⟨rfl,rfl⟩:=he
 have h1:Bg X (Vs π l (some (Real.one w.heap.size 0 0))) (st.new l (.var t (cs.map (Cl l)))) a (w.alloc (.cells us.toArray t)):=by
  refine h.replace l (by omega) (some (Real.one w.heap.size 0 0)) (.var t (cs.map (Cl l))) (World.grownBy_alloc w _ _) (λr ja=>by cases ja;exact ⟨rfl, .inr (Ao _),by simp [Real.one]⟩) λm=>?_
  exact ⟨_,rfl,rfl,us.toArray,heap_alloc_new w _,m.XA (by simpa using hr)⟩
 exact ⟨_,h1,_,t,_,St.Gi ..,Gb ..,rfl⟩
theorem oC {st:St} {a:Act} (h:Bg X π st a w) (l:Nat) (t:TypeId) (τ:Ty) (cs:List AC) (us:List Value) (hr:Fg X w π st.heap cs us) (av:AV) (st':St)
  (he:mkVar T st l t τ cs=some (av,st')):
  ∃π',Bg X π' st' a (w.alloc (.cells us.toArray t))/\Bn X (w.alloc (.cells us.toArray t)) π' st'.heap av (.pointer (some ⟨w.heap.size,0,none⟩)):=by
 unfold mkVar at he
 split at he
 ·cases he
 rename_i cc
 have h1:Bg X (Vs π l (some (Real.one w.heap.size 0 0))) (st.new l (.var t (cs.map (Cl l)))) a (w.alloc (.cells us.toArray t)):=by
  refine h.replace l (by omega) (some (Real.one w.heap.size 0 0)) (.var t (cs.map (Cl l))) (World.grownBy_alloc w _ _) (λr ja=>by cases ja;exact ⟨rfl, .inr (Ao _),by simp [Real.one]⟩) λm=>?_
  exact ⟨_,rfl,rfl,us.toArray,heap_alloc_new w _,m.XA (by simpa using hr)⟩
 obtain ⟨QQ,h2,k2⟩:=gR (T:=T) l t τ cs.length 0 _ _ (by omega) h1
 dsimp only at he
 split at he
 ·rename_i tid vs hl
  unfold St.at at hl
  simp only [Aa,Ad] at he
  obtain ⟨rfl,rfl⟩:=he
  have:=(k2 ⟨tid,vs,hl⟩).2
  rw [Gb] at this
  exact ⟨QQ,h2,_,tid,vs,hl,this,rfl⟩
 ·cases he
end
end Go.Proofs.Ytkkdpknjohcekaa
