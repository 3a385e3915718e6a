/-
  Part 10 of the proof that the statement FnTwoPhase holds.
-/
import Derived.Test.YtkkdpknjohcekaaCFTwoPhase08
namespace Go.Proofs.Ytkkdpknjohcekaa
open Go.RowKit
section
variable {P:Program} {T:Tab} {X:Ctx} {w w':World} {π:Pi} {H:List (Nat×OB)}
theorem Pz (w:World) (row:Option Nat):w.grownBy w row:=⟨rfl,rfl,rfl,Aq _,λ_ _ _=>rfl⟩
theorem EP (fr:Bool) {τ:Ty} (Ue:τ.Ar=false) (x:τ.den):Sr fr τ x= [.data fr τ x]:=by
 cases τ<;>first|rfl|simp [Ty.Ar] at Ue
theorem MX {S:Nat->Prop} {τ:Ty} {v:Value} {x:τ.den} (h:Cells w S τ [v] x):v.oneCell'=true:=Cells.plain τ [v] x h v (by simp)
theorem qj {fr:Bool} : ∀(τ:Ty) (us:List Value) (x:τ.den),Cells w (Df X.w0.heap.size X.Sc π fr) τ us x->Gh X w π H (Sr fr τ x) us:=by
 have one: ∀(τ:Ty) (us:List Value) (x:τ.den),τ.Ar=false->Cells w (Df X.w0.heap.size X.Sc π fr) τ us x->Gh X w π H (Sr fr τ x) us:=by
  intro τ us x Ue h
  rw [EP fr Ue]
  have hl:=Cells.len τ us x h
  have h1:τ.size=1:=by cases τ<;>simp_all [Ty.Ar,Ty.size]
  rw [h1] at hl
  obtain ⟨u,rfl⟩:=Es.1 hl
  refine ⟨rfl,λi c hc=>?_⟩
  rcases i with _|i
  ·simp at hc;subst hc
   exact ⟨u,rfl,MX h,[u],h,by simp [Ci,Ue]⟩
  ·simp at hc
 intro τ
 induction τ with
 |unit=>intro us x h;simp only [Cells] at h;subst h;exact ⟨rfl,λi c hc=>by simp [Sr] at hc⟩
 |pair a r il ie=>
  intro us x h
  simp only [Cells] at h
  obtain ⟨c1,c2,rfl,h1,h2⟩:=h
  have r1:=il c1 x.1 h1
  have r2:=ie c2 x.2 h2
  refine ⟨by simp [Sr,r1.1,r2.1],λi c hc=>?_⟩
  simp only [Sr] at hc
  by_cases hi:i<(Sr fr a x.1).length
  ·rw [Au hi] at hc
   obtain ⟨u,hu,h3⟩:=r1.2 i c hc
   exact ⟨u,by rw [Au (by rw [r1.1];exact hi)];exact hu,h3⟩
  ·rw [At (by omega)] at hc
   obtain ⟨u,hu,h3⟩:=r2.2 _ c hc
   exact ⟨u,by rw [At (by rw [r1.1];omega),r1.1];exact hu,h3⟩
 |_=>exact λus x h=>one _ us x rfl h
theorem iE {τ:Ty} {c:AV} {v:Value} {cs:List AC} (h:Bt X w π H c v) (hc:cellsOf τ c=some cs):
  ∃us:List Value,v.cells=us.toArray/\us.length=τ.size/\Gh X w π H cs us:=by
 have single: ∀a:AC,(if τ.Ar then none else some [a])=some cs->Hu X w π H a v->v.oneCell'=true->v.cells= #[v]-> ∃us:List Value,v.cells=us.toArray/\us.length=τ.size/\Gh X w π H cs us:=by
  intro a ha hr h1 h2
  split at ha
  ·cases ha
  ·rename_i hs
   simp only [Aa] at ha;subst ha
   simp only [En] at hs
   have h3:τ.size=1:=by cases τ<;>simp_all [Ty.Ar,Ty.size]
   refine ⟨[v],h2,by rw [h3];rfl,rfl,λi c hc=>?_⟩
   rcases i with _|i
   ·simp at hc;subst hc;exact ⟨v,rfl,h1,hr⟩
   ·simp at hc
 cases c with
 |agg ds=>
  simp only [cellsOf] at hc
  split at hc
  ·rename_i Kh
   simp only [Aj,beq_iff_eq] at Kh
   simp only [Aa] at hc;subst hc
   obtain ⟨us,rfl,hr⟩:=h
   exact ⟨us,rfl,by rw [hr.1,Kh.2],hr⟩
  ·cases hc
 |bB fr Ox x=>simp [cellsOf] at hc
 |Nd l=>simp [cellsOf] at hc
 | «at»a=>
  cases a with
  |data fr Ox x=>
   simp only [cellsOf] at hc
   split at hc
   ·rename_i ht;subst ht
    simp only [Aa] at hc;subst hc
    obtain ⟨us,h1,rfl⟩:=h
    exact ⟨us,Lp Ox us x h1,Cells.len Ox us x h1,qj Ox us x h1⟩
   ·cases hc
  |undef=>simp [cellsOf] at hc
  |skip=>simp [cellsOf] at hc
  |Mj=>have hv:v= .slice none 0 0:=h;exact single .Mj hc h (by rw [hv];rfl) (by rw [hv];rfl)
  |Wa=>have hv:v= .pointer none:=h;exact single .Wa hc h (by rw [hv];rfl) (by rw [hv];rfl)
  |own l off len=>
   have h':=h
   obtain ⟨b,sz,n,_,_,_,ho⟩:=h
   have hv: ∃a l c,v= .slice a l c:=by
    cases hp:π l with
    |none=>rw [hp] at ho;obtain ⟨rfl,_⟩:=ho;exact ⟨_,_,_,rfl⟩
    |some r=>rw [hp] at ho;obtain ⟨ad,rfl,_⟩:=ho;exact ⟨_,_,_,rfl⟩
   obtain ⟨a1,l1,c1,hv⟩:=hv
   exact single _ hc h' (by rw [hv];rfl) (by rw [hv];rfl)
  |Ho l i=>
   have h':=h
   obtain ⟨r,tid,vs,_,_,hv⟩:=h
   exact single _ hc h' (by rw [hv];rfl) (by rw [hv];rfl)
  |Kp l i=>
   have h':=h
   obtain ⟨r,b,sz,n,_,_,_,_,hv⟩:=h
   exact single _ hc h' (by rw [hv];rfl) (by rw [hv];rfl)
  |sub l i c0=>
   have h':=h
   obtain ⟨r,b,sz,n,_,_,_,_,⟨_,a,n,m,hv⟩,_⟩:=h
   exact single _ hc h' (by rw [hv];rfl) (by rw [hv];rfl)
  |Km l i c0=>
   have h':=h
   obtain ⟨r,b,n,sz,g,o,len,cap,_,_,_,_,_,_,hv⟩:=h
   exact single _ hc h' (by rw [hv];rfl) (by rw [hv];rfl)
  |clo f Ew=>
   have h':=h
   obtain ⟨us,hv,_⟩:=h
   exact single _ hc h' (by rw [hv];rfl) (by rw [hv];rfl)
  |Ky l=>
   have h':=h
   obtain ⟨r,vt,m,_,_,hv⟩:=h
   exact single _ hc h' (by rw [hv];rfl) (by rw [hv];rfl)
theorem uU {vs cs:List AC} {us ns:List Value} (h:Gh X w π H vs us) (h2:Gh X w π H cs ns) (i:Nat) (hi:i+cs.length<=vs.length):
  Gh X w π H (Dw vs i cs) (Dw us i ns):=by
 have e1:=h.1
 have e2:=h2.1
 refine ⟨by simp [Dw,e1,e2],λj c hc=>?_⟩
 unfold Dw at hc⊢
 have t1:(vs.take i).length=i:=by simp;omega
 have t2:(us.take i).length=i:=by simp;omega
 by_cases h3:j<i
 ·rw [Bo,Au (by omega),Db,Ab h3] at hc
  obtain ⟨u,hu,h4⟩:=h.2 j c hc
  exact ⟨u,by rw [Bo,Au (by omega),Db,Ab h3];exact hu,h4⟩
 ·by_cases h4:j<i+cs.length
  ·rw [Bo,At (by omega),t1,Au (by omega)] at hc
   obtain ⟨u,hu,h5⟩:=h2.2 _ c hc
   exact ⟨u,by rw [Bo,At (by omega),t2,Au (by omega)];exact hu,h5⟩
  ·rw [At (by simp;omega),Cs] at hc
   obtain ⟨u,hu,h5⟩:=h.2 _ c hc
   refine ⟨u,?_,h5⟩
   rw [At (by simp;omega),Cs]
   rw [<-hu]
   congr 1
   simp
   omega
theorem Nz (w:World) (g:Nat) (cs:Array Value):w.grownBy (w.setRow g cs) (some g):=
 ⟨rfl,rfl,rfl,by simp,λk _ hk=>setRow_other w g k cs (λe=>hk (by rw [e]))⟩
theorem Wz {t:TypeId} {τ:Ty} (ht:oR P T t τ) (g i:Nat) (v:Value) (us:List Value) (hv:v.cells=us.toArray) (hl:us.length=τ.size) (h1: ∀u∈us,u.oneCell'=true)
  (cur:Array Value) (tid:TypeId) (hg:w.heap[g]?=some (.cells cur tid (0,0))) (hle:i+us.length<=cur.size):
  (storeVar t ⟨g,i,none⟩ v).run P w= .ok () (w.setRow g (Dw cur.toList i us).toArray):=by
 unfold storeVar
 rw [hv]
 simp only [Sem.run_bind,ht.size,Result.andThen_ok,Hb,hl]
 have:=run_storeCells_at P g i tid us 0 cur w hg (by simpa using hle) h1
 simp only [Ed] at this
 simpa [Dw,hl] using this
def ir (P:Program) (X:Ctx) (st':St) (a:Act) (w:World) (av:AV):Result Next->Prop
 | .ok (.value v) w'=> ∃π',Bm X π' st' a w'/\Bt X w' π' st'.heap av v
 | .ok .skip w'=> ∃π',Bm X π' st' a w'/\Bt X w' π' st'.heap av undef
 | .ok (.enter f args) w'=>w'=w/\Calls P f args w (λe rh=> ∃v,e= .returned v/\ ∃π',Bm X π' st' a rh/\Bt X rh π' st'.heap av v)
 |_=>False
theorem BR (hT:Eh P T) {st:St} {a:Act} (h:Bm X π st a w) {t:TypeId} {τ:Ty} (ht:T.ty t=some τ) {l i:Nat} {vp vx:Value} {x:AV} {tid:TypeId} {vs cs:List AC}
  (hp:Bt X w π st.heap (.at (.Ho l i)) vp) (hx:Bt X w π st.heap x vx) (hl:st.at l=some (.var tid vs)) (hc:cellsOf τ x=some cs) (hle:i+cs.length<=vs.length):
  ∃w',(Instr.storeAt t vp vx).run P w= .ok () w'/\Bm X π (st.Kl l (.var tid (Dw vs i cs))) a w':=by
 obtain ⟨r,Vh,vs',h1,h2,rfl⟩:=hp
 unfold St.at at hl
 rw [hl] at h1;cases h1
 obtain ⟨r',h3,h4,cur,h5,h6⟩:=(h.1.heap l).Ru hl
 rw [h2] at h3;cases h3
 obtain ⟨us,hv,hlu,hr⟩:=iE hx hc
 have zh:us.length=cs.length:=hr.1
 have ia:cur.toList.length=vs.length:=h6.1
 have Ajj: ∀u∈us,u.oneCell'=true:=by
  intro u hu
  obtain ⟨j,hj,rfl⟩:=Nw hu
  obtain ⟨u',ic,h7,_⟩:=hr.2 j cs[j] (Ad (by omega))
  rw [Ad hj] at ic
  simp only [Aa] at ic
  rw [ic];exact h7
 have Vz:=Wz (P:=P) (w:=w) (hT.ty _ _ ht) r.g i vx us hv hlu Ajj cur tid h5 (by simp at ia;omega)
 refine ⟨_,by simp only [Instr.storeAt,Instr.sureAddr];simpa using Vz,?_⟩
 refine h.set hl (b:= .var tid (Dw vs i cs)) trivial (by rw [h2];exact Nz w r.g _) λm=>?_
 refine ⟨r,h2,h4,_,setRow_heap w r.g cur _ tid _ h5,?_⟩
 have m1:=m.acs h6
 have m2:=m.acs hr
 simp only [List.map_id'] at m1 m2
 exact uU m1 m2 i hle
theorem Vw {α:Type} : ∀(l:List α) (i:Nat) (x:α),Ta l i x=l.set i x
 | [],i,x=>by cases i<;>rfl
 |_::_,0,_=>rfl
 |y::r,n+1,x=>by simp [Ta,Vw r n x]
def PX (st:St) (l:Nat):Prop:= ∃tid vs,Ay st.heap l=some (.var tid vs)
theorem iM (te:TypeId) (e:Ty) (w:World) (π:Pi) (H:List (Nat×OB)):Co X w π H none (dZ T te e):=by
 unfold dZ
 split
 ·exact ⟨rfl,trivial⟩
 ·rfl
theorem ny (te:TypeId) (e:Ty): ∃sz,(dZ T te e).row=some (sz,0):=by
 unfold dZ
 split<;>exact ⟨_,rfl⟩
theorem jk {st:St} {a:Act} (h:Bm X π st a w) {b:OB} (hb0: ∀(w:World) (π:Pi) (H:List (Nat×OB)),Co X w π H none b) {sz:Nat} (Su:b.row=some (sz,0)) (key l i:Nat) (LQ:key<Bq):
  ∃π',Bm X π' (Ve b key l i st) a w/\(PX (Ve b key l i st) l->PX st l/\π' l=π l):=by
 unfold Ve
 split
 ·rename_i tid vs hl
  split
  ·rename_i hi
   have h1:=h.replace (w':=w) key LQ none b (Pz w _) (λr hr=>by cases hr) (λ_=>hb0 _ _ _)
   dsimp only
   unfold St.at at hl
   split
   ·rename_i Vh vs' Ll
    unfold St.at at Ll
    have Nn:key≠l:=by
     intro e
     subst e
     rw [St.Hf] at Ll
     cases Ll
     cases Su
    refine ⟨_,h1.set Ll (b:= .var Vh (Ta vs' i (.own key 0 0))) trivial (Pz w _) λm=>?_,λ_=>⟨⟨tid,vs,hl⟩,Gq π none (Gv Nn)⟩⟩
    obtain ⟨r,h3,h4,cur,h5,h6⟩:=(h1.1.heap l).Ru Ll
    have m1:=m.acs h6
    simp only [List.map_id'] at m1
    refine ⟨r,h3,h4,cur,h5,?_⟩
    have Ip:=St.a8 st key l b (Gv Nn)
    rw [hl,Ll] at Ip
    simp only [An,Aa,OB.map,OB.var.injEq] at Ip
    obtain ⟨rfl,rfl⟩:=Ip
    refine ⟨by rw [aj];exact m1.1,λj c hc=>?_⟩
    rw [Vw,Ei] at hc
    split at hc
    ·rename_i eX;subst eX
     split at hc
     ·simp only [Aa] at hc;subst hc
      obtain ⟨u,hu,TR,xo⟩:=m1.2 i (.Mj) (by rw [Fv,hi];rfl)
      refine ⟨u,hu,TR,b,sz,0,?_,Su,Aq _,?_⟩
      ·rw [show Ay ((st.new key b).Kl l _).heap key=Ay (st.new key b).heap key from Er _ _ _ _ Nn]
       exact St.Hf st key _
      ·rw [Gt];exact ⟨xo,rfl,rfl⟩
     ·cases hc
    ·exact m1.2 j c hc
   ·rename_i hno
    refine ⟨_,h1,λ⟨t1,v1,hv⟩=>?_⟩
    exact absurd hv (hno t1 v1)
  ·unfold St.at at hl
   exact ⟨_,h,λhv=>⟨hv,rfl⟩⟩
 ·exact ⟨_,h,λhv=>⟨hv,rfl⟩⟩
theorem jl (l:Nat) (t:TypeId) (τ:Ty) {a:Act} : ∀(n i:Nat) (st:St) (π:Pi),100000+l*100+i+n<Bq->Bm X π st a w->
  ∃π',Bm X π' (fO T l t τ n i st) a w/\(PX (fO T l t τ n i st) l->PX st l/\π' l=π l)
 |0,i,st,π,_,h=>⟨π,h,λhv=>⟨hv,rfl⟩⟩
 |n+1,i,st,π,Lg,h=>by
  unfold fO
  split
  ·rename_i te e _
   obtain ⟨sz,Su⟩:=ny (T:=T) te e
   obtain ⟨cv,h1,k1⟩:=jk h (iM te e) Su (100000+l*100+i) l i (by omega)
   obtain ⟨XE,h2,k2⟩:=jl l t τ n (i+1) _ cv (by omega) h1
   exact ⟨XE,h2,λhv=>⟨(k1 (k2 hv).1).1,(k2 hv).2.trans (k1 (k2 hv).1).2⟩⟩
  ·obtain ⟨XE,h2,k2⟩:=jl l t τ n (i+1) _ π (by omega) h
   exact ⟨XE,h2,k2⟩
theorem fP (l off:Nat) (t:TypeId) (τ:Ty) {a:Act} : ∀(n i:Nat) (st:St) (π:Pi),100000+l*100+(off+i+n)<Bq->Bm X π st a w-> ∃π',Bm X π' (eE T l off t τ n i st) a w
 |0,i,st,π,_,h=>⟨π,h⟩
 |n+1,i,st,π,Lg,h=>by
  unfold eE
  split
  ·rename_i te e _
   obtain ⟨cv,h1,_⟩:=jk h (iM te e) (ny (T:=T) te e).choose_spec (100000+l*100+(off+i)) l (off+i) (by omega)
   exact fP l off t τ n (i+1) _ cv (by omega) h1
  ·exact fP l off t τ n (i+1) _ π (by omega) h
theorem zQ {st:St} {a:Act} (h:Bm X π st a w) (l:Nat) (t:TypeId) (cs:List AC) (us:List Value) (hr:Gh X w π st.heap cs us) (av:AV) (st':St)
  (he:u7 st l t cs=some (av,st')):
  ∃π',Bm X π' st' a (w.alloc (.cells us.toArray t))/\Bt X (w.alloc (.cells us.toArray t)) π' st'.heap av (.pointer (some ⟨w.heap.size,0,none⟩)):=by
 unfold u7 at he
 split at he
 ·cases he
 rename_i dy
 simp only [Aa,Ag] at he
 obtain ⟨rfl,rfl⟩:=he
 have h1:Bm X (Xh π l (some (Real.one w.heap.size 0 0))) (st.new l (.var t (cs.map (Cv l)))) a (w.alloc (.cells us.toArray t)):=by
  refine h.replace l (by omega) (some (Real.one w.heap.size 0 0)) (.var t (cs.map (Cv l))) (World.grownBy_alloc w _ _) (λr kR=>by cases kR;exact ⟨rfl, .inr (Aq _),by simp [Real.one]⟩) λm=>?_
  exact ⟨_,rfl,rfl,us.toArray,heap_alloc_new w _,m.acs (by simpa using hr)⟩
 exact ⟨_,h1,_,t,_,St.Hf ..,Gt ..,rfl⟩
theorem qJ {st:St} {a:Act} (h:Bm X π st a w) (l:Nat) (t:TypeId) (τ:Ty) (cs:List AC) (us:List Value) (hr:Gh X w π st.heap cs us) (av:AV) (st':St)
  (he:mkVar T st l t τ cs=some (av,st')):
  ∃π',Bm X π' st' a (w.alloc (.cells us.toArray t))/\Bt X (w.alloc (.cells us.toArray t)) π' st'.heap av (.pointer (some ⟨w.heap.size,0,none⟩)):=by
 unfold mkVar at he
 split at he
 ·cases he
 rename_i dy
 have h1:Bm X (Xh π l (some (Real.one w.heap.size 0 0))) (st.new l (.var t (cs.map (Cv l)))) a (w.alloc (.cells us.toArray t)):=by
  refine h.replace l (by omega) (some (Real.one w.heap.size 0 0)) (.var t (cs.map (Cv l))) (World.grownBy_alloc w _ _) (λr kR=>by cases kR;exact ⟨rfl, .inr (Aq _),by simp [Real.one]⟩) λm=>?_
  exact ⟨_,rfl,rfl,us.toArray,heap_alloc_new w _,m.acs (by simpa using hr)⟩
 obtain ⟨XE,h2,k2⟩:=jl (T:=T) l t τ cs.length 0 _ _ (by omega) h1
 dsimp only at he
 split at he
 ·rename_i tid vs hl
  unfold St.at at hl
  simp only [Aa,Ag] at he
  obtain ⟨rfl,rfl⟩:=he
  have:=(k2 ⟨tid,vs,hl⟩).2
  rw [Gt] at this
  exact ⟨XE,h2,_,tid,vs,hl,this,rfl⟩
 ·cases he
end
end Go.Proofs.Ytkkdpknjohcekaa
