/-
  Part 10 of the proof that the statement FnIterativeDeepening holds.
-/
import Derived.Test.YtkkdpknjohcekaaGreatCFIterativeDeepening08
namespace Go.Proofs.YtkkdpknjohcekaaGreat
open Go.RowKit
section
variable {P:Program} {T:Tab} {X:Ctx} {w w':World} {π:Pi} {H:List (Nat×OB)}
theorem Qf (w:World) (row:Option Nat):w.grownBy w row:=⟨rfl,rfl,rfl,Ap _,λ_ _ _=>rfl⟩
theorem DA (fr:Bool) {τ:Ty} (Ug:τ.Aq=false) (x:τ.den):Ta fr τ x= [.data fr τ x]:=by
 cases τ<;>first|rfl|simp [Ty.Aq] at Ug
theorem KV {S:Nat->Prop} {τ:Ty} {v:Value} {x:τ.den} (h:Cells w S τ [v] x):v.oneCell'=true:=Cells.plain τ [v] x h v (by simp)
theorem pZ {fr:Bool} : ∀(τ:Ty) (us:List Value) (x:τ.den),Cells w (Cx X.w0.heap.size X.Sc π fr) τ us x->Gb X w π H (Ta fr τ x) us:=by
 have one: ∀(τ:Ty) (us:List Value) (x:τ.den),τ.Aq=false->Cells w (Cx X.w0.heap.size X.Sc π fr) τ us x->Gb X w π H (Ta fr τ x) us:=by
  intro τ us x Ug h
  rw [DA fr Ug]
  have hl:=Cells.len τ us x h
  have h1:τ.size=1:=by cases τ<;>simp_all [Ty.Aq,Ty.size]
  rw [h1] at hl
  obtain ⟨u,rfl⟩:=Dz.1 hl
  refine ⟨rfl,λi c hc=>?_⟩
  rcases i with _|i
  ·simp at hc;subst hc
   exact ⟨u,rfl,KV h,[u],h,by simp [By,Ug]⟩
  ·simp at hc
 intro τ
 induction τ with
 |unit=>intro us x h;simp only [Cells] at h;subst h;exact ⟨rfl,λi c hc=>by simp [Ta] at hc⟩
 |pair a r gX gT=>
  intro us x h
  simp only [Cells] at h
  obtain ⟨c1,c2,rfl,h1,h2⟩:=h
  have r1:=gX c1 x.1 h1
  have r2:=gT c2 x.2 h2
  refine ⟨by simp [Ta,r1.1,r2.1],λi c hc=>?_⟩
  simp only [Ta] at hc
  by_cases hi:i<(Ta fr a x.1).length
  ·rw [At hi] at hc
   obtain ⟨u,hu,h3⟩:=r1.2 i c hc
   exact ⟨u,by rw [At (by rw [r1.1];exact hi)];exact hu,h3⟩
  ·rw [As (by omega)] at hc
   obtain ⟨u,hu,h3⟩:=r2.2 _ c hc
   exact ⟨u,by rw [As (by rw [r1.1];omega),r1.1];exact hu,h3⟩
 |_=>exact λus x h=>one _ us x rfl h
theorem iu {τ:Ty} {c:AV} {v:Value} {cs:List AC} (h:Bm X w π H c v) (hc:cellsOf τ c=some cs):
  ∃us:List Value,v.cells=us.toArray/\us.length=τ.size/\Gb X w π H cs us:=by
 have single: ∀a:AC,(if τ.Aq then none else some [a])=some cs->Ia X w π H a v->v.oneCell'=true->v.cells= #[v]-> ∃us:List Value,v.cells=us.toArray/\us.length=τ.size/\Gb X w π H cs us:=by
  intro a ha hr h1 h2
  split at ha
  ·cases ha
  ·rename_i hs
   simp only [Aa] at ha;subst ha
   simp only [Hx] at hs
   have h3:τ.size=1:=by cases τ<;>simp_all [Ty.Aq,Ty.size]
   refine ⟨[v],h2,by rw [h3];rfl,rfl,λi c hc=>?_⟩
   rcases i with _|i
   ·simp at hc;subst hc;exact ⟨v,rfl,h1,hr⟩
   ·simp at hc
 cases c with
 |agg ds=>
  simp only [cellsOf] at hc
  split at hc
  ·rename_i Ki
   simp only [Ag,beq_iff_eq] at Ki
   simp only [Aa] at hc;subst hc
   obtain ⟨us,rfl,hr⟩:=h
   exact ⟨us,rfl,by rw [hr.1,Ki.2],hr⟩
  ·cases hc
 |bw fr Ov x=>simp [cellsOf] at hc
 |Nd l=>simp [cellsOf] at hc
 | «at»a=>
  cases a with
  |data fr Ov x=>
   simp only [cellsOf] at hc
   split at hc
   ·rename_i ht;subst ht
    simp only [Aa] at hc;subst hc
    obtain ⟨us,h1,rfl⟩:=h
    exact ⟨us,Lp Ov us x h1,Cells.len Ov us x h1,pZ Ov us x h1⟩
   ·cases hc
  |undef=>simp [cellsOf] at hc
  |skip=>simp [cellsOf] at hc
  |Mo=>have hv:v= .slice none 0 0:=h;exact single .Mo hc h (by rw [hv];rfl) (by rw [hv];rfl)
  |Vw=>have hv:v= .pointer none:=h;exact single .Vw hc h (by rw [hv];rfl) (by rw [hv];rfl)
  |own l off len=>
   have h':=h
   obtain ⟨b,sz,n,_,_,_,ho⟩:=h
   have hv: ∃a l c,v= .slice a l c:=by
    cases hp:π l with
    |none=>rw [hp] at ho;obtain ⟨rfl,_⟩:=ho;exact ⟨_,_,_,rfl⟩
    |some r=>rw [hp] at ho;obtain ⟨ad,rfl,_⟩:=ho;exact ⟨_,_,_,rfl⟩
   obtain ⟨a1,l1,c1,hv⟩:=hv
   exact single _ hc h' (by rw [hv];rfl) (by rw [hv];rfl)
  |Hs l i=>
   have h':=h
   obtain ⟨r,tid,vs,_,_,hv⟩:=h
   exact single _ hc h' (by rw [hv];rfl) (by rw [hv];rfl)
  |Ku l i=>
   have h':=h
   obtain ⟨r,b,sz,n,_,_,_,_,hv⟩:=h
   exact single _ hc h' (by rw [hv];rfl) (by rw [hv];rfl)
  |sub l i c0=>
   have h':=h
   obtain ⟨r,b,sz,n,_,_,_,_,⟨_,a,n,m,hv⟩,_⟩:=h
   exact single _ hc h' (by rw [hv];rfl) (by rw [hv];rfl)
  |Kr l i c0=>
   have h':=h
   obtain ⟨r,b,n,sz,g,o,len,cap,_,_,_,_,_,_,hv⟩:=h
   exact single _ hc h' (by rw [hv];rfl) (by rw [hv];rfl)
  |clo f Ec=>
   have h':=h
   obtain ⟨us,hv,_⟩:=h
   exact single _ hc h' (by rw [hv];rfl) (by rw [hv];rfl)
  |Lb l=>
   have h':=h
   obtain ⟨r,vt,m,_,_,hv⟩:=h
   exact single _ hc h' (by rw [hv];rfl) (by rw [hv];rfl)
theorem uO {vs cs:List AC} {us ns:List Value} (h:Gb X w π H vs us) (h2:Gb X w π H cs ns) (i:Nat) (hi:i+cs.length<=vs.length):
  Gb X w π H (Dt vs i cs) (Dt us i ns):=by
 have e1:=h.1
 have e2:=h2.1
 refine ⟨by simp [Dt,e1,e2],λj c hc=>?_⟩
 unfold Dt at hc⊢
 have t1:(vs.take i).length=i:=by simp;omega
 have t2:(us.take i).length=i:=by simp;omega
 by_cases h3:j<i
 ·rw [Co,At (by omega),Cs,Ab h3] at hc
  obtain ⟨u,hu,h4⟩:=h.2 j c hc
  exact ⟨u,by rw [Co,At (by omega),Cs,Ab h3];exact hu,h4⟩
 ·by_cases h4:j<i+cs.length
  ·rw [Co,As (by omega),t1,At (by omega)] at hc
   obtain ⟨u,hu,h5⟩:=h2.2 _ c hc
   exact ⟨u,by rw [Co,As (by omega),t2,At (by omega)];exact hu,h5⟩
  ·rw [As (by simp;omega),Da] at hc
   obtain ⟨u,hu,h5⟩:=h.2 _ c hc
   refine ⟨u,?_,h5⟩
   rw [As (by simp;omega),Da]
   rw [<-hu]
   congr 1
   simp
   omega
theorem Nx (w:World) (g:Nat) (cs:Array Value):w.grownBy (w.setRow g cs) (some g):=
 ⟨rfl,rfl,rfl,by simp,λk _ hk=>setRow_other w g k cs (λe=>hk (by rw [e]))⟩
theorem Ws {t:TypeId} {τ:Ty} (ht:qV P T t τ) (g i:Nat) (v:Value) (us:List Value) (hv:v.cells=us.toArray) (hl:us.length=τ.size) (h1: ∀u∈us,u.oneCell'=true)
  (cur:Array Value) (tid:TypeId) (hg:w.heap[g]?=some (.cells cur tid (0,0))) (hle:i+us.length<=cur.size):
  (storeVar t ⟨g,i,none⟩ v).run P w= .ok () (w.setRow g (Dt cur.toList i us).toArray):=by
 unfold storeVar
 rw [hv]
 simp only [Sem.run_bind,ht.size,Result.andThen_ok,Hc,hl]
 have:=run_storeCells_at P g i tid us 0 cur w hg (by simpa using hle) h1
 simp only [En] at this
 simpa [Dt,hl] using this
def hZ (P:Program) (X:Ctx) (st':St) (a:Act) (w:World) (av:AV):Result Next->Prop
 | .ok (.value v) w'=> ∃π',Bh X π' st' a w'/\Bm X w' π' st'.heap av v
 | .ok .skip w'=> ∃π',Bh X π' st' a w'/\Bm X w' π' st'.heap av undef
 | .ok (.enter f args) w'=>w'=w/\Calls P f args w (λe qQ=> ∃v,e= .returned v/\ ∃π',Bh X π' st' a qQ/\Bm X qQ π' st'.heap av v)
 |_=>False
theorem AJ (hT:Eb P T) {st:St} {a:Act} (h:Bh X π st a w) {t:TypeId} {τ:Ty} (ht:T.ty t=some τ) {l i:Nat} {vp vx:Value} {x:AV} {tid:TypeId} {vs cs:List AC}
  (hp:Bm X w π st.heap (.at (.Hs l i)) vp) (hx:Bm X w π st.heap x vx) (hl:st.at l=some (.var tid vs)) (hc:cellsOf τ x=some cs) (hle:i+cs.length<=vs.length):
  ∃w',(Instr.storeAt t vp vx).run P w= .ok () w'/\Bh X π (st.Kq l (.var tid (Dt vs i cs))) a w':=by
 obtain ⟨r,Vd,vs',h1,h2,rfl⟩:=hp
 unfold St.at at hl
 rw [hl] at h1;cases h1
 obtain ⟨r',h3,h4,cur,h5,h6⟩:=(h.1.heap l).Rz hl
 rw [h2] at h3;cases h3
 obtain ⟨us,hv,hlu,hr⟩:=iu hx hc
 have yK:us.length=cs.length:=hr.1
 have gP:cur.toList.length=vs.length:=h6.1
 have Ai0: ∀u∈us,u.oneCell'=true:=by
  intro u hu
  obtain ⟨j,hj,rfl⟩:=Nw hu
  obtain ⟨u',fm,h7,_⟩:=hr.2 j cs[j] (Ac (by omega))
  rw [Ac hj] at fm
  simp only [Aa] at fm
  rw [fm];exact h7
 have Vv:=Ws (P:=P) (w:=w) (hT.ty _ _ ht) r.g i vx us hv hlu Ai0 cur tid h5 (by simp at gP;omega)
 refine ⟨_,by simp only [Instr.storeAt,Instr.sureAddr];simpa using Vv,?_⟩
 refine h.set hl (b:= .var tid (Dt vs i cs)) trivial (by rw [h2];exact Nx w r.g _) λm=>?_
 refine ⟨r,h2,h4,_,setRow_heap w r.g cur _ tid _ h5,?_⟩
 have m1:=m.acs h6
 have m2:=m.acs hr
 simp only [List.map_id'] at m1 m2
 exact uO m1 m2 i hle
theorem Vt {α:Type} : ∀(l:List α) (i:Nat) (x:α),Tg l i x=l.set i x
 | [],i,x=>by cases i<;>rfl
 |_::_,0,_=>rfl
 |y::r,n+1,x=>by simp [Tg,Vt r n x]
def OD (st:St) (l:Nat):Prop:= ∃tid vs,Av st.heap l=some (.var tid vs)
theorem iC (te:TypeId) (e:Ty) (w:World) (π:Pi) (H:List (Nat×OB)):Cg X w π H none (dQ T te e):=by
 unfold dQ
 split
 ·exact ⟨rfl,trivial⟩
 ·rfl
theorem mW (te:TypeId) (e:Ty): ∃sz,(dQ T te e).row=some (sz,0):=by
 unfold dQ
 split<;>exact ⟨_,rfl⟩
theorem j9 {st:St} {a:Act} (h:Bh X π st a w) {b:OB} (hb0: ∀(w:World) (π:Pi) (H:List (Nat×OB)),Cg X w π H none b) {sz:Nat} (ct:b.row=some (sz,0)) (key l i:Nat) (YC:key<Bl):
  ∃π',Bh X π' (Vb b key l i st) a w/\(OD (Vb b key l i st) l->OD st l/\π' l=π l):=by
 unfold Vb
 split
 ·rename_i tid vs hl
  split
  ·rename_i hi
   have h1:=h.replace (w':=w) key YC none b (Qf w _) (λr hr=>by cases hr) (λ_=>hb0 _ _ _)
   dsimp only
   unfold St.at at hl
   split
   ·rename_i Vd vs' Mb
    unfold St.at at Mb
    have Tc:key≠l:=by
     intro e
     subst e
     rw [St.Hg] at Mb
     cases Mb
     cases ct
    refine ⟨_,h1.set Mb (b:= .var Vd (Tg vs' i (.own key 0 0))) trivial (Qf w _) λm=>?_,λ_=>⟨⟨tid,vs,hl⟩,Gl π none (Hr Tc)⟩⟩
    obtain ⟨r,h3,h4,cur,h5,h6⟩:=(h1.1.heap l).Rz Mb
    have m1:=m.acs h6
    simp only [List.map_id'] at m1
    refine ⟨r,h3,h4,cur,h5,?_⟩
    have Jl:=St.Zy st key l b (Hr Tc)
    rw [hl,Mb] at Jl
    simp only [Ak,Aa,OB.map,OB.var.injEq] at Jl
    obtain ⟨rfl,rfl⟩:=Jl
    refine ⟨by rw [a9];exact m1.1,λj c hc=>?_⟩
    rw [Vt,Eg] at hc
    split at hc
    ·rename_i jT;subst jT
     split at hc
     ·simp only [Aa] at hc;subst hc
      obtain ⟨u,hu,DR,xb⟩:=m1.2 i (.Mo) (by rw [Fk,hi];rfl)
      refine ⟨u,hu,DR,b,sz,0,?_,ct,Ap _,?_⟩
      ·rw [show Av ((st.new key b).Kq l _).heap key=Av (st.new key b).heap key from Dx _ _ _ _ Tc]
       exact St.Hg st key _
      ·rw [Gt];exact ⟨xb,rfl,rfl⟩
     ·cases hc
    ·exact m1.2 j c hc
   ·rename_i hno
    refine ⟨_,h1,λ⟨t1,v1,hv⟩=>?_⟩
    exact absurd hv (hno t1 v1)
  ·unfold St.at at hl
   exact ⟨_,h,λhv=>⟨hv,rfl⟩⟩
 ·exact ⟨_,h,λhv=>⟨hv,rfl⟩⟩
theorem ja (l:Nat) (t:TypeId) (τ:Ty) {a:Act} : ∀(n i:Nat) (st:St) (π:Pi),100000+l*100+i+n<Bl->Bh X π st a w->
  ∃π',Bh X π' (fG T l t τ n i st) a w/\(OD (fG T l t τ n i st) l->OD st l/\π' l=π l)
 |0,i,st,π,_,h=>⟨π,h,λhv=>⟨hv,rfl⟩⟩
 |n+1,i,st,π,Lr,h=>by
  unfold fG
  split
  ·rename_i te e _
   obtain ⟨sz,ct⟩:=mW (T:=T) te e
   obtain ⟨cn,h1,k1⟩:=j9 h (iC te e) ct (100000+l*100+i) l i (by omega)
   obtain ⟨VV,h2,k2⟩:=ja l t τ n (i+1) _ cn (by omega) h1
   exact ⟨VV,h2,λhv=>⟨(k1 (k2 hv).1).1,(k2 hv).2.trans (k1 (k2 hv).1).2⟩⟩
  ·obtain ⟨VV,h2,k2⟩:=ja l t τ n (i+1) _ π (by omega) h
   exact ⟨VV,h2,k2⟩
theorem fH (l off:Nat) (t:TypeId) (τ:Ty) {a:Act} : ∀(n i:Nat) (st:St) (π:Pi),100000+l*100+(off+i+n)<Bl->Bh X π st a w-> ∃π',Bh X π' (ew T l off t τ n i st) a w
 |0,i,st,π,_,h=>⟨π,h⟩
 |n+1,i,st,π,Lr,h=>by
  unfold ew
  split
  ·rename_i te e _
   obtain ⟨cn,h1,_⟩:=j9 h (iC te e) (mW (T:=T) te e).choose_spec (100000+l*100+(off+i)) l (off+i) (by omega)
   exact fH l off t τ n (i+1) _ cn (by omega) h1
  ·exact fH l off t τ n (i+1) _ π (by omega) h
theorem zm {st:St} {a:Act} (h:Bh X π st a w) (l:Nat) (t:TypeId) (cs:List AC) (us:List Value) (hr:Gb X w π st.heap cs us) (av:AV) (st':St)
  (he:tM st l t cs=some (av,st')):
  ∃π',Bh X π' st' a (w.alloc (.cells us.toArray t))/\Bm X (w.alloc (.cells us.toArray t)) π' st'.heap av (.pointer (some ⟨w.heap.size,0,none⟩)):=by
 unfold tM at he
 split at he
 ·cases he
 rename_i dq
 simp only [Aa,Ae] at he
 obtain ⟨rfl,rfl⟩:=he
 have h1:Bh X (Xc π l (some (Real.one w.heap.size 0 0))) (st.new l (.var t (cs.map (Ck l)))) a (w.alloc (.cells us.toArray t)):=by
  refine h.replace l (by omega) (some (Real.one w.heap.size 0 0)) (.var t (cs.map (Ck l))) (World.grownBy_alloc w _ _) (λr kx=>by cases kx;exact ⟨rfl, .inr (Ap _),by simp [Real.one]⟩) λm=>?_
  exact ⟨_,rfl,rfl,us.toArray,heap_alloc_new w _,m.acs (by simpa using hr)⟩
 exact ⟨_,h1,_,t,_,St.Hg ..,Gt ..,rfl⟩
theorem qt {st:St} {a:Act} (h:Bh X π st a w) (l:Nat) (t:TypeId) (τ:Ty) (cs:List AC) (us:List Value) (hr:Gb X w π st.heap cs us) (av:AV) (st':St)
  (he:mkVar T st l t τ cs=some (av,st')):
  ∃π',Bh X π' st' a (w.alloc (.cells us.toArray t))/\Bm X (w.alloc (.cells us.toArray t)) π' st'.heap av (.pointer (some ⟨w.heap.size,0,none⟩)):=by
 unfold mkVar at he
 split at he
 ·cases he
 rename_i dq
 have h1:Bh X (Xc π l (some (Real.one w.heap.size 0 0))) (st.new l (.var t (cs.map (Ck l)))) a (w.alloc (.cells us.toArray t)):=by
  refine h.replace l (by omega) (some (Real.one w.heap.size 0 0)) (.var t (cs.map (Ck l))) (World.grownBy_alloc w _ _) (λr kx=>by cases kx;exact ⟨rfl, .inr (Ap _),by simp [Real.one]⟩) λm=>?_
  exact ⟨_,rfl,rfl,us.toArray,heap_alloc_new w _,m.acs (by simpa using hr)⟩
 obtain ⟨VV,h2,k2⟩:=ja (T:=T) l t τ cs.length 0 _ _ (by omega) h1
 dsimp only at he
 split at he
 ·rename_i tid vs hl
  unfold St.at at hl
  simp only [Aa,Ae] at he
  obtain ⟨rfl,rfl⟩:=he
  have:=(k2 ⟨tid,vs,hl⟩).2
  rw [Gt] at this
  exact ⟨VV,h2,_,tid,vs,hl,this,rfl⟩
 ·cases he
end
end Go.Proofs.YtkkdpknjohcekaaGreat
