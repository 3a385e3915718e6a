/-
  Part 10 of the proof that the statement FnTables holds.
-/
import Derived.Test.YtkkdpknjohcekaaCFTables08
namespace Go.Proofs.Ytkkdpknjohcekaa
open Go.RowKit
section
variable {P:Program} {T:Tab} {X:Ctx} {w w':World} {π:Pi} {H:List (Nat×OB)}
theorem Oq (w:World) (row:Option Nat):w.grownBy w row:=⟨rfl,rfl,rfl,Ar _,λ_ _ _=>rfl⟩
theorem yG (fr:Bool) {τ:Ty} (Sf:τ.Am=false) (x:τ.den):Qy fr τ x= [.data fr τ x]:=by
 cases τ<;>first|rfl|simp [Ty.Am] at Sf
theorem DX {S:Nat->Prop} {τ:Ty} {v:Value} {x:τ.den} (h:Cells w S τ [v] x):v.oneCell'=true:=Cells.plain τ [v] x h v (by simp)
theorem nC {fr:Bool} : ∀(τ:Ty) (us:List Value) (x:τ.den),Cells w (Cp X.w0.heap.size X.Sc π fr) τ us x->Fh X w π H (Qy fr τ x) us:=by
 have one: ∀(τ:Ty) (us:List Value) (x:τ.den),τ.Am=false->Cells w (Cp X.w0.heap.size X.Sc π fr) τ us x->Fh X w π H (Qy fr τ x) us:=by
  intro τ us x Sf h
  rw [yG fr Sf]
  have hl:=Cells.len τ us x h
  have h1:τ.size=1:=by cases τ<;>simp_all [Ty.Am,Ty.size]
  rw [h1] at hl
  obtain ⟨u,rfl⟩:=Dv.1 hl
  refine ⟨rfl,λi c hc=>?_⟩
  rcases i with _|i
  ·simp at hc;subst hc
   exact ⟨u,rfl,DX h,[u],h,by simp [Bs,Sf]⟩
  ·simp at hc
 intro τ
 induction τ with
 |unit=>intro us x h;simp only [Cells] at h;subst h;exact ⟨rfl,λi c hc=>by simp [Qy] at hc⟩
 |pair a r fa eV=>
  intro us x h
  simp only [Cells] at h
  obtain ⟨c1,c2,rfl,h1,h2⟩:=h
  have r1:=fa c1 x.1 h1
  have r2:=eV c2 x.2 h2
  refine ⟨by simp [Qy,r1.1,r2.1],λi c hc=>?_⟩
  simp only [Qy] at hc
  by_cases hi:i<(Qy fr a x.1).length
  ·rw [Ap hi] at hc
   obtain ⟨u,hu,h3⟩:=r1.2 i c hc
   exact ⟨u,by rw [Ap (by rw [r1.1];exact hi)];exact hu,h3⟩
  ·rw [Ao (by omega)] at hc
   obtain ⟨u,hu,h3⟩:=r2.2 _ c hc
   exact ⟨u,by rw [Ao (by rw [r1.1];omega),r1.1];exact hu,h3⟩
 |_=>exact λus x h=>one _ us x rfl h
theorem fv {τ:Ty} {c:AV} {v:Value} {cs:List AC} (h:Bi X w π H c v) (hc:cellsOf τ c=some cs):
  ∃us:List Value,v.cells=us.toArray/\us.length=τ.size/\Fh X w π H cs us:=by
 have single: ∀a:AC,(if τ.Am then none else some [a])=some cs->Gx X w π H a v->v.oneCell'=true->v.cells= #[v]-> ∃us:List Value,v.cells=us.toArray/\us.length=τ.size/\Fh X w π H cs us:=by
  intro a ha hr h1 h2
  split at ha
  ·cases ha
  ·rename_i hs
   simp only [Aa] at ha;subst ha
   simp only [Ht] at hs
   have h3:τ.size=1:=by cases τ<;>simp_all [Ty.Am,Ty.size]
   refine ⟨[v],h2,by rw [h3];rfl,rfl,λi c hc=>?_⟩
   rcases i with _|i
   ·simp at hc;subst hc;exact ⟨v,rfl,h1,hr⟩
   ·simp at hc
 cases c with
 |agg ds=>
  simp only [cellsOf] at hc
  split at hc
  ·rename_i Jd
   simp only [Ag,bZ] at Jd
   simp only [Aa] at hc;subst hc
   obtain ⟨us,rfl,hr⟩:=h
   exact ⟨us,rfl,by rw [hr.1,Jd.2],hr⟩
  ·cases hc
 |Zw fr Nh x=>simp [cellsOf] at hc
 |Mb l=>simp [cellsOf] at hc
 | «at»a=>
  cases a with
  |data fr Nh x=>
   simp only [cellsOf] at hc
   split at hc
   ·rename_i ht;subst ht
    simp only [Aa] at hc;subst hc
    obtain ⟨us,h1,rfl⟩:=h
    exact ⟨us,Ki Nh us x h1,Cells.len Nh us x h1,nC Nh us x h1⟩
   ·cases hc
  |undef=>simp [cellsOf] at hc
  |skip=>simp [cellsOf] at hc
  |Le=>have hv:v= .slice none 0 0:=h;exact single .Le hc h (by rw [hv];rfl) (by rw [hv];rfl)
  |Ua=>have hv:v= .pointer none:=h;exact single .Ua hc h (by rw [hv];rfl) (by rw [hv];rfl)
  |own l off len=>
   have h':=h
   obtain ⟨b,sz,n,_,_,_,ho⟩:=h
   have hv: ∃a l c,v= .slice a l c:=by
    cases hp:π l with
    |none=>rw [hp] at ho;obtain ⟨rfl,_⟩:=ho;exact ⟨_,_,_,rfl⟩
    |some r=>rw [hp] at ho;obtain ⟨ad,rfl,_⟩:=ho;exact ⟨_,_,_,rfl⟩
   obtain ⟨a1,l1,c1,hv⟩:=hv
   exact single _ hc h' (by rw [hv];rfl) (by rw [hv];rfl)
  |Gs l i=>
   have h':=h
   obtain ⟨r,tid,vs,_,_,hv⟩:=h
   exact single _ hc h' (by rw [hv];rfl) (by rw [hv];rfl)
  |Jl l i=>
   have h':=h
   obtain ⟨r,b,sz,n,_,_,_,_,hv⟩:=h
   exact single _ hc h' (by rw [hv];rfl) (by rw [hv];rfl)
  |sub l i c0=>
   have h':=h
   obtain ⟨r,b,sz,n,_,_,_,_,⟨_,a,n,m,hv⟩,_⟩:=h
   exact single _ hc h' (by rw [hv];rfl) (by rw [hv];rfl)
  |Ji l i c0=>
   have h':=h
   obtain ⟨r,b,n,sz,g,o,len,cap,_,_,_,_,_,_,hv⟩:=h
   exact single _ hc h' (by rw [hv];rfl) (by rw [hv];rfl)
  |clo f Dy=>
   have h':=h
   obtain ⟨us,hv,_⟩:=h
   exact single _ hc h' (by rw [hv];rfl) (by rw [hv];rfl)
  |Jw l=>
   have h':=h
   obtain ⟨r,vt,m,_,_,hv⟩:=h
   exact single _ hc h' (by rw [hv];rfl) (by rw [hv];rfl)
theorem rW {vs cs:List AC} {us ns:List Value} (h:Fh X w π H vs us) (h2:Fh X w π H cs ns) (i:Nat) (hi:i+cs.length<=vs.length):
  Fh X w π H (Dq vs i cs) (Dq us i ns):=by
 have e1:=h.1
 have e2:=h2.1
 refine ⟨by simp [Dq,e1,e2],λj c hc=>?_⟩
 unfold Dq at hc⊢
 have t1:(vs.take i).length=i:=by simp;omega
 have t2:(us.take i).length=i:=by simp;omega
 by_cases h3:j<i
 ·rw [Cz,Ap (by omega),Ck,Ab h3] at hc
  obtain ⟨u,hu,h4⟩:=h.2 j c hc
  exact ⟨u,by rw [Cz,Ap (by omega),Ck,Ab h3];exact hu,h4⟩
 ·by_cases h4:j<i+cs.length
  ·rw [Cz,Ao (by omega),t1,Ap (by omega)] at hc
   obtain ⟨u,hu,h5⟩:=h2.2 _ c hc
   exact ⟨u,by rw [Cz,Ao (by omega),t2,Ap (by omega)];exact hu,h5⟩
  ·rw [Ao (by simp;omega),Ct] at hc
   obtain ⟨u,hu,h5⟩:=h.2 _ c hc
   refine ⟨u,?_,h5⟩
   rw [Ao (by simp;omega),Ct]
   rw [<-hu]
   congr 1
   simp
   omega
theorem Mr (w:World) (g:Nat) (cs:Array Value):w.grownBy (w.setRow g cs) (some g):=
 ⟨rfl,rfl,rfl,by simp,λk _ hk=>setRow_other w g k cs (λe=>hk (by rw [e]))⟩
theorem Uy {t:TypeId} {τ:Ty} (ht:pD P T t τ) (g i:Nat) (v:Value) (us:List Value) (hv:v.cells=us.toArray) (hl:us.length=τ.size) (h1: ∀u∈us,u.oneCell'=true)
  (cur:Array Value) (tid:TypeId) (hg:w.heap[g]?=some (.cells cur tid (0,0))) (hle:i+us.length<=cur.size):
  (storeVar t ⟨g,i,none⟩ v).run P w= .ok () (w.setRow g (Dq cur.toList i us).toArray):=by
 unfold storeVar
 rw [hv]
 simp only [Sem.run_bind,ht.size,Result.andThen_ok,Gj,hl]
 have:=run_storeCells_at P g i tid us 0 cur w hg (by simpa using hle) h1
 simp only [Ef] at this
 simpa [Dq,hl] using this
def fe (P:Program) (X:Ctx) (st':St) (a:Act) (w:World) (av:AV):Result Next->Prop
 | .ok (.value v) w'=> ∃π',Bd X π' st' a w'/\Bi X w' π' st'.heap av v
 | .ok .skip w'=> ∃π',Bd X π' st' a w'/\Bi X w' π' st'.heap av undef
 | .ok (.enter f args) w'=>w'=w/\Calls P f args w (λe oc=> ∃v,e= .returned v/\ ∃π',Bd X π' st' a oc/\Bi X oc π' st'.heap av v)
 |_=>False
theorem xy (hT:Ed P T) {st:St} {a:Act} (h:Bd X π st a w) {t:TypeId} {τ:Ty} (ht:T.ty t=some τ) {l i:Nat} {vp vx:Value} {x:AV} {tid:TypeId} {vs cs:List AC}
  (hp:Bi X w π st.heap (.at (.Gs l i)) vp) (hx:Bi X w π st.heap x vx) (hl:st.at l=some (.var tid vs)) (hc:cellsOf τ x=some cs) (hle:i+cs.length<=vs.length):
  ∃w',(Instr.storeAt t vp vx).run P w= .ok () w'/\Bd X π (st.Jh l (.var tid (Dq vs i cs))) a w':=by
 obtain ⟨r,Tf,vs',h1,h2,rfl⟩:=hp
 unfold St.at at hl
 rw [hl] at h1;cases h1
 obtain ⟨r',h3,h4,cur,h5,h6⟩:=(h.1.heap l).Qi hl
 rw [h2] at h3;cases h3
 obtain ⟨us,hv,hlu,hr⟩:=fv hx hc
 have vZ:us.length=cs.length:=hr.1
 have eQ:cur.toList.length=vs.length:=h6.1
 have Aag: ∀u∈us,u.oneCell'=true:=by
  intro u hu
  obtain ⟨j,hj,rfl⟩:=Ja hu
  obtain ⟨u',eU,h7,_⟩:=hr.2 j cs[j] (Ac (by omega))
  rw [Ac hj] at eU
  simp only [Aa] at eU
  rw [eU];exact h7
 have Tz:=Uy (P:=P) (w:=w) (hT.ty _ _ ht) r.g i vx us hv hlu Aag cur tid h5 (by simp at eQ;omega)
 refine ⟨_,by simp only [Instr.storeAt,Instr.sureAddr];simpa using Tz,?_⟩
 refine h.set hl (b:= .var tid (Dq vs i cs)) trivial (by rw [h2];exact Mr w r.g _) λm=>?_
 refine ⟨r,h2,h4,_,setRow_heap w r.g cur _ tid _ h5,?_⟩
 have m1:=m.TW h6
 have m2:=m.TW hr
 simp only [List.map_id'] at m1 m2
 exact rW m1 m2 i hle
theorem Tv {α:Type} : ∀(l:List α) (i:Nat) (x:α),Rg l i x=l.set i x
 | [],i,x=>by cases i<;>rfl
 |_::_,0,_=>rfl
 |y::r,n+1,x=>by simp [Rg,Tv r n x]
def GQ (st:St) (l:Nat):Prop:= ∃tid vs,Aq st.heap l=some (.var tid vs)
theorem fF (te:TypeId) (e:Ty) (w:World) (π:Pi) (H:List (Nat×OB)):Bw X w π H none (cc T te e):=by
 unfold cc
 split
 ·exact ⟨rfl,trivial⟩
 ·rfl
theorem kS (te:TypeId) (e:Ty): ∃sz,(cc T te e).row=some (sz,0):=by
 unfold cc
 split<;>exact ⟨_,rfl⟩
theorem gA {st:St} {a:Act} (h:Bd X π st a w) {b:OB} (ZP: ∀(w:World) (π:Pi) (H:List (Nat×OB)),Bw X w π H none b) {sz:Nat} (bJ:b.row=some (sz,0)) (key l i:Nat) (lj:key<Bf):
  ∃π',Bd X π' (Tb b key l i st) a w/\(GQ (Tb b key l i st) l->GQ st l/\π' l=π l):=by
 unfold Tb
 split
 ·rename_i tid vs hl
  split
  ·rename_i hi
   have h1:=h.replace (w':=w) key lj none b (Oq w _) (λr hr=>by cases hr) (λ_=>ZP _ _ _)
   dsimp only
   unfold St.at at hl
   split
   ·rename_i Tf vs' Ns
    unfold St.at at Ns
    have Ra:key≠l:=by
     intro e
     subst e
     rw [St.Gm] at Ns
     cases Ns
     cases bJ
    refine ⟨_,h1.set Ns (b:= .var Tf (Rg vs' i (.own key 0 0))) trivial (Oq w _) λm=>?_,λ_=>⟨⟨tid,vs,hl⟩,Fv π none (Hi Ra)⟩⟩
    obtain ⟨r,h3,h4,cur,h5,h6⟩:=(h1.1.heap l).Qi Ns
    have m1:=m.TW h6
    simp only [List.map_id'] at m1
    refine ⟨r,h3,h4,cur,h5,?_⟩
    have Jg:=St.Xr st key l b (Hi Ra)
    rw [hl,Ns] at Jg
    simp only [Ai,Aa,OB.map,OB.var.injEq] at Jg
    obtain ⟨rfl,rfl⟩:=Jg
    refine ⟨by rw [Xx];exact m1.1,λj c hc=>?_⟩
    rw [Tv,Dp] at hc
    split at hc
    ·rename_i il;subst il
     split at hc
     ·simp only [Aa] at hc;subst hc
      obtain ⟨u,hu,JU,u4⟩:=m1.2 i (.Le) (by rw [Fk,hi];rfl)
      refine ⟨u,hu,JU,b,sz,0,?_,bJ,Ar _,?_⟩
      ·rw [show Aq ((st.new key b).Jh l _).heap key=Aq (st.new key b).heap key from Dt _ _ _ _ Ra]
       exact St.Gm st key _
      ·rw [Ga];exact ⟨u4,rfl,rfl⟩
     ·cases hc
    ·exact m1.2 j c hc
   ·rename_i XZ
    refine ⟨_,h1,λ⟨t1,v1,hv⟩=>?_⟩
    exact absurd hv (XZ t1 v1)
  ·unfold St.at at hl
   exact ⟨_,h,λhv=>⟨hv,rfl⟩⟩
 ·exact ⟨_,h,λhv=>⟨hv,rfl⟩⟩
theorem gB (l:Nat) (t:TypeId) (τ:Ty) {a:Act} : ∀(n i:Nat) (st:St) (π:Pi),100000+l*100+i+n<Bf->Bd X π st a w->
  ∃π',Bd X π' (dB T l t τ n i st) a w/\(GQ (dB T l t τ n i st) l->GQ st l/\π' l=π l)
 |0,i,st,π,_,h=>⟨π,h,λhv=>⟨hv,rfl⟩⟩
 |n+1,i,st,π,Js,h=>by
  unfold dB
  split
  ·rename_i te e _
   obtain ⟨sz,bJ⟩:=kS (T:=T) te e
   obtain ⟨aK,h1,k1⟩:=gA h (fF te e) bJ (100000+l*100+i) l i (by omega)
   obtain ⟨NI,h2,k2⟩:=gB l t τ n (i+1) _ aK (by omega) h1
   exact ⟨NI,h2,λhv=>⟨(k1 (k2 hv).1).1,(k2 hv).2.trans (k1 (k2 hv).1).2⟩⟩
  ·obtain ⟨NI,h2,k2⟩:=gB l t τ n (i+1) _ π (by omega) h
   exact ⟨NI,h2,k2⟩
theorem dC (l off:Nat) (t:TypeId) (τ:Ty) {a:Act} : ∀(n i:Nat) (st:St) (π:Pi),100000+l*100+(off+i+n)<Bf->Bd X π st a w-> ∃π',Bd X π' (cC T l off t τ n i st) a w
 |0,i,st,π,_,h=>⟨π,h⟩
 |n+1,i,st,π,Js,h=>by
  unfold cC
  split
  ·rename_i te e _
   obtain ⟨aK,h1,_⟩:=gA h (fF te e) (kS (T:=T) te e).choose_spec (100000+l*100+(off+i)) l (off+i) (by omega)
   exact dC l off t τ n (i+1) _ aK (by omega) h1
  ·exact dC l off t τ n (i+1) _ π (by omega) h
theorem wG {st:St} {a:Act} (h:Bd X π st a w) (l:Nat) (t:TypeId) (cs:List AC) (us:List Value) (hr:Fh X w π st.heap cs us) (av:AV) (st':St)
  (he:qP st l t cs=some (av,st')):
  ∃π',Bd X π' st' a (w.alloc (.cells us.toArray t))/\Bi X (w.alloc (.cells us.toArray t)) π' st'.heap av (.pointer (some ⟨w.heap.size,0,none⟩)):=by
 unfold qP at he
 split at he
 ·cases he
 rename_i dg
 simp only [Aa,Ae] at he
 obtain ⟨rfl,rfl⟩:=he
 have h1:Bd X (Vh π l (some (Real.one w.heap.size 0 0))) (st.new l (.var t (cs.map (Cb l)))) a (w.alloc (.cells us.toArray t)):=by
  refine h.replace l (by omega) (some (Real.one w.heap.size 0 0)) (.var t (cs.map (Cb l))) (World.grownBy_alloc w _ _) (λr iK=>by cases iK;exact ⟨rfl, .inr (Ar _),by simp [Real.one]⟩) λm=>?_
  exact ⟨_,rfl,rfl,us.toArray,heap_alloc_new w _,m.TW (by simpa using hr)⟩
 exact ⟨_,h1,_,t,_,St.Gm ..,Ga ..,rfl⟩
theorem nQ {st:St} {a:Act} (h:Bd X π st a w) (l:Nat) (t:TypeId) (τ:Ty) (cs:List AC) (us:List Value) (hr:Fh X w π st.heap cs us) (av:AV) (st':St)
  (he:mkVar T st l t τ cs=some (av,st')):
  ∃π',Bd X π' st' a (w.alloc (.cells us.toArray t))/\Bi X (w.alloc (.cells us.toArray t)) π' st'.heap av (.pointer (some ⟨w.heap.size,0,none⟩)):=by
 unfold mkVar at he
 split at he
 ·cases he
 rename_i dg
 have h1:Bd X (Vh π l (some (Real.one w.heap.size 0 0))) (st.new l (.var t (cs.map (Cb l)))) a (w.alloc (.cells us.toArray t)):=by
  refine h.replace l (by omega) (some (Real.one w.heap.size 0 0)) (.var t (cs.map (Cb l))) (World.grownBy_alloc w _ _) (λr iK=>by cases iK;exact ⟨rfl, .inr (Ar _),by simp [Real.one]⟩) λm=>?_
  exact ⟨_,rfl,rfl,us.toArray,heap_alloc_new w _,m.TW (by simpa using hr)⟩
 obtain ⟨NI,h2,k2⟩:=gB (T:=T) l t τ cs.length 0 _ _ (by omega) h1
 dsimp only at he
 split at he
 ·rename_i tid vs hl
  unfold St.at at hl
  simp only [Aa,Ae] at he
  obtain ⟨rfl,rfl⟩:=he
  have:=(k2 ⟨tid,vs,hl⟩).2
  rw [Ga] at this
  exact ⟨NI,h2,_,tid,vs,hl,this,rfl⟩
 ·cases he
end
end Go.Proofs.Ytkkdpknjohcekaa
