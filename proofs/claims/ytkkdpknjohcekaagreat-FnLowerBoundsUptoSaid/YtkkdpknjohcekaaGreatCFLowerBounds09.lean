/-
  Part 10 of the proof that the statement FnLowerBounds holds.
-/
import Derived.Test.YtkkdpknjohcekaaGreatCFLowerBounds08
namespace Go.Proofs.YtkkdpknjohcekaaGreat
open Go.RowKit
section
variable {P:Program} {T:Tab} {X:Ctx} {w w':World} {π:Pi} {H:List (Nat×OB)}
theorem Qr (w:World) (row:Option Nat):w.grownBy w row:=⟨rfl,rfl,rfl,Ap _,λ_ _ _=>rfl⟩
theorem CV (fr:Bool) {τ:Ty} (Uv:τ.Ao=false) (x:τ.den):Tm fr τ x= [.data fr τ x]:=by
 cases τ<;>first|rfl|simp [Ty.Ao] at Uv
theorem KY {S:Nat->Prop} {τ:Ty} {v:Value} {x:τ.den} (h:Cells w S τ [v] x):v.oneCell'=true:=Cells.plain τ [v] x h v (by simp)
theorem q6 {fr:Bool} : ∀(τ:Ty) (us:List Value) (x:τ.den),Cells w (Cx X.w0.heap.size X.Sc π fr) τ us x->Gf X w π H (Tm fr τ x) us:=by
 have one: ∀(τ:Ty) (us:List Value) (x:τ.den),τ.Ao=false->Cells w (Cx X.w0.heap.size X.Sc π fr) τ us x->Gf X w π H (Tm fr τ x) us:=by
  intro τ us x Uv h
  rw [CV fr Uv]
  have hl:=Cells.len τ us x h
  have h1:τ.size=1:=by cases τ<;>simp_all [Ty.Ao,Ty.size]
  rw [h1] at hl
  obtain ⟨u,rfl⟩:=Ee.1 hl
  refine ⟨rfl,λi c hc=>?_⟩
  rcases i with _|i
  ·simp at hc;subst hc
   exact ⟨u,rfl,KY h,[u],h,by simp [Ca,Uv]⟩
  ·simp at hc
 intro τ
 induction τ with
 |unit=>intro us x h;simp only [Cells] at h;subst h;exact ⟨rfl,λi c hc=>by simp [Tm] at hc⟩
 |pair a r ib hJ=>
  intro us x h
  simp only [Cells] at h
  obtain ⟨c1,c2,rfl,h1,h2⟩:=h
  have r1:=ib c1 x.1 h1
  have r2:=hJ c2 x.2 h2
  refine ⟨by simp [Tm,r1.1,r2.1],λi c hc=>?_⟩
  simp only [Tm] at hc
  by_cases hi:i<(Tm fr a x.1).length
  ·rw [As hi] at hc
   obtain ⟨u,hu,h3⟩:=r1.2 i c hc
   exact ⟨u,by rw [As (by rw [r1.1];exact hi)];exact hu,h3⟩
  ·rw [Ar (by omega)] at hc
   obtain ⟨u,hu,h3⟩:=r2.2 _ c hc
   exact ⟨u,by rw [Ar (by rw [r1.1];omega),r1.1];exact hu,h3⟩
 |_=>exact λus x h=>one _ us x rfl h
theorem iz {τ:Ty} {c:AV} {v:Value} {cs:List AC} (h:Bl X w π H c v) (hc:cellsOf τ c=some cs):
  ∃us:List Value,v.cells=us.toArray/\us.length=τ.size/\Gf X w π H cs us:=by
 have single: ∀a:AC,(if τ.Ao then none else some [a])=some cs->Ia X w π H a v->v.oneCell'=true->v.cells= #[v]-> ∃us:List Value,v.cells=us.toArray/\us.length=τ.size/\Gf X w π H cs us:=by
  intro a ha hr h1 h2
  split at ha
  ·cases ha
  ·rename_i hs
   simp only [Aa] at ha;subst ha
   simp only [Hc] at hs
   have h3:τ.size=1:=by cases τ<;>simp_all [Ty.Ao,Ty.size]
   refine ⟨[v],h2,by rw [h3];rfl,rfl,λi c hc=>?_⟩
   rcases i with _|i
   ·simp at hc;subst hc;exact ⟨v,rfl,h1,hr⟩
   ·simp at hc
 cases c with
 |agg ds=>
  simp only [cellsOf] at hc
  split at hc
  ·rename_i Kk
   simp only [Af,Xw] at Kk
   simp only [Aa] at hc;subst hc
   obtain ⟨us,rfl,hr⟩:=h
   exact ⟨us,rfl,by rw [hr.1,Kk.2],hr⟩
  ·cases hc
 |bF fr Pb x=>simp [cellsOf] at hc
 |Ng l=>simp [cellsOf] at hc
 | «at»a=>
  cases a with
  |data fr Pb x=>
   simp only [cellsOf] at hc
   split at hc
   ·rename_i ht;subst ht
    simp only [Aa] at hc;subst hc
    obtain ⟨us,h1,rfl⟩:=h
    exact ⟨us,Lo Pb us x h1,Cells.len Pb us x h1,q6 Pb us x h1⟩
   ·cases hc
  |undef=>simp [cellsOf] at hc
  |skip=>simp [cellsOf] at hc
  |Mm=>have hv:v= .slice none 0 0:=h;exact single .Mm hc h (by rw [hv];rfl) (by rw [hv];rfl)
  |Wl=>have hv:v= .pointer none:=h;exact single .Wl hc h (by rw [hv];rfl) (by rw [hv];rfl)
  |own l off len=>
   have h':=h
   obtain ⟨b,sz,n,_,_,_,ho⟩:=h
   have hv: ∃a l c,v= .slice a l c:=by
    cases hp:π l with
    |none=>rw [hp] at ho;obtain ⟨rfl,_⟩:=ho;exact ⟨_,_,_,rfl⟩
    |some r=>rw [hp] at ho;obtain ⟨ad,rfl,_⟩:=ho;exact ⟨_,_,_,rfl⟩
   obtain ⟨a1,l1,c1,hv⟩:=hv
   exact single _ hc h' (by rw [hv];rfl) (by rw [hv];rfl)
  |Hv l i=>
   have h':=h
   obtain ⟨r,tid,vs,_,_,hv⟩:=h
   exact single _ hc h' (by rw [hv];rfl) (by rw [hv];rfl)
  |Kw l i=>
   have h':=h
   obtain ⟨r,b,sz,n,_,_,_,_,hv⟩:=h
   exact single _ hc h' (by rw [hv];rfl) (by rw [hv];rfl)
  |sub l i c0=>
   have h':=h
   obtain ⟨r,b,sz,n,_,_,_,_,⟨_,a,n,m,hv⟩,_⟩:=h
   exact single _ hc h' (by rw [hv];rfl) (by rw [hv];rfl)
  |Ks l i c0=>
   have h':=h
   obtain ⟨r,b,n,sz,g,o,len,cap,_,_,_,_,_,_,hv⟩:=h
   exact single _ hc h' (by rw [hv];rfl) (by rw [hv];rfl)
  |clo f Eh=>
   have h':=h
   obtain ⟨us,hv,_⟩:=h
   exact single _ hc h' (by rw [hv];rfl) (by rw [hv];rfl)
  |Ld l=>
   have h':=h
   obtain ⟨r,vt,m,_,_,hv⟩:=h
   exact single _ hc h' (by rw [hv];rfl) (by rw [hv];rfl)
theorem uG {vs cs:List AC} {us ns:List Value} (h:Gf X w π H vs us) (h2:Gf X w π H cs ns) (i:Nat) (hi:i+cs.length<=vs.length):
  Gf X w π H (Dy vs i cs) (Dy us i ns):=by
 have e1:=h.1
 have e2:=h2.1
 refine ⟨by simp [Dy,e1,e2],λj c hc=>?_⟩
 unfold Dy at hc⊢
 have t1:(vs.take i).length=i:=by simp;omega
 have t2:(us.take i).length=i:=by simp;omega
 by_cases h3:j<i
 ·rw [Co,As (by omega),Cs,Ab h3] at hc
  obtain ⟨u,hu,h4⟩:=h.2 j c hc
  exact ⟨u,by rw [Co,As (by omega),Cs,Ab h3];exact hu,h4⟩
 ·by_cases h4:j<i+cs.length
  ·rw [Co,Ar (by omega),t1,As (by omega)] at hc
   obtain ⟨u,hu,h5⟩:=h2.2 _ c hc
   exact ⟨u,by rw [Co,Ar (by omega),t2,As (by omega)];exact hu,h5⟩
  ·rw [Ar (by simp;omega),Da] at hc
   obtain ⟨u,hu,h5⟩:=h.2 _ c hc
   refine ⟨u,?_,h5⟩
   rw [Ar (by simp;omega),Da]
   rw [<-hu]
   congr 1
   simp
   omega
theorem Oc (w:World) (g:Nat) (cs:Array Value):w.grownBy (w.setRow g cs) (some g):=
 ⟨rfl,rfl,rfl,by simp,λk _ hk=>setRow_other w g k cs (λe=>hk (by rw [e]))⟩
theorem Xi {t:TypeId} {τ:Ty} (ht:qT P T t τ) (g i:Nat) (v:Value) (us:List Value) (hv:v.cells=us.toArray) (hl:us.length=τ.size) (h1: ∀u∈us,u.oneCell'=true)
  (cur:Array Value) (tid:TypeId) (hg:w.heap[g]?=some (.cells cur tid (0,0))) (hle:i+us.length<=cur.size):
  (storeVar t ⟨g,i,none⟩ v).run P w= .ok () (w.setRow g (Dy cur.toList i us).toArray):=by
 unfold storeVar
 rw [hv]
 simp only [Sem.run_bind,ht.size,Result.andThen_ok,Hg,hl]
 have:=run_storeCells_at P g i tid us 0 cur w hg (by simpa using hle) h1
 simp only [En] at this
 simpa [Dy,hl] using this
def ig (P:Program) (X:Ctx) (st':St) (a:Act) (w:World) (av:AV):Result Next->Prop
 | .ok (.value v) w'=> ∃π',Bh X π' st' a w'/\Bl X w' π' st'.heap av v
 | .ok .skip w'=> ∃π',Bh X π' st' a w'/\Bl X w' π' st'.heap av undef
 | .ok (.enter f args) w'=>w'=w/\Calls P f args w (λe qP=> ∃v,e= .returned v/\ ∃π',Bh X π' st' a qP/\Bl X qP π' st'.heap av v)
 |_=>False
theorem AI (hT:Eg P T) {st:St} {a:Act} (h:Bh X π st a w) {t:TypeId} {τ:Ty} (ht:T.ty t=some τ) {l i:Nat} {vp vx:Value} {x:AV} {tid:TypeId} {vs cs:List AC}
  (hp:Bl X w π st.heap (.at (.Hv l i)) vp) (hx:Bl X w π st.heap x vx) (hl:st.at l=some (.var tid vs)) (hc:cellsOf τ x=some cs) (hle:i+cs.length<=vs.length):
  ∃w',(Instr.storeAt t vp vx).run P w= .ok () w'/\Bh X π (st.Kr l (.var tid (Dy vs i cs))) a w':=by
 obtain ⟨r,Vq,vs',h1,h2,rfl⟩:=hp
 unfold St.at at hl
 rw [hl] at h1;cases h1
 obtain ⟨r',h3,h4,cur,h5,h6⟩:=(h.1.heap l).Sn hl
 rw [h2] at h3;cases h3
 obtain ⟨us,hv,hlu,hr⟩:=iz hx hc
 have yM:us.length=cs.length:=hr.1
 have gV:cur.toList.length=vs.length:=h6.1
 have Aha: ∀u∈us,u.oneCell'=true:=by
  intro u hu
  obtain ⟨j,hj,rfl⟩:=Oa hu
  obtain ⟨u',gZ,h7,_⟩:=hr.2 j cs[j] (Ac (by omega))
  rw [Ac hj] at gZ
  simp only [Aa] at gZ
  rw [gZ];exact h7
 have Wk:=Xi (P:=P) (w:=w) (hT.ty _ _ ht) r.g i vx us hv hlu Aha cur tid h5 (by simp at gV;omega)
 refine ⟨_,by simp only [Instr.storeAt,Instr.sureAddr];simpa using Wk,?_⟩
 refine h.set hl (b:= .var tid (Dy vs i cs)) trivial (by rw [h2];exact Oc w r.g _) λm=>?_
 refine ⟨r,h2,h4,_,setRow_heap w r.g cur _ tid _ h5,?_⟩
 have m1:=m.acs h6
 have m2:=m.acs hr
 simp only [List.map_id'] at m1 m2
 exact uG m1 m2 i hle
theorem Wf {α:Type} : ∀(l:List α) (i:Nat) (x:α),Ts l i x=l.set i x
 | [],i,x=>by cases i<;>rfl
 |_::_,0,_=>rfl
 |y::r,n+1,x=>by simp [Ts,Wf r n x]
def OA (st:St) (l:Nat):Prop:= ∃tid vs,At st.heap l=some (.var tid vs)
theorem iH (te:TypeId) (e:Ty) (w:World) (π:Pi) (H:List (Nat×OB)):Cg X w π H none (dY T te e):=by
 unfold dY
 split
 ·exact ⟨rfl,trivial⟩
 ·rfl
theorem mZ (te:TypeId) (e:Ty): ∃sz,(dY T te e).row=some (sz,0):=by
 unfold dY
 split<;>exact ⟨_,rfl⟩
theorem je {st:St} {a:Act} (h:Bh X π st a w) {b:OB} (hb0: ∀(w:World) (π:Pi) (H:List (Nat×OB)),Cg X w π H none b) {sz:Nat} (bd:b.row=some (sz,0)) (key l i:Nat) (JS:key<Bk):
  ∃π',Bh X π' (Vo b key l i st) a w/\(OA (Vo b key l i st) l->OA st l/\π' l=π l):=by
 unfold Vo
 split
 ·rename_i tid vs hl
  split
  ·rename_i hi
   have h1:=h.replace (w':=w) key JS none b (Qr w _) (λr hr=>by cases hr) (λ_=>hb0 _ _ _)
   dsimp only
   unfold St.at at hl
   split
   ·rename_i Vq vs' Mb
    unfold St.at at Mb
    have To:key≠l:=by
     intro e
     subst e
     rw [St.Hj] at Mb
     cases Mb
     cases bd
    refine ⟨_,h1.set Mb (b:= .var Vq (Ts vs' i (.own key 0 0))) trivial (Qr w _) λm=>?_,λ_=>⟨⟨tid,vs,hl⟩,Gs π none (Hm To)⟩⟩
    obtain ⟨r,h3,h4,cur,h5,h6⟩:=(h1.1.heap l).Sn Mb
    have m1:=m.acs h6
    simp only [List.map_id'] at m1
    refine ⟨r,h3,h4,cur,h5,?_⟩
    have Jd:=St.ah st key l b (Hm To)
    rw [hl,Mb] at Jd
    simp only [Al,Aa,OB.map,OB.var.injEq] at Jd
    obtain ⟨rfl,rfl⟩:=Jd
    refine ⟨by rw [ao];exact m1.1,λj c hc=>?_⟩
    rw [Wf,Ej] at hc
    split at hc
    ·rename_i kD;subst kD
     split at hc
     ·simp only [Aa] at hc;subst hc
      obtain ⟨u,hu,RQ,x9⟩:=m1.2 i (.Mm) (by rw [Fl,hi];rfl)
      refine ⟨u,hu,RQ,b,sz,0,?_,bd,Ap _,?_⟩
      ·rw [show At ((st.new key b).Kr l _).heap key=At (st.new key b).heap key from Ed _ _ _ _ To]
       exact St.Hj st key _
      ·rw [Gx];exact ⟨x9,rfl,rfl⟩
     ·cases hc
    ·exact m1.2 j c hc
   ·rename_i hno
    refine ⟨_,h1,λ⟨t1,v1,hv⟩=>?_⟩
    exact absurd hv (hno t1 v1)
  ·unfold St.at at hl
   exact ⟨_,h,λhv=>⟨hv,rfl⟩⟩
 ·exact ⟨_,h,λhv=>⟨hv,rfl⟩⟩
theorem jf (l:Nat) (t:TypeId) (τ:Ty) {a:Act} : ∀(n i:Nat) (st:St) (π:Pi),100000+l*100+i+n<Bk->Bh X π st a w->
  ∃π',Bh X π' (fL T l t τ n i st) a w/\(OA (fL T l t τ n i st) l->OA st l/\π' l=π l)
 |0,i,st,π,_,h=>⟨π,h,λhv=>⟨hv,rfl⟩⟩
 |n+1,i,st,π,Lq,h=>by
  unfold fL
  split
  ·rename_i te e _
   obtain ⟨sz,bd⟩:=mZ (T:=T) te e
   obtain ⟨cB,h1,k1⟩:=je h (iH te e) bd (100000+l*100+i) l i (by omega)
   obtain ⟨VH,h2,k2⟩:=jf l t τ n (i+1) _ cB (by omega) h1
   exact ⟨VH,h2,λhv=>⟨(k1 (k2 hv).1).1,(k2 hv).2.trans (k1 (k2 hv).1).2⟩⟩
  ·obtain ⟨VH,h2,k2⟩:=jf l t τ n (i+1) _ π (by omega) h
   exact ⟨VH,h2,k2⟩
theorem fM (l off:Nat) (t:TypeId) (τ:Ty) {a:Act} : ∀(n i:Nat) (st:St) (π:Pi),100000+l*100+(off+i+n)<Bk->Bh X π st a w-> ∃π',Bh X π' (eF T l off t τ n i st) a w
 |0,i,st,π,_,h=>⟨π,h⟩
 |n+1,i,st,π,Lq,h=>by
  unfold eF
  split
  ·rename_i te e _
   obtain ⟨cB,h1,_⟩:=je h (iH te e) (mZ (T:=T) te e).choose_spec (100000+l*100+(off+i)) l (off+i) (by omega)
   exact fM l off t τ n (i+1) _ cB (by omega) h1
  ·exact fM l off t τ n (i+1) _ π (by omega) h
theorem zk {st:St} {a:Act} (h:Bh X π st a w) (l:Nat) (t:TypeId) (cs:List AC) (us:List Value) (hr:Gf X w π st.heap cs us) (av:AV) (st':St)
  (he:tF st l t cs=some (av,st')):
  ∃π',Bh X π' st' a (w.alloc (.cells us.toArray t))/\Bl X (w.alloc (.cells us.toArray t)) π' st'.heap av (.pointer (some ⟨w.heap.size,0,none⟩)):=by
 unfold tF at he
 split at he
 ·cases he
 rename_i dy
 simp only [Aa,Ae] at he
 obtain ⟨rfl,rfl⟩:=he
 have h1:Bh X (Xs π l (some (Real.one w.heap.size 0 0))) (st.new l (.var t (cs.map (Cl l)))) a (w.alloc (.cells us.toArray t)):=by
  refine h.replace l (by omega) (some (Real.one w.heap.size 0 0)) (.var t (cs.map (Cl l))) (World.grownBy_alloc w _ _) (λr kF=>by cases kF;exact ⟨rfl, .inr (Ap _),by simp [Real.one]⟩) λm=>?_
  exact ⟨_,rfl,rfl,us.toArray,heap_alloc_new w _,m.acs (by simpa using hr)⟩
 exact ⟨_,h1,_,t,_,St.Hj ..,Gx ..,rfl⟩
theorem qt {st:St} {a:Act} (h:Bh X π st a w) (l:Nat) (t:TypeId) (τ:Ty) (cs:List AC) (us:List Value) (hr:Gf X w π st.heap cs us) (av:AV) (st':St)
  (he:mkVar T st l t τ cs=some (av,st')):
  ∃π',Bh X π' st' a (w.alloc (.cells us.toArray t))/\Bl X (w.alloc (.cells us.toArray t)) π' st'.heap av (.pointer (some ⟨w.heap.size,0,none⟩)):=by
 unfold mkVar at he
 split at he
 ·cases he
 rename_i dy
 have h1:Bh X (Xs π l (some (Real.one w.heap.size 0 0))) (st.new l (.var t (cs.map (Cl l)))) a (w.alloc (.cells us.toArray t)):=by
  refine h.replace l (by omega) (some (Real.one w.heap.size 0 0)) (.var t (cs.map (Cl l))) (World.grownBy_alloc w _ _) (λr kF=>by cases kF;exact ⟨rfl, .inr (Ap _),by simp [Real.one]⟩) λm=>?_
  exact ⟨_,rfl,rfl,us.toArray,heap_alloc_new w _,m.acs (by simpa using hr)⟩
 obtain ⟨VH,h2,k2⟩:=jf (T:=T) l t τ cs.length 0 _ _ (by omega) h1
 dsimp only at he
 split at he
 ·rename_i tid vs hl
  unfold St.at at hl
  simp only [Aa,Ae] at he
  obtain ⟨rfl,rfl⟩:=he
  have:=(k2 ⟨tid,vs,hl⟩).2
  rw [Gx] at this
  exact ⟨VH,h2,_,tid,vs,hl,this,rfl⟩
 ·cases he
end
end Go.Proofs.YtkkdpknjohcekaaGreat
