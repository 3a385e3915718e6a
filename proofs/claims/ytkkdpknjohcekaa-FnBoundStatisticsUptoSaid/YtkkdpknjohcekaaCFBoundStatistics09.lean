/-
  Part 10 of the proof that the statement FnBoundStatistics holds.
-/
import Derived.Test.YtkkdpknjohcekaaCFBoundStatistics08
namespace Go.Proofs.Ytkkdpknjohcekaa
open Go.RowKit
section
variable {P:Program} {T:Tab} {X:Ctx} {w w':World} {π:Pi} {H:List (Nat×OB)}
theorem Pz (w:World) (row:Option Nat):w.grownBy w row:=⟨rfl,rfl,rfl,Ap _,λ_ _ _=>rfl⟩
theorem DO (fr:Bool) {τ:Ty} (Ua:τ.Ao=false) (x:τ.den):Sr fr τ x= [.data fr τ x]:=by
 cases τ<;>first|rfl|simp [Ty.Ao] at Ua
theorem MF {S:Nat->Prop} {τ:Ty} {v:Value} {x:τ.den} (h:Cells w S τ [v] x):v.oneCell'=true:=Cells.plain τ [v] x h v (by simp)
theorem qb {fr:Bool} : ∀(τ:Ty) (us:List Value) (x:τ.den),Cells w (Da X.w0.heap.size X.Sc π fr) τ us x->Fw X w π H (Sr fr τ x) us:=by
 have one: ∀(τ:Ty) (us:List Value) (x:τ.den),τ.Ao=false->Cells w (Da X.w0.heap.size X.Sc π fr) τ us x->Fw X w π H (Sr fr τ x) us:=by
  intro τ us x Ua h
  rw [DO fr Ua]
  have hl:=Cells.len τ us x h
  have h1:τ.size=1:=by cases τ<;>simp_all [Ty.Ao,Ty.size]
  rw [h1] at hl
  obtain ⟨u,rfl⟩:=Eb.1 hl
  refine ⟨rfl,λi c hc=>?_⟩
  rcases i with _|i
  ·simp at hc;subst hc
   exact ⟨u,rfl,MF h,[u],h,by simp [Cb,Ua]⟩
  ·simp at hc
 intro τ
 induction τ with
 |unit=>intro us x h;simp only [Cells] at h;subst h;exact ⟨rfl,λi c hc=>by simp [Sr] at hc⟩
 |pair a r gV gR=>
  intro us x h
  simp only [Cells] at h
  obtain ⟨c1,c2,rfl,h1,h2⟩:=h
  have r1:=gV c1 x.1 h1
  have r2:=gR c2 x.2 h2
  refine ⟨by simp [Sr,r1.1,r2.1],λi c hc=>?_⟩
  simp only [Sr] at hc
  by_cases hi:i<(Sr fr a x.1).length
  ·rw [As hi] at hc
   obtain ⟨u,hu,h3⟩:=r1.2 i c hc
   exact ⟨u,by rw [As (by rw [r1.1];exact hi)];exact hu,h3⟩
  ·rw [Ar (by omega)] at hc
   obtain ⟨u,hu,h3⟩:=r2.2 _ c hc
   exact ⟨u,by rw [Ar (by rw [r1.1];omega),r1.1];exact hu,h3⟩
 |_=>exact λus x h=>one _ us x rfl h
theorem iq {τ:Ty} {c:AV} {v:Value} {cs:List AC} (h:Bq X w π H c v) (hc:cellsOf τ c=some cs):
  ∃us:List Value,v.cells=us.toArray/\us.length=τ.size/\Fw X w π H cs us:=by
 have single: ∀a:AC,(if τ.Ao then none else some [a])=some cs->Hq X w π H a v->v.oneCell'=true->v.cells= #[v]-> ∃us:List Value,v.cells=us.toArray/\us.length=τ.size/\Fw X w π H cs us:=by
  intro a ha hr h1 h2
  split at ha
  ·cases ha
  ·rename_i hs
   simp only [Aa] at ha;subst ha
   simp only [Ho] at hs
   have h3:τ.size=1:=by cases τ<;>simp_all [Ty.Ao,Ty.size]
   refine ⟨[v],h2,by rw [h3];rfl,rfl,λi c hc=>?_⟩
   rcases i with _|i
   ·simp at hc;subst hc;exact ⟨v,rfl,h1,hr⟩
   ·simp at hc
 cases c with
 |agg ds=>
  simp only [cellsOf] at hc
  split at hc
  ·rename_i Jv
   simp only [Af,beq_iff_eq] at Jv
   simp only [Aa] at hc;subst hc
   obtain ⟨us,rfl,hr⟩:=h
   exact ⟨us,rfl,by rw [hr.1,Jv.2],hr⟩
  ·cases hc
 |bu fr Ok x=>simp [cellsOf] at hc
 |Mw l=>simp [cellsOf] at hc
 | «at»a=>
  cases a with
  |data fr Ok x=>
   simp only [cellsOf] at hc
   split at hc
   ·rename_i ht;subst ht
    simp only [Aa] at hc;subst hc
    obtain ⟨us,h1,rfl⟩:=h
    exact ⟨us,Ld Ok us x h1,Cells.len Ok us x h1,qb Ok us x h1⟩
   ·cases hc
  |undef=>simp [cellsOf] at hc
  |skip=>simp [cellsOf] at hc
  |Ly=>have hv:v= .slice none 0 0:=h;exact single .Ly hc h (by rw [hv];rfl) (by rw [hv];rfl)
  |Vt=>have hv:v= .pointer none:=h;exact single .Vt hc h (by rw [hv];rfl) (by rw [hv];rfl)
  |own l off len=>
   have h':=h
   obtain ⟨b,sz,n,_,_,_,ho⟩:=h
   have hv: ∃a l c,v= .slice a l c:=by
    cases hp:π l with
    |none=>rw [hp] at ho;obtain ⟨rfl,_⟩:=ho;exact ⟨_,_,_,rfl⟩
    |some r=>rw [hp] at ho;obtain ⟨ad,rfl,_⟩:=ho;exact ⟨_,_,_,rfl⟩
   obtain ⟨a1,l1,c1,hv⟩:=hv
   exact single _ hc h' (by rw [hv];rfl) (by rw [hv];rfl)
  |Hj l i=>
   have h':=h
   obtain ⟨r,tid,vs,_,_,hv⟩:=h
   exact single _ hc h' (by rw [hv];rfl) (by rw [hv];rfl)
  |Kk l i=>
   have h':=h
   obtain ⟨r,b,sz,n,_,_,_,_,hv⟩:=h
   exact single _ hc h' (by rw [hv];rfl) (by rw [hv];rfl)
  |sub l i c0=>
   have h':=h
   obtain ⟨r,b,sz,n,_,_,_,_,⟨_,a,n,m,hv⟩,_⟩:=h
   exact single _ hc h' (by rw [hv];rfl) (by rw [hv];rfl)
  |Kh l i c0=>
   have h':=h
   obtain ⟨r,b,n,sz,g,o,len,cap,_,_,_,_,_,_,hv⟩:=h
   exact single _ hc h' (by rw [hv];rfl) (by rw [hv];rfl)
  |clo f Ee=>
   have h':=h
   obtain ⟨us,hv,_⟩:=h
   exact single _ hc h' (by rw [hv];rfl) (by rw [hv];rfl)
  |Ks l=>
   have h':=h
   obtain ⟨r,vt,m,_,_,hv⟩:=h
   exact single _ hc h' (by rw [hv];rfl) (by rw [hv];rfl)
theorem uO {vs cs:List AC} {us ns:List Value} (h:Fw X w π H vs us) (h2:Fw X w π H cs ns) (i:Nat) (hi:i+cs.length<=vs.length):
  Fw X w π H (Du vs i cs) (Du us i ns):=by
 have e1:=h.1
 have e2:=h2.1
 refine ⟨by simp [Du,e1,e2],λj c hc=>?_⟩
 unfold Du at hc⊢
 have t1:(vs.take i).length=i:=by simp;omega
 have t2:(us.take i).length=i:=by simp;omega
 by_cases h3:j<i
 ·rw [Cs,As (by omega),Cx,Ac h3] at hc
  obtain ⟨u,hu,h4⟩:=h.2 j c hc
  exact ⟨u,by rw [Cs,As (by omega),Cx,Ac h3];exact hu,h4⟩
 ·by_cases h4:j<i+cs.length
  ·rw [Cs,Ar (by omega),t1,As (by omega)] at hc
   obtain ⟨u,hu,h5⟩:=h2.2 _ c hc
   exact ⟨u,by rw [Cs,Ar (by omega),t2,As (by omega)];exact hu,h5⟩
  ·rw [Ar (by simp;omega),Dd] at hc
   obtain ⟨u,hu,h5⟩:=h.2 _ c hc
   refine ⟨u,?_,h5⟩
   rw [Ar (by simp;omega),Dd]
   rw [<-hu]
   congr 1
   simp
   omega
theorem Nu (w:World) (g:Nat) (cs:Array Value):w.grownBy (w.setRow g cs) (some g):=
 ⟨rfl,rfl,rfl,by simp,λk _ hk=>setRow_other w g k cs (λe=>hk (by rw [e]))⟩
theorem Wu {t:TypeId} {τ:Ty} (ht:oJ P T t τ) (g i:Nat) (v:Value) (us:List Value) (hv:v.cells=us.toArray) (hl:us.length=τ.size) (h1: ∀u∈us,u.oneCell'=true)
  (cur:Array Value) (tid:TypeId) (hg:w.heap[g]?=some (.cells cur tid (0,0))) (hle:i+us.length<=cur.size):
  (storeVar t ⟨g,i,none⟩ v).run P w= .ok () (w.setRow g (Du cur.toList i us).toArray):=by
 unfold storeVar
 rw [hv]
 simp only [Sem.run_bind,ht.size,Result.andThen_ok,Gt,hl]
 have:=run_storeCells_at P g i tid us 0 cur w hg (by simpa using hle) h1
 simp only [Ek] at this
 simpa [Du,hl] using this
def gY (P:Program) (X:Ctx) (st':St) (a:Act) (w:World) (av:AV):Result Next->Prop
 | .ok (.value v) w'=> ∃π',Bh X π' st' a w'/\Bq X w' π' st'.heap av v
 | .ok .skip w'=> ∃π',Bh X π' st' a w'/\Bq X w' π' st'.heap av undef
 | .ok (.enter f args) w'=>w'=w/\Calls P f args w (λe qY=> ∃v,e= .returned v/\ ∃π',Bh X π' st' a qY/\Bq X qY π' st'.heap av v)
 |_=>False
theorem AT (hT:Dz P T) {st:St} {a:Act} (h:Bh X π st a w) {t:TypeId} {τ:Ty} (ht:T.ty t=some τ) {l i:Nat} {vp vx:Value} {x:AV} {tid:TypeId} {vs cs:List AC}
  (hp:Bq X w π st.heap (.at (.Hj l i)) vp) (hx:Bq X w π st.heap x vx) (hl:st.at l=some (.var tid vs)) (hc:cellsOf τ x=some cs) (hle:i+cs.length<=vs.length):
  ∃w',(Instr.storeAt t vp vx).run P w= .ok () w'/\Bh X π (st.Kg l (.var tid (Du vs i cs))) a w':=by
 obtain ⟨r,Uz,vs',h1,h2,rfl⟩:=hp
 unfold St.at at hl
 rw [hl] at h1;cases h1
 obtain ⟨r',h3,h4,cur,h5,h6⟩:=(h.1.heap l).Rp hl
 rw [h2] at h3;cases h3
 obtain ⟨us,hv,hlu,hr⟩:=iq hx hc
 have yV:us.length=cs.length:=hr.1
 have gM:cur.toList.length=vs.length:=h6.1
 have Ai3: ∀u∈us,u.oneCell'=true:=by
  intro u hu
  obtain ⟨j,hj,rfl⟩:=Ns hu
  obtain ⟨u',gQ,h7,_⟩:=hr.2 j cs[j] (Ab (by omega))
  rw [Ab hj] at gQ
  simp only [Aa] at gQ
  rw [gQ];exact h7
 have Vs:=Wu (P:=P) (w:=w) (hT.ty _ _ ht) r.g i vx us hv hlu Ai3 cur tid h5 (by simp at gM;omega)
 refine ⟨_,by simp only [Instr.storeAt,Instr.sureAddr];simpa using Vs,?_⟩
 refine h.set hl (b:= .var tid (Du vs i cs)) trivial (by rw [h2];exact Nu w r.g _) λm=>?_
 refine ⟨r,h2,h4,_,setRow_heap w r.g cur _ tid _ h5,?_⟩
 have m1:=m.acs h6
 have m2:=m.acs hr
 simp only [List.map_id'] at m1 m2
 exact uO m1 m2 i hle
theorem Vp {α:Type} : ∀(l:List α) (i:Nat) (x:α),Sz l i x=l.set i x
 | [],i,x=>by cases i<;>rfl
 |_::_,0,_=>rfl
 |y::r,n+1,x=>by simp [Sz,Vp r n x]
def OW (st:St) (l:Nat):Prop:= ∃tid vs,At st.heap l=some (.var tid vs)
theorem iB (te:TypeId) (e:Ty) (w:World) (π:Pi) (H:List (Nat×OB)):Cj X w π H none (dS T te e):=by
 unfold dS
 split
 ·exact ⟨rfl,trivial⟩
 ·rfl
theorem mT (te:TypeId) (e:Ty): ∃sz,(dS T te e).row=some (sz,0):=by
 unfold dS
 split<;>exact ⟨_,rfl⟩
theorem jb {st:St} {a:Act} (h:Bh X π st a w) {b:OB} (hb0: ∀(w:World) (π:Pi) (H:List (Nat×OB)),Cj X w π H none b) {sz:Nat} (Kf:b.row=some (sz,0)) (key l i:Nat) (KT:key<Bn):
  ∃π',Bh X π' (Uw b key l i st) a w/\(OW (Uw b key l i st) l->OW st l/\π' l=π l):=by
 unfold Uw
 split
 ·rename_i tid vs hl
  split
  ·rename_i hi
   have h1:=h.replace (w':=w) key KT none b (Pz w _) (λr hr=>by cases hr) (λ_=>hb0 _ _ _)
   dsimp only
   unfold St.at at hl
   split
   ·rename_i Uz vs' Ke
    unfold St.at at Ke
    have Rl:key≠l:=by
     intro e
     subst e
     rw [St.Gv] at Ke
     cases Ke
     cases Kf
    refine ⟨_,h1.set Ke (b:= .var Uz (Sz vs' i (.own key 0 0))) trivial (Pz w _) λm=>?_,λ_=>⟨⟨tid,vs,hl⟩,Gj π none (Gb Rl)⟩⟩
    obtain ⟨r,h3,h4,cur,h5,h6⟩:=(h1.1.heap l).Rp Ke
    have m1:=m.acs h6
    simp only [List.map_id'] at m1
    refine ⟨r,h3,h4,cur,h5,?_⟩
    have Iv:=St.a5 st key l b (Gb Rl)
    rw [hl,Ke] at Iv
    simp only [Am,Aa,OB.map,OB.var.injEq] at Iv
    obtain ⟨rfl,rfl⟩:=Iv
    refine ⟨by rw [ab];exact m1.1,λj c hc=>?_⟩
    rw [Vp,Ds] at hc
    split at hc
    ·rename_i jV;subst jV
     split at hc
     ·simp only [Aa] at hc;subst hc
      obtain ⟨u,hu,SO,xd⟩:=m1.2 i (.Ly) (by rw [En,hi];rfl)
      refine ⟨u,hu,SO,b,sz,0,?_,Kf,Ap _,?_⟩
      ·rw [show At ((st.new key b).Kg l _).heap key=At (st.new key b).heap key from Ea _ _ _ _ Rl]
       exact St.Gv st key _
      ·rw [Gl];exact ⟨xd,rfl,rfl⟩
     ·cases hc
    ·exact m1.2 j c hc
   ·rename_i hno
    refine ⟨_,h1,λ⟨t1,v1,hv⟩=>?_⟩
    exact absurd hv (hno t1 v1)
  ·unfold St.at at hl
   exact ⟨_,h,λhv=>⟨hv,rfl⟩⟩
 ·exact ⟨_,h,λhv=>⟨hv,rfl⟩⟩
theorem jc (l:Nat) (t:TypeId) (τ:Ty) {a:Act} : ∀(n i:Nat) (st:St) (π:Pi),100000+l*100+i+n<Bn->Bh X π st a w->
  ∃π',Bh X π' (fC T l t τ n i st) a w/\(OW (fC T l t τ n i st) l->OW st l/\π' l=π l)
 |0,i,st,π,_,h=>⟨π,h,λhv=>⟨hv,rfl⟩⟩
 |n+1,i,st,π,Jr,h=>by
  unfold fC
  split
  ·rename_i te e _
   obtain ⟨sz,Kf⟩:=mT (T:=T) te e
   obtain ⟨cj,h1,k1⟩:=jb h (iB te e) Kf (100000+l*100+i) l i (by omega)
   obtain ⟨WC,h2,k2⟩:=jc l t τ n (i+1) _ cj (by omega) h1
   exact ⟨WC,h2,λhv=>⟨(k1 (k2 hv).1).1,(k2 hv).2.trans (k1 (k2 hv).1).2⟩⟩
  ·obtain ⟨WC,h2,k2⟩:=jc l t τ n (i+1) _ π (by omega) h
   exact ⟨WC,h2,k2⟩
theorem fD (l off:Nat) (t:TypeId) (τ:Ty) {a:Act} : ∀(n i:Nat) (st:St) (π:Pi),100000+l*100+(off+i+n)<Bn->Bh X π st a w-> ∃π',Bh X π' (er T l off t τ n i st) a w
 |0,i,st,π,_,h=>⟨π,h⟩
 |n+1,i,st,π,Jr,h=>by
  unfold er
  split
  ·rename_i te e _
   obtain ⟨cj,h1,_⟩:=jb h (iB te e) (mT (T:=T) te e).choose_spec (100000+l*100+(off+i)) l (off+i) (by omega)
   exact fD l off t τ n (i+1) _ cj (by omega) h1
  ·exact fD l off t τ n (i+1) _ π (by omega) h
theorem zy {st:St} {a:Act} (h:Bh X π st a w) (l:Nat) (t:TypeId) (cs:List AC) (us:List Value) (hr:Fw X w π st.heap cs us) (av:AV) (st':St)
  (he:tU st l t cs=some (av,st')):
  ∃π',Bh X π' st' a (w.alloc (.cells us.toArray t))/\Bq X (w.alloc (.cells us.toArray t)) π' st'.heap av (.pointer (some ⟨w.heap.size,0,none⟩)):=by
 unfold tU at he
 split at he
 ·cases he
 rename_i Zx
 simp only [Aa,Ae] at he
 obtain ⟨rfl,rfl⟩:=he
 have h1:Bh X (Xg π l (some (Real.one w.heap.size 0 0))) (st.new l (.var t (cs.map (Cp l)))) a (w.alloc (.cells us.toArray t)):=by
  refine h.replace l (by omega) (some (Real.one w.heap.size 0 0)) (.var t (cs.map (Cp l))) (World.grownBy_alloc w _ _) (λr dG=>by cases dG;exact ⟨rfl, .inr (Ap _),by simp [Real.one]⟩) λm=>?_
  exact ⟨_,rfl,rfl,us.toArray,heap_alloc_new w _,m.acs (by simpa using hr)⟩
 exact ⟨_,h1,_,t,_,St.Gv ..,Gl ..,rfl⟩
theorem qC {st:St} {a:Act} (h:Bh X π st a w) (l:Nat) (t:TypeId) (τ:Ty) (cs:List AC) (us:List Value) (hr:Fw X w π st.heap cs us) (av:AV) (st':St)
  (he:mkVar T st l t τ cs=some (av,st')):
  ∃π',Bh X π' st' a (w.alloc (.cells us.toArray t))/\Bq X (w.alloc (.cells us.toArray t)) π' st'.heap av (.pointer (some ⟨w.heap.size,0,none⟩)):=by
 unfold mkVar at he
 split at he
 ·cases he
 rename_i Zx
 have h1:Bh X (Xg π l (some (Real.one w.heap.size 0 0))) (st.new l (.var t (cs.map (Cp l)))) a (w.alloc (.cells us.toArray t)):=by
  refine h.replace l (by omega) (some (Real.one w.heap.size 0 0)) (.var t (cs.map (Cp l))) (World.grownBy_alloc w _ _) (λr dG=>by cases dG;exact ⟨rfl, .inr (Ap _),by simp [Real.one]⟩) λm=>?_
  exact ⟨_,rfl,rfl,us.toArray,heap_alloc_new w _,m.acs (by simpa using hr)⟩
 obtain ⟨WC,h2,k2⟩:=jc (T:=T) l t τ cs.length 0 _ _ (by omega) h1
 dsimp only at he
 split at he
 ·rename_i tid vs hl
  unfold St.at at hl
  simp only [Aa,Ae] at he
  obtain ⟨rfl,rfl⟩:=he
  have:=(k2 ⟨tid,vs,hl⟩).2
  rw [Gl] at this
  exact ⟨WC,h2,_,tid,vs,hl,this,rfl⟩
 ·cases he
end
end Go.Proofs.Ytkkdpknjohcekaa
