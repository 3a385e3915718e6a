/-
  Part 30 of the proof that the statement FnTables holds.
-/
import Derived.Test.YtkkdpknjohcekaaCFTables28
namespace Go.Proofs.Ytkkdpknjohcekaa
open Go.RowKit
def Is (d:Nat) (v:AV) (b:OB) (st:St):St:= {tmps:=Rg st.tmps d v,heap:=Nj st.heap d b}
def mG (d:Nat) (st:St):Bool:=(st.get d).refs.isEmpty&&((st.tmps.all λv=>!v.refs.contains d)&&st.heap.all λp=>!Nat.beq p.1 d&&!p.2.refs.contains d)
structure Hw (d:Nat) (st:St):Prop where
 own:(st.get d).refs= []
 tmps: ∀v∈st.tmps,d∉v.refs
 heap: ∀p∈st.heap,p.1≠d/\d∉p.2.refs
theorem qT {d:Nat} {st:St} (h:mG d st=true):Hw d st:=by
 unfold mG at h
 rw [Ag,Ag,At,At] at h
 obtain ⟨h0,h⟩:=h
 refine ⟨List.isEmpty_iff.1 h0,λv hv=>?_,λp hp=>?_⟩
 ·have:=h.1 v hv
  intro hd
  rw [Jb.2 hd] at this
  cases this
 ·have:=h.2 p hp
  rw [Ag] at this
  refine ⟨λe=>?_,λhd=>?_⟩
  ·have h1:=this.1
   rw [e,Nat.beq_refl] at h1
   cases h1
  ·have h1:=this.2
   rw [Jb.2 hd] at h1
   cases h1
theorem KP {d:Nat} {st:St} (h:Hw d st):mG d st=true:=by
 unfold mG
 rw [Ag,Ag,At,At]
 refine ⟨by rw [h.own];rfl,λv hv=>?_,λp hp=>?_⟩
 ·rw [Dn,<-Ht,Jb];exact h.tmps v hv
 ·rw [Ag]
  refine ⟨?_,?_⟩
  ·rw [Dn,<-Ht]
   exact λe=>(h.heap p hp).1 (Jc e)
  ·rw [Dn,<-Ht,Jb];exact (h.heap p hp).2
structure py (d:Nat) (v:AV) (b:OB):Prop where
 v1: ∀l,l∈v.refs->l=d
 b1:b.refs= []
 v2: ∀l,l≠d->v.map (Cb l)=v
 b2: ∀l,b.map (Cb l)=b
theorem cp {α:Type} : ∀(xs:List α) (d t:Nat) (v x:α),d≠t->(Rg xs d v).getD t x=xs.getD t x
 | [],_,_,_,_,_=>rfl
 |y::r,0,0,_,_,h=>absurd rfl h
 |y::r,0,t+1,_,_,_=>by simp [Rg]
 |y::r,d+1,0,_,_,_=>by simp [Rg]
 |y::r,d+1,t+1,v,x,h=>by simpa [Rg] using cp r d t v x (by omega)
theorem mW {α:Type} : ∀(xs:List α) (d e:Nat) (v w:α),d≠e->Rg (Rg xs d v) e w=Rg (Rg xs e w) d v
 | [],_,_,_,_,_=>rfl
 |y::r,0,0,_,_,h=>absurd rfl h
 |y::r,0,e+1,_,_,_=>rfl
 |y::r,d+1,0,_,_,_=>rfl
 |y::r,d+1,e+1,v,w,h=>by simp only [Rg];rw [mW r d e v w (by omega)]
theorem u7: ∀(H:List (Nat×OB)) (d l:Nat) (b:OB),d≠l->Aq (Nj H d b) l=Aq H l
 | [],d,l,b,h=>by simp [Nj,Aq,h]
 |(k,c)::r,d,l,b,h=>by
  simp only [Nj]
  split
  ·simp only [Aq];rw [Al h]
  ·simp only [Aq]
   split
   ·rfl
   ·exact u7 r d l b h
theorem ug: ∀(H:List (Nat×OB)) (d e:Nat) (b c:OB),d≠e->Nj (Nj H d b) e c=Nj (Nj H e c) d b
 | [],d,e,b,c,h=>by
  simp only [Nj]
  by_cases h1:e<d
  ·rw [Ab h1,Al (by omega)]
  ·rw [Al h1,Ab (by omega)]
 |(k,a)::r,d,e,b,c,h=>by
  simp only [Nj]
  by_cases h1:d<k<;>by_cases h2:e<k
  ·rw [Ab h1,Ab h2]
   simp only [Nj]
   by_cases h3:e<d
   ·rw [Ab h3,Al (by omega),Ab h1]
   ·rw [Al h3,Ab h2,Ab (by omega)]
  ·rw [Ab h1,Al h2]
   simp only [Nj]
   rw [Al (by omega),Al h2,Ab h1]
  ·rw [Al h1,Ab h2]
   simp only [Nj]
   rw [Ab h2,Al (by omega),Al h1]
  ·rw [Al h1,Al h2]
   simp only [Nj]
   rw [Al h1,Al h2,ug r d e b c h]
theorem uU: ∀(H:List (Nat×OB)) (d l:Nat) (b c:OB),d≠l->Yj (Nj H d b) l c=Nj (Yj H l c) d b
 | [],d,l,b,c,h=>by simp [Nj,Yj,h]
 |(k,a)::r,d,l,b,c,h=>by
  simp only [Nj,Yj]
  by_cases h1:d<k<;>by_cases h2:k=l
  ·rw [Ab h1,Ab h2]
   simp only [Yj,Nj]
   rw [Al h,Ab h2,Ab h1]
  ·rw [Ab h1,Al h2]
   simp only [Yj,Nj]
   rw [Al h,Al h2,Ab h1]
  ·rw [Al h1,Ab h2]
   simp only [Yj,Nj]
   rw [Ab h2,Al h1]
  ·rw [Al h1,Al h2]
   simp only [Yj,Nj]
   rw [Al h2,Al h1,uU r d l b c h]
theorem nG {l:Nat} : ∀ {c:AC},l∉c.refs->Cb l c=c:=by
 intro c h
 cases c<;>simp only [Cb]<;>simp only [AC.refs,Ad] at h
 case clo f Dy=>rw [Al (by simpa using h)]
 all_goals (first|rfl|rw [Al (Hi h)])
theorem Zd {l:Nat} : ∀ {cs:List AC},l∉cs.flatMap AC.refs->cs.map (Cb l)=cs
 | [],_=>rfl
 |c::r,h=>by
  rw [aO,Aw] at h
  rw [Bh,nG (λhh=>h (.inl hh)),Zd (λhh=>h (.inr hh))]
theorem yK {l:Nat} : ∀ {v:AV},l∉v.refs->v.map (Cb l)=v
 | .at a,h=>by simp only [AV.map];rw [nG h]
 | .agg cs,h=>by simp only [AV.map];rw [Zd h]
 | .Zw _ _ _,_=>rfl
 | .Mb ps,h=>by
  simp only [AV.map]
  congr 1
  simp only [AV.refs] at h
  induction ps with
  |nil=>rfl
  |cons p r ih=>
   rw [aO,Aw] at h
   rw [Bh,Zd (λhh=>h (.inl hh)),ih (λhh=>h (.inr hh))]
theorem yL {l:Nat} : ∀ {b:OB},l∉b.refs->b.map (Cb l)=b
 | .arr _ _ _ _ _,_=>rfl
 | .Gl _ _ _,_=>rfl
 | .var _ vs,h=>by simp only [OB.map];rw [Zd h]
 | .Bm _ _ _ _ _,_=>rfl
 | .Ub _ _,_=>rfl
theorem yA {l:Nat} : ∀ {H:List (Nat×OB)},(∀p∈H,p.1≠l)->Yn H l=H
 | [],_=>rfl
 |(k,b)::r,h=>by
  simp only [Yn]
  rw [Al (h (k,b) (by simp)),yA λp hp=>h p (by simp [hp])]
theorem Hw.forget {l:Nat} {st:St} (h:Hw l st):st.forget l=st:=by
 have e1:st.tmps.map (λv=>v.map (Cb l))=st.tmps:=(Ek λv hv=>yK (h.tmps v hv)).trans (List.map_id _)
 have e2:st.heap.map (λp=>(p.1,p.2.map (Cb l)))=st.heap:=(Ek λp hp=>by rw [yL (h.heap p hp).2];rfl).trans (List.map_id _)
 unfold St.forget St.Kh
 simp only [e1,e2]
 rw [yA λp hp=>(h.heap p hp).1]
theorem Hw.new {l:Nat} {st:St} (h:Hw l st) (b:OB) (v:AV):(st.new l b).put (some l) v=Is l v b st:=by
 unfold St.new
 rw [h.forget]
 rfl
theorem qN {α:Type} : ∀ {xs:List α} {d:Nat} {v x:α},x∈Rg xs d v->x∈xs\/x=v
 | [],_,_,_,h=>by cases h
 |y::r,0,v,x,h=>by
  rcases Bb.1 h with h|h
  ·exact .inr h
  ·exact .inl (An _ h)
 |y::r,d+1,v,x,h=>by
  rcases Bb.1 h with h|h
  ·exact .inl (by rw [h];simp)
  ·exact (qN h).imp (An _) id
theorem zo: ∀ {H:List (Nat×OB)} {d:Nat} {b:OB} {p:Nat×OB},p∈Nj H d b->p∈H\/p=(d,b)
 | [],d,b,p,h=> .inr (by simpa [Nj] using h)
 |(k,c)::r,d,b,p,h=>by
  simp only [Nj] at h
  split at h
  ·rcases Bb.1 h with h|h
   ·exact .inr h
   ·exact .inl h
  ·rcases Bb.1 h with h|h
   ·exact .inl (by rw [h];simp)
   ·exact (zo h).imp (An _) id
theorem UJ {d:Nat} {v:AV} {b:OB} {st:St} {x:Operand} (h:x≠ .tmp d):(Is d v b st).ev x=st.ev x:=by
 cases x with
 |tmp t=>exact cp _ _ _ _ _ (λe=>h (by rw [e]))
 |_=>rfl
theorem GV {d l:Nat} {v:AV} {b:OB} {st:St} (h:d≠l):(Is d v b st).at l=st.at l:=u7 _ _ _ _ h
theorem OA {d e:Nat} {v u:AV} {b:OB} {st:St} (h:d≠e):(Is d v b st).put (some e) u=Is d v b (st.put (some e) u):=by
 unfold Is St.put
 simp only
 rw [mW _ _ _ _ _ h]
theorem IZ {d l:Nat} {v:AV} {b c:OB} {st:St} (h:d≠l):(Is d v b st).Jh l c=Is d v b (st.Jh l c):=by
 unfold Is St.Jh
 simp only
 rw [uU _ _ _ _ _ h]
theorem tP {d e:Nat} {v u:AV} {b c:OB} {st:St} (h:d≠e):Is e u c (Is d v b st)=Is d v b (Is e u c st):=by
 unfold Is
 rw [mW _ _ _ _ _ h,ug _ _ _ _ _ h]
theorem Hw.put {d:Nat} {st:St} {e:Nat} {u:AV} (h:Hw d st) (hde:e≠d) (hu:d∉u.refs):Hw d (st.put (some e) u):=
 ⟨by show (List.getD (Rg st.tmps e u) d .undef).refs= [];rw [cp _ _ _ _ _ hde];exact h.own,λv hv=>(qN hv).elim (h.tmps v) λe=>by rw [e];exact hu,h.heap⟩
theorem Hw.plus {d e:Nat} {u:AV} {c:OB} {st:St} (h:Hw d st) (hde:d≠e) (hu:d∉u.refs) (hc:d∉c.refs):Hw d (Is e u c st):=
 ⟨by show (List.getD (Rg st.tmps e u) d .undef).refs= [];rw [cp _ _ _ _ _ (Hi hde)];exact h.own,λv hv=>(qN hv).elim (h.tmps v) λe=>by rw [e];exact hu,λp hp=>(zo hp).elim (h.heap p) λe'=>by rw [e'];exact ⟨Hi hde,hc⟩⟩
theorem Hw.Ab1 {d e:Nat} {u:AV} {c:OB} {st:St} (h:Hw d (Is e u c st)): ∀p∈st.heap,p.1≠d/\d∉p.2.refs:= λp hp=>h.heap p (by
 show p∈Nj st.heap e c
 generalize st.heap=H at hp
 induction H with
 |nil=>cases hp
 |cons q r ih=>
  obtain ⟨k,a⟩:=q
  simp only [Nj]
  split
  ·exact An _ hp
  ·rcases Bb.1 hp with hp|hp
   ·rw [hp];simp
   ·exact An _ (ih hp))
theorem oR {st st':St} : ∀(τ:Ty) (cs:List AC),cs.all (·.settled)=true->Er st' τ cs=Er st τ cs:=by
 intro τ
 induction τ with
 |unit=>intro cs _;cases cs<;>rfl
 |pair a r fa eV=>
  intro cs h
  simp only [Er]
  rw [At] at h
  rw [fa _ (At.2 λc hc=>h c (Ic hc)),eV _ (At.2 λc hc=>h c (Uc hc))]
 |_=>
  intro cs h
  rcases cs with _|⟨c,_|⟨c',cs⟩⟩
  ·rfl
  ·simp only [Iw,List.all_nil,Bool.and_true] at h
   simp only [Er]
   exact Zi h
  ·rfl
theorem dW {st st':St} {τ:Ty} {v:AV} (h:v.settled=true):Fe st' τ v=Fe st τ v:=by
 cases v with
 | «at»a=>
  have ha:a.settled=true:=h
  cases a<;>simp only [AC.settled,Cy] at ha
  all_goals
   simp only [Fe]
   rw [Pn rfl,Pn rfl]
   rw [Zi (st:=st) (st':=st') rfl]
 |agg cs=>simp only [Fe];rw [oR _ _ h]
 |Zw _ _ _=>rfl
 |Mb _=>rfl
theorem gZ {st st':St} : ∀(τ:Ty) (vs:List AV),vs.all (·.settled)=true->Dr st' τ vs=Dr st τ vs
 | .pair a r,v::vs,h=>by
  rw [Iw,Ag] at h
  simp only [Dr]
  rw [dW (st:=st) (st':=st') h.1,gZ r vs h.2]
 | .pair _ _,[],_=>rfl
 | .unit,[],_=>rfl
 | .unit,_::_,_=>rfl
 | .int _,vs,_=>by cases vs<;>rfl
 | .bool,vs,_=>by cases vs<;>rfl
 | .str,vs,_=>by cases vs<;>rfl
 | .slice _,vs,_=>by cases vs<;>rfl
 | .oslice _,vs,_=>by cases vs<;>rfl
 | .ptr _,vs,_=>by cases vs<;>rfl
 | .optr _,vs,_=>by cases vs<;>rfl
 | .smap _,vs,_=>by cases vs<;>rfl
 | .clo _ _,vs,_=>by cases vs<;>rfl
def Ux:AV->Bool
 | .at (.data _ _ _)=>true
 |_=>false
def gX (o:Oper):List Operand:=match o.op with
 | .move x=> [x]
 | .load _ x=> [x]
 | .call {callee:= .value (.func _),args, .. } =>args.toList
 | .insert _ m k x=> [m,k,x]
 | .buildSlice _ _ parts=>parts.toList.map (·.2)
 |_=> []
def gw (d:Nat):Operand->Bool
 | .tmp t=>!Nat.beq t d
 |_=>true
theorem KQ {d:Nat} {x:Operand} (h:gw d x=true):x≠ .tmp d:= λe=>by
 subst e
 simp [gw] at h
def Vc (Γ:Env) (st:St) (o:Oper):Bool:=match o.guard with
 |some _=>false
 |none=>match o.op with
  | .move _=>true
  | .load _ x=>(match st.ev x with
   | .at (.Gs _ _)=>true
   |_=>false)
  | .call {callee:= .value (.func f),args, .. } =>(match Γ f with
   |some (.q _)=>true
   |_=>false)&&args.toList.all λx=>(st.ev x).settled
  | .insert _ m k x=>(match st.ev m with
   | .at (.Jw _)=>true
   |_=>false)&&Ux (st.ev k)&&(st.ev x).settled
  | .buildSlice _ _ parts=>(parts.toList.all λp=>Ux (st.ev p.2))&&(match o.dst with
   |some e=>mG e st
   |none=>false)
  |_=>false
theorem Hw.ev {d:Nat} {st:St} (h:Hw d st) (x:Operand):d∉(st.ev x).refs:=by
 cases x with
 |tmp t=>
  simp only [St.ev,St.get]
  rw [Ah]
  by_cases hl:t<st.tmps.length
  ·rw [Ac hl];exact h.tmps _ (Ak hl)
  ·rw [Ev (Nat.le_of_not_lt hl)];simp [AV.refs,AC.refs]
 |const c=>
  simp only [St.ev]
  unfold kO
  split<;>simp [AV.refs,AC.refs]
 |func f=>simp [St.ev,AV.refs,AC.refs]
 |_=>simp [St.ev,AV.refs,AC.refs]
theorem yT: ∀ {H:List (Nat×OB)} {l:Nat} {b:OB},Aq H l=some b->(l,b)∈H
 |(k,c)::r,l,b,h=>by
  simp only [Aq] at h
  split at h
  ·rename_i e;subst e;cases h;simp
  ·exact An _ (yT h)
section
variable {T:Tab} {Γ:Env} {ops:Array Oper} {d:Nat} {v:AV} {b:OB} {t:St}
theorem uL {e:Option Tmp} (h:e≠some d) (hn:Hw d t) {y:AV} (hy:d∉y.refs):(Is d v b t).put e y=Is d v b (t.put e y)/\Hw d (t.put e y):=by
 cases e with
 |none=>exact ⟨rfl,hn⟩
 |some k=>exact ⟨OA (λe=>h (by rw [e])),hn.put (λe=>h (by rw [e])) hy⟩
theorem gE {o:Oper} (hg:o.guard=none) (ct:o.dst≠some d) (hn:Hw d t) {q:Option AV} (h1:evalOp T Γ (Is d v b t) o=q.map λy=>(y,Is d v b t)) (h2:evalOp T Γ t o=q.map λy=>(y,t)) (hq: ∀y,q=some y->d∉y.refs) {s':St}
  (he:En T Γ ops (Is d v b t) o=some s'): ∃t',En T Γ ops t o=some t'/\s'=Is d v b t'/\Hw d t':=by
 unfold En at he⊢
 rw [hg] at he⊢
 simp only at he⊢
 rw [h1] at he
 cases q with
 |none=>cases he
 |some y=>
  obtain ⟨p1,p2⟩:=uL (v:=v) (b:=b) ct hn (hq y rfl)
  refine ⟨_,by rw [h2];rfl,?_,p2⟩
  simp only [Ai,Aa] at he
  rw [<-he,p1]
theorem Xk {l:List Operand} (hu:l.all (gw d)=true): ∀x∈l,(Is d v b t).ev x=t.ev x:= λx hx=>UJ (KQ (At.1 hu x hx))
theorem DR {dst:Option Tmp} {x:Operand} {ty:TypeId} {pos:String} {after:Array Edge} (hn:Hw d t) (hx:(Is d v b t).ev x=t.ev x) (ct:dst≠some d) {s':St}
  (he:En T Γ ops (Is d v b t) {dst:=dst,op:= .move x,type:=ty,pos:=pos,after:=after,guard:=none} =some s'):
  ∃t',En T Γ ops t {dst:=dst,op:= .move x,type:=ty,pos:=pos,after:=after,guard:=none} =some t'/\s'=Is d v b t'/\Hw d t':=
 gE rfl ct hn (q:=some (t.ev x)) (by simp only [evalOp,Es,hx]) (by simp only [evalOp,Es]) (λy hy=>by cases hy;exact hn.ev x) he
def loadVar (T:Tab) (o:Option OB) (t0:TypeId) (i:Nat):Option AV:=match T.ty t0 with
 |some τ=>(match o with
  |some (.var _ vs)=>if τ.Am then (if i+τ.size<=vs.length then some (.agg ((vs.drop i).take τ.size)) else none) else vs[i]?.map .at
  |_=>none)
 |none=>none
theorem iV {st:St} {t0:TypeId} {l i:Nat} :Pe T st t0 (.at (.Gs l i))=loadVar T (st.at l) t0 i:=by
 unfold Pe loadVar
 cases T.ty t0<;>rfl
theorem DN {dst:Option Tmp} {t0:TypeId} {x:Operand} {ty:TypeId} {pos:String} {after:Array Edge} (hn:Hw d t) (hx:(Is d v b t).ev x=t.ev x) (ct:dst≠some d) {l i:Nat} (hp:t.ev x= .at (.Gs l i)) {s':St}
  (he:En T Γ ops (Is d v b t) {dst:=dst,op:= .load t0 x,type:=ty,pos:=pos,after:=after,guard:=none} =some s'):
  ∃t',En T Γ ops t {dst:=dst,op:= .load t0 x,type:=ty,pos:=pos,after:=after,guard:=none} =some t'/\s'=Is d v b t'/\Hw d t':=by
 have hld:d≠l:= λe=>by
  have:=hn.ev x
  rw [hp,e] at this
  exact this (by simp [AV.refs,AC.refs])
 refine gE rfl ct hn (q:=loadVar T (t.at l) t0 i) ?_ ?_ (λy hy=>?_) he
 ·simp only [evalOp,Es,hx,hp]
  rw [iV,GV hld]
 ·simp only [evalOp,Es,hp]
  rw [iV]
 ·unfold loadVar at hy
  split at hy
  ·split at hy
   ·rename_i vs hb
    have hr:d∉vs.flatMap AC.refs:=(hn.heap _ (yT hb)).2
    have iK: ∀c∈vs,d∉c.refs:= λc hc hd=>hr (Oe.2 ⟨c,hc,hd⟩)
    split at hy
    ·split at hy
     ·cases hy
      intro hd
      obtain ⟨c,hc,hd⟩:=Oe.1 hd
      exact iK c (Uc (Ic hc)) hd
     ·cases hy
    ·cases hv:vs[i]? with
     |none=>rw [hv] at hy;cases hy
     |some c=>
      rw [hv] at hy
      cases hy
      exact iK c (Bx hv)
   ·cases hy
  ·cases hy
theorem JC {l:List Operand} (hu:l.all (gw d)=true):l.map (Is d v b t).ev=l.map t.ev:=Ek λx hx=>Xk hu x hx
theorem CA {dst:Option Tmp} {f:FuncId} {args:Array Operand} {tys:Array TypeId} {ty:TypeId} {pos:String} {after:Array Edge} {sp:Spec} (Nt:Γ f=some (.q sp)) (hn:Hw d t) (hx:args.toList.map (Is d v b t).ev=args.toList.map t.ev) (ct:dst≠some d)
  (hs:(args.toList.map t.ev).all (·.settled)=true) {s':St} (he:En T Γ ops (Is d v b t) {dst:=dst,op:= .call {callee:= .value (.func f),args:=args,argTypes:=tys},type:=ty,pos:=pos,after:=after,guard:=none} =some s'):
  ∃t',En T Γ ops t {dst:=dst,op:= .call {callee:= .value (.func f),args:=args,argTypes:=tys},type:=ty,pos:=pos,after:=after,guard:=none} =some t'/\s'=Is d v b t'/\Hw d t':=by
 have HP:du sp (args.toList.map t.ev)=false:=by unfold du;rw [hs];simp
 have CT: ∀st:St,Nq Γ st f (args.toList.map t.ev)=(match Dr t sp.arg (args.toList.map t.ev) with
   |none=>none
   |some (_,x)=>(sp.fn x).map λy=>if sp.Hx then .Zw (sp.fresh||sp.res.flat) sp.res y else .at (.data (sp.fresh||sp.res.flat) sp.res y)):= λst=>by
  unfold Nq
  rw [Nt]
  simp only
  rw [hs,gZ (st:=t) _ _ hs]
  simp only [Bool.or_true,Pw]
  cases Dr t sp.arg (args.toList.map t.ev)<;>rfl
 refine gE rfl ct hn (q:=Nq Γ t f (args.toList.map t.ev)) ?_ ?_ (λy hy=>?_) he
 ·simp only [evalOp,Es,Nt,hx,HP]
  rw [CT,CT t]
  simp
 ·simp only [evalOp,Es,Nt,HP]
  simp
 ·rw [CT t] at hy
  split at hy
  ·cases hy
  ·rename_i x _
   cases hf:sp.fn x with
   |none=>rw [hf] at hy;cases hy
   |some z=>
    rw [hf] at hy
    simp only [Ai,Aa] at hy
    rw [<-hy]
    split<;>simp [AV.refs,AC.refs]
def lz (T:Tab) (o:Option OB) (t0:TypeId) (s:ByteArray) (vw:(v:Ty)->Option (Bool×v.den)):Option OB:=match T.mapOf t0 with
 |some v=>(match o,vw v with
  |some (.Ub v' f),some (_,y)=>if h:v'=v/\v.flat=true/\v.Am=false then some (.Ub v (kz (h.1▸f:ByteArray->Option v.den) s y)) else none
  |_,_=>none)
 |none=>none
theorem iW {st:St} {t0:TypeId} {l:Nat} {fr:Bool} {s:ByteArray} {x:AV} :Ip T st t0 (.at (.Jw l)) (.at (.data fr .str s)) x=(lz T (st.at l) t0 s λv=>Fe st v x).map λc=>st.Jh l c:=by
 unfold Ip lz
 cases T.mapOf t0 with
 |none=>rfl
 |some v0=>
  simp only
  cases st.at l with
  |none=>rfl
  |some c=>
   cases c with
   |Ub v' f=>
    cases Fe st v0 x with
    |none=>rfl
    |some p=>
     simp only
     split<;>rfl
   |_=>rfl
theorem zm {o:Option OB} {t0:TypeId} {s:ByteArray} {vw:(v:Ty)->Option (Bool×v.den)} {c:OB} (h:lz T o t0 s vw=some c):c.refs= []:=by
 unfold lz at h
 split at h
 ·split at h
  ·split at h
   ·cases h;rfl
   ·cases h
  ·cases h
 ·cases h
theorem qd {st:St} {t0:TypeId} {m k x:AV} {s':St} (h:Ip T st t0 m k x=some s'): ∃l fr s,m= .at (.Jw l)/\k= .at (.data fr .str s):=by
 unfold Ip at h
 split at h
 ·exact ⟨_,_,_,rfl,rfl⟩
 ·cases h
theorem zp: ∀ {H:List (Nat×OB)} {l:Nat} {c:OB} {p:Nat×OB},p∈Yj H l c->p∈H\/(p.2=c/\p.1=l/\ ∃c',(l,c')∈H)
 |(k,a)::r,l,c,p,h=>by
  simp only [Yj] at h
  split at h
  ·rename_i e
   rcases Bb.1 h with h|h
   ·subst h;exact .inr ⟨rfl,e,a,by rw [e];simp⟩
   ·exact .inl (An _ h)
  ·rcases Bb.1 h with h|h
   ·exact .inl (by rw [h];simp)
   ·exact (zp h).imp (An _) λ⟨h1,h2,c',h3⟩=>⟨h1,h2,c',An _ h3⟩
theorem Hw.Jh {st:St} {l:Nat} {c:OB} (h:Hw d st) (hc:d∉c.refs):Hw d (st.Jh l c):=
 ⟨h.own,h.tmps,λp hp=>(zp hp).elim (h.heap p) λ⟨h1,h2,c',h3⟩=>⟨by rw [h2];exact (h.heap _ h3).1,by rw [h1];exact hc⟩⟩
theorem we {dst:Option Tmp} {t0:TypeId} {m k x:Operand} {ty:TypeId} {pos:String} {after:Array Edge} (hn:Hw d t) (hm:(Is d v b t).ev m=t.ev m) (hk:(Is d v b t).ev k=t.ev k) (hx:(Is d v b t).ev x=t.ev x) (ct:dst≠some d)
  (hs:(t.ev x).settled=true) {s':St} (he:En T Γ ops (Is d v b t) {dst:=dst,op:= .insert t0 m k x,type:=ty,pos:=pos,after:=after,guard:=none} =some s'):
  ∃t',En T Γ ops t {dst:=dst,op:= .insert t0 m k x,type:=ty,pos:=pos,after:=after,guard:=none} =some t'/\s'=Is d v b t'/\Hw d t':=by
 unfold En at he⊢
 simp only [evalOp,hm,hk,hx] at he⊢
 cases HN:Ip T (Is d v b t) t0 (t.ev m) (t.ev k) (t.ev x) with
 |none=>rw [HN] at he;cases he
 |some s1=>
  rw [HN] at he
  simp only [Ai,Aa] at he
  obtain ⟨l,fr,s,e1,e2⟩:=qd HN
  have hld:d≠l:= λe=>by
   have:=hn.ev m
   rw [e1,e] at this
   exact this (by simp [AV.refs,AC.refs])
  rw [e1,e2,iW,GV hld] at HN
  have hvw:(λv0=>Fe (Is d v b t) v0 (t.ev x))= λv0=>Fe t v0 (t.ev x):=funext λv0=>dW hs
  rw [hvw] at HN
  rw [e1,e2,iW]
  cases ho:lz T (t.at l) t0 s λv0=>Fe t v0 (t.ev x) with
  |none=>rw [ho] at HN;cases HN
  |some c=>
   rw [ho] at HN
   simp only [Ai,Aa] at HN
   have hc:=zm ho
   have pd:Hw d (t.Jh l c):=hn.Jh (by rw [hc];simp)
   obtain ⟨p1,p2⟩:=uL (v:=v) (b:=b) (y:= .undef) ct pd (by simp [AV.refs,AC.refs])
   refine ⟨_,rfl,?_,p2⟩
   rw [<-he,<-HN,IZ hld,p1]
theorem Hw.back {e:Nat} (h:Hw e (Is d v b t)) (hde:e≠d) (hn:Hw d t):Hw e t:=by
 have hg: ∀k,k≠d->(Is d v b t).get k=t.get k:= λk hk=>cp _ _ _ _ _ (Hi hk)
 refine ⟨by rw [<-hg e hde];exact h.own,λu hu hd=>?_,h.Ab1⟩
 obtain ⟨k,hk,rfl⟩:=Az.1 hu
 have e1:t.get k=t.tmps[k]:=by unfold St.get;rw [Ah,Ac hk];rfl
 by_cases XT:k=d
 ·subst XT
  have:=hn.own
  rw [e1] at this
  rw [this] at hd
  cases hd
 ·have h1:=h.ev (.tmp k)
  have h2:(Is d v b t).ev (.tmp k)=t.tmps[k]:=by show (Is d v b t).get k=_;rw [hg k XT,e1]
  rw [h2] at h1
  exact h1 hd
def kl (e:Ty):Nat->List (Nat×AV)->Option (Bool×Bool×List e.den)
 |_,[]=>some (true,true,[])
 |i,(j,x)::r=>if i=j then match Fe ⟨[],[]⟩ e x with
  |some (fr,y)=>match kl e (i+1) r with
   |some (Um,SX,ys)=>some (fr&&Um,Rw ⟨[],[]⟩ x&&e.tree&&SX,y::ys)
   |none=>none
  |none=>none
  else none
theorem c8 {st:St} {e:Ty} : ∀(l:List (Nat×Operand)) (i:Nat),(l.all λp=>Ux (st.ev p.2))=true->Ks e i l st=(kl e i (l.map λp=>(p.1,st.ev p.2))).map λp=>(p.1,p.2.1,p.2.2,st)
 | [],i,_=>rfl
 |(j,x)::r,i,h=>by
  rw [Iw,Ag] at h
  have hx:Ux (st.ev x)=true:=h.1
  simp only [Ks,kl,Bh]
  split
  ·generalize hxv:st.ev x=xv at hx
   unfold Ux at hx
   split at hx
   ·rename_i fr τ z
    have KB:settle st (.at (.data fr τ z))=some (.at (.data fr τ z),st):=rfl
    rw [KB]
    simp only
    rw [dW (st:=⟨[],[]⟩) (st':=st) (v:= .at (.data fr τ z)) rfl]
    cases Fe ⟨[],[]⟩ e (.at (.data fr τ z)) with
    |none=>rfl
    |some p=>
     simp only
     rw [c8 r (i+1) h.2]
     cases kl e (i+1) (r.map λp=>(p.1,st.ev p.2)) with
     |none=>rfl
     |some q=>rfl
   ·cases hx
  ·rfl
def rowOf (T:Tab) (t0:TypeId) (len:Nat) (parts:List (Nat×AV)) (dst:Nat):Option (AV×OB):=match cq T t0 with
 |some _=>none
 |none=>match T.elem t0 with
  |none=>none
  |some te=>match T.ty te with
   |none=>none
   |some e=>if parts.length=len/\len<=64/\e.size<=64/\dst<Bf then (kl e 0 parts).map λp=>(.at (.own dst 0 len), .arr ((T.sv||e.flat)&&p.1) (T.AQ&&p.2.1) e te p.2.2) else none
theorem fm {st:St} {t0:TypeId} {len dst:Nat} {parts:Array (Nat×Operand)} (h:(parts.toList.all λp=>Ux (st.ev p.2))=true):
  Il T st dst t0 len parts=(rowOf T t0 len (parts.toList.map λp=>(p.1,st.ev p.2)) dst).map λr=>(r.1,st.new dst r.2):=by
 unfold Il rowOf
 cases cq T t0 with
 |some p=>
  obtain ⟨te,e⟩:=p
  simp only [Option.map_none]
  split
  ·rename_i x hp
   rw [hp,Iw,Ag] at h
   have hx:Ux (st.ev x)=true:=h.1
   unfold Ux at hx
   split at hx
   ·rename_i hv;simp only [hv]
   ·cases hx
  ·rfl
 |none=>
  simp only
  unfold Lr
  cases T.elem t0 with
  |none=>rfl
  |some te=>
   simp only
   cases T.ty te with
   |none=>rfl
   |some e=>
    simp only [Fm,Vr]
    split
    ·rw [c8 _ 0 h]
     cases kl e 0 (parts.toList.map λp=>(p.1,st.ev p.2))<;>rfl
    ·rfl
theorem o1 {t0:TypeId} {len dst:Nat} {parts:List (Nat×AV)} {r:AV×OB} (h:rowOf T t0 len parts dst=some r):py dst r.1 r.2:=by
 unfold rowOf at h
 split at h
 ·cases h
 ·split at h
  ·cases h
  ·split at h
   ·cases h
   ·split at h
    ·rename_i e _ _
     cases hp:kl e 0 parts with
     |none=>rw [hp] at h;cases h
     |some p=>
      rw [hp] at h
      simp only [Ai,Aa] at h
      subst h
      exact ⟨λl hl=>by simpa [AV.refs,AC.refs] using hl,rfl,λl hl=>by simp only [AV.map,Cb];rw [Al (Hi hl)],λl=>rfl⟩
    ·cases h
theorem yr {e:Nat} {t0:TypeId} {len:Nat} {parts:Array (Nat×Operand)} {ty:TypeId} {pos:String} {after:Array Edge} (_hl:py d v b) (hn:Hw d t) (hx: ∀p∈parts.toList,(Is d v b t).ev p.2=t.ev p.2) (ct:e≠d)
  (hp:(parts.toList.all λp=>Ux (t.ev p.2))=true) (Jg:Hw e (Is d v b t)) {s':St} (he:En T Γ ops (Is d v b t) {dst:=some e,op:= .buildSlice t0 len parts,type:=ty,pos:=pos,after:=after,guard:=none} =some s'):
  ∃t',En T Γ ops t {dst:=some e,op:= .buildSlice t0 len parts,type:=ty,pos:=pos,after:=after,guard:=none} =some t'/\s'=Is d v b t'/\Hw d t':=by
 have Aab:=Jg.back ct hn
 have HQ:(parts.toList.all λp=>Ux ((Is d v b t).ev p.2))=true:=At.2 λp w9=>by rw [hx p w9];exact At.1 hp p w9
 have hm:(parts.toList.map λp=>(p.1,(Is d v b t).ev p.2))=parts.toList.map λp=>(p.1,t.ev p.2):=Ek λp w9=>by rw [hx p w9]
 unfold En at he⊢
 simp only [evalOp] at he⊢
 rw [fm HQ,hm] at he
 rw [fm hp]
 cases hr:rowOf T t0 len (parts.toList.map λp=>(p.1,t.ev p.2)) e with
 |none=>rw [hr] at he;cases he
 |some r=>
  rw [hr] at he
  have hL:=o1 hr
  simp only [Ai,Aa] at he
  rw [Jg.new] at he
  refine ⟨Is e r.1 r.2 t,by simp only [Ai];rw [Aab.new],?_,hn.plus (Hi ct) (λh=>ct (hL.v1 _ h).symm) (by rw [hL.b1];simp)⟩
  rw [<-he,tP (Hi ct)]
def ZH:Operand->AV
 | .const c=>kO c
 |_=> .undef
theorem ZI {st:St} {x:Operand} (h:Ux (ZH x)=true):st.ev x=ZH x:=by
 cases x<;>first|rfl|cases h
def cU (T:Tab) (o:Oper):Option (Nat×AV×OB):=match o.guard with
 |some _=>none
 |none=>match o.dst with
  |none=>none
  |some d=>match o.op with
   | .buildSlice t0 len parts=>if (parts.toList.all λp=>Ux (ZH p.2))=true then (rowOf T t0 len (parts.toList.map λp=>(p.1,ZH p.2)) d).map λr=>(d,r.1,r.2) else none
   | .makeMap t0 none=>match T.mapOf t0 with
    |some τ=>if d<Bf then some (d, .at (.Jw d), .Ub τ λ_=>none) else none
    |none=>none
   |_=>none
theorem cV {o:Oper} {r:Nat×AV×OB} (h:cU T o=some r):o.dst=some r.1/\py r.1 r.2.1 r.2.2/\ ∀st:St,Hw r.1 st->En T Γ ops st o=some (Is r.1 r.2.1 r.2.2 st):=by
 obtain ⟨dst,op,ty,pos,after,guard⟩:=o
 unfold cU at h
 cases guard with
 |some g=>cases h
 |none=>
  cases dst with
  |none=>cases h
  |some d=>
   cases op with
   |buildSlice t0 len parts=>
    simp only at h
    split at h
    ·rename_i hp
     cases hr:rowOf T t0 len (parts.toList.map λp=>(p.1,ZH p.2)) d with
     |none=>rw [hr] at h;cases h
     |some q=>
      rw [hr] at h
      simp only [Ai,Aa] at h
      subst h
      refine ⟨rfl,o1 hr,λst Yo=>?_⟩
      have CT: ∀p∈parts.toList,st.ev p.2=ZH p.2:= λp w9=>ZI (At.1 hp p w9)
      have hm:(parts.toList.map λp=>(p.1,st.ev p.2))=parts.toList.map λp=>(p.1,ZH p.2):=Ek λp w9=>by rw [CT p w9]
      have HQ:(parts.toList.all λp=>Ux (st.ev p.2))=true:=At.2 λp w9=>by rw [CT p w9];exact At.1 hp p w9
      unfold En
      simp only [evalOp]
      rw [fm HQ,hm,hr]
      simp only [Ai]
      rw [Yo.new]
    ·cases h
   |makeMap t0 hint=>
    cases hint with
    |some x=>cases h
    |none=>
     simp only at h
     split at h
     ·rename_i τ Sf
      split at h
      ·rename_i hd
       cases h
       refine ⟨rfl,⟨λl hl=>by simpa [AV.refs,AC.refs] using hl,rfl,λl hl=>by simp only [AV.map,Cb];rw [Al (Hi hl)],λl=>rfl⟩,λst Yo=>?_⟩
       unfold En
       simp only [evalOp,Th,Sf,Ab hd,Ai]
       rw [Yo.new]
      ·cases h
     ·cases h
   |_=>cases h
theorem xe {l:List Operand} (h: ∀x∈l,(Is d v b t).ev x=t.ev x):(l.all λx=>((Is d v b t).ev x).settled)=(l.map t.ev).all (·.settled):=by
 rw [List.all_map]
 induction l with
 |nil=>rfl
 |cons x r ih=>
  simp only [Iw,Function.comp]
  rw [h x (by simp),ih λy hy=>h y (by simp [hy])]
theorem xf {o:Oper} (hl:py d v b) (hn:Hw d t) (hs:Vc Γ (Is d v b t) o=true) (hu:(gX o).all (gw d)=true) (ct:o.dst≠some d) {s':St} (he:En T Γ ops (Is d v b t) o=some s'):
  ∃t',En T Γ ops t o=some t'/\s'=Is d v b t'/\Hw d t'/\Vc Γ t o=true:=by
 obtain ⟨dst,op,ty,pos,after,guard⟩:=o
 unfold Vc at hs
 cases guard with
 |some g=>cases hs
 |none=>
  simp only at hs
  split at hs
  ·rename_i x
   have hx:=Xk (v:=v) (b:=b) (t:=t) hu x (by simp [gX])
   obtain ⟨t',h1,h2,h3⟩:=DR hn hx ct he
   exact ⟨t',h1,h2,h3,rfl⟩
  ·rename_i t0 x
   have hx:=Xk (v:=v) (b:=b) (t:=t) hu x (by simp [gX])
   rw [hx] at hs
   split at hs
   ·rename_i l i hp
    obtain ⟨t',h1,h2,h3⟩:=DN hn hx ct hp he
    exact ⟨t',h1,h2,h3,by simp only [Vc,hp]⟩
   ·cases hs
  ·rename_i f args tys
   rw [Ag] at hs
   obtain ⟨fV,pf⟩:=hs
   split at fV
   ·rename_i sp Nt
    have CT:=Xk (v:=v) (b:=b) (t:=t) (l:=args.toList) hu
    rw [xe CT] at pf
    obtain ⟨t',h1,h2,h3⟩:=CA Nt hn (JC hu) ct pf he
    refine ⟨t',h1,h2,h3,?_⟩
    simp only [Vc,Nt,Bool.true_and]
    rw [List.all_map] at pf
    exact pf
   ·cases fV
  ·rename_i t0 m k x
   have hm:=Xk (v:=v) (b:=b) (t:=t) hu m (by simp [gX])
   have hk:=Xk (v:=v) (b:=b) (t:=t) hu k (by simp [gX])
   have hx:=Xk (v:=v) (b:=b) (t:=t) hu x (by simp [gX])
   rw [hm,hk,hx] at hs
   have hs0:=hs
   rw [Ag] at hs
   obtain ⟨t',h1,h2,h3⟩:=we hn hm hk hx ct hs.2 he
   exact ⟨t',h1,h2,h3,hs0⟩
  ·rename_i t0 len parts
   rw [Ag] at hs
   obtain ⟨fV,pf⟩:=hs
   cases dst with
   |none=>cases pf
   |some e=>
    simp only at pf
    have hed:e≠d:= λh=>ct (by rw [h])
    have eU:(parts.toList.map (λp=>p.2)).all (gw d)=true:=hu
    have CT:=Xk (v:=v) (b:=b) (t:=t) eU
    have hx: ∀p∈parts.toList,(Is d v b t).ev p.2=t.ev p.2:= λp hp=>CT p.2 (Bo.2 ⟨p,hp,rfl⟩)
    have hp:(parts.toList.all λp=>Ux (t.ev p.2))=true:=At.2 λp hp=>by rw [<-hx p hp];exact At.1 fV p hp
    have Jg:=qT pf
    obtain ⟨t',h1,h2,h3⟩:=yr hl hn hx hed hp Jg he
    refine ⟨t',h1,h2,h3,?_⟩
    simp only [Vc,hp,Bool.true_and]
    exact KP (Jg.back hed hn)
  ·cases hs
def vr:List (Nat×AV×OB)->St->St->Prop
 | [],s,t=>s=t
 |q::Q,s,t=>Hw q.1 t/\vr Q s (Is q.1 q.2.1 q.2.2 t)
theorem uH {o:Oper} : ∀(Q:List (Nat×AV×OB)) (s t s':St),vr Q s t->(∀q∈Q,py q.1 q.2.1 q.2.2/\(gX o).all (gw q.1)=true/\o.dst≠some q.1)->Vc Γ s o=true->En T Γ ops s o=some s'->
  ∃t',En T Γ ops t o=some t'/\vr Q s' t'/\Vc Γ t o=true
 | [],s,t,s',h,_,hs,he=>by
  have h:s=t:=h
  subst h
  exact ⟨s',he,rfl,hs⟩
 |q::Q,s,t,s',⟨h1,h2⟩,hq,hs,he=>by
  obtain ⟨u',e1,e2,e3⟩:=uH Q s _ s' h2 (λp hp=>hq p (An _ hp)) hs he
  obtain ⟨l1,l2,l3⟩:=hq q (by simp)
  obtain ⟨t',f1,f2,f3,f4⟩:=xf l1 h1 e3 l2 l3 e1
  exact ⟨t',f1,⟨f3,by rw [<-f2];exact e2⟩,f4⟩
theorem uI {q:Nat×AV×OB} : ∀(Q1:List (Nat×AV×OB)) {Q2:List (Nat×AV×OB)} {s t:St},vr (Q1++q::Q2) s t->(∀p∈Q1++q::Q2,py p.1 p.2.1 p.2.2)->(∀p∈Q1,p.1≠q.1)->
  Hw q.1 t/\vr (Q1++Q2) s (Is q.1 q.2.1 q.2.2 t)
 | [],Q2,s,t,h,_,_=>h
 |p::Q1,Q2,s,t,⟨h1,h2⟩,hL,Jg=>by
  have hpq:=Jg p (by simp)
  have hLp:=hL p (by simp)
  have hLq:=hL q (by simp)
  obtain ⟨g1,g2⟩:=uI Q1 h2 (λr hr=>hL r (An _ hr)) λr hr=>Jg r (An _ hr)
  refine ⟨g1.back (Hi hpq) h1,h1.plus hpq (λh=>hpq (hLq.v1 _ h)) (by rw [hLq.b1];simp),?_⟩
  show vr (Q1++Q2) s (Is p.1 p.2.1 p.2.2 (Is q.1 q.2.1 q.2.2 t))
  rw [tP (Hi hpq)]
  exact g2
def kA (ops:Array Oper):Nat->Nat->Nat->Bool
 |0,_,_=>false
 |f+1,i,a=>Region.waitsFor .any ops i a||(List.range ops.size).any λk=>Region.waitsFor .any ops i k&&kA ops f k a
theorem jy {Af:Array Bool} (hc:Sn ops Af) {a:Nat} : ∀(f i:Nat),(∀x,Region.waitsFor .any ops i x=true->Af.getD x false=true)->kA ops f i a=true->Af.getD a false=true
 |0,_,_,h=>by cases h
 |f+1,i,hi,h=>by
  simp only [kA,Jq,Ej,Ag] at h
  rcases h with h|⟨k,_,h1,h2⟩
  ·exact hi a h
  ·exact jy hc f k (λx hx=>hc k x (hi k h1) hx) h2
def DW (P:List (Nat×Nat×AV×OB)) (Γ:Env) (ops:Array Oper) (st:St) (o:Oper) (i:Nat):Bool:=
 (P.all λa=>kA ops 5 i a.1)||(Vc Γ st o&&P.all λa=>kA ops 5 i a.1||((gX o).all (gw a.2.1)&&(match o.dst with
  |some e=>!Nat.beq e a.2.1
  |none=>true)))
def ZC (T:Tab) (Γ:Env) (ops:Array Oper) (P:List (Nat×Nat×AV×OB)) (K:St->Prop):Nat->Array Bool->St->Prop
 |0,Af,st=>Region.ready .any ops Af= []/\K st
 |f+1,Af,st=>Region.ready .any ops Af≠ []/\ ∀i∈Region.ready .any ops Af,∃o st',ops[i]?=some o/\DW P Γ ops st o i=true/\En T Γ ops st o=some st'/\ZC T Γ ops P K f (Af.setIfInBounds i true) st'
structure NJ (lc la:Array Bool) (Q:List Nat):Prop where
 size:la.size=lc.size
 off: ∀k∈Q,k<la.size/\la.getD k false=false/\lc.getD k false=true
 same: ∀k,k∉Q->la.getD k false=lc.getD k false
theorem NJ.ready {lc la:Array Bool} {Q:List Nat} (h:NJ lc la Q) {i:Nat} (hi:i∈Region.ready .any ops la) (hn:i∉Q):i∈Region.ready .any ops lc:=by
 obtain ⟨h1,o,ho,Kt⟩:=mem_ready.1 hi
 have Js:i<la.size:=by
  rcases Nat.lt_or_ge i la.size with h'|h'
  ·exact h'
  ·simp [Array.getElem?_eq_none h'] at h1
 have h2:=getD_both h1
 rw [h.same i hn] at h2
 refine mem_ready.2 ⟨getD_in (by rw [<-h.size];exact Js) h2,o,ho,λe he hb=>?_⟩
 have h3:=Kt e he hb
 by_cases hq:e.on∈Q
 ·exact (h.off _ hq).2.2
 ·rw [<-h.same _ hq];exact h3
theorem NJ.nil {lc la:Array Bool} (h:NJ lc la []):la=lc:=by
 refine Array.ext h.size λk h1 h2=>?_
 have:=h.same k (by simp)
 simpa [h1,h2] using this
theorem NJ.one {lc la:Array Bool} {Q Q':List Nat} {i:Nat} (h:NJ lc la Q) (hi:i∈Q) (hs: ∀k,k∈Q'↔k∈Q/\k≠i):NJ lc (la.setIfInBounds i true) Q':=by
 refine ⟨by simp [h.size],λk hk=>?_,λk hk=>?_⟩
 ·obtain ⟨h1,h2⟩:=(hs k).1 hk
  obtain ⟨g1,g2,g3⟩:=h.off k h1
  exact ⟨by simpa using g1,by rw [getD_set_ne false (Hi h2)];exact g2,g3⟩
 ·by_cases e:i=k
  ·subst e
   obtain ⟨g1,g2,g3⟩:=h.off i hi
   rw [g3]
   simp [g1]
  ·rw [getD_set_ne false e]
   exact h.same k λhq=>hk ((hs k).2 ⟨hq,Hi e⟩)
theorem NJ.both {lc la:Array Bool} {Q:List Nat} {i:Nat} (h:NJ lc la Q) (hi:i∉Q):NJ (lc.setIfInBounds i true) (la.setIfInBounds i true) Q:=by
 refine ⟨by simp [h.size],λk hk=>?_,λk hk=>?_⟩
 ·obtain ⟨g1,g2,g3⟩:=h.off k hk
  have Jg:i≠k:= λe=>hi (by rw [e];exact hk)
  exact ⟨by simpa using g1,by rw [getD_set_ne false Jg];exact g2,by rw [getD_set_ne false Jg];exact g3⟩
 ·by_cases e:i=k
  ·subst e
   have hs:=h.same i hi
   have hz:=h.size
   by_cases hl:i<la.size
   ·simp [hl,hz▸hl]
   ·have Ns: ¬i<lc.size:=by omega
    simp [hl,Ns]
  ·rw [getD_set_ne false e,getD_set_ne false e];exact h.same k hk
theorem DU {dst:Option Tmp} {d:Nat} (h:(match dst with
  |some e=>!Nat.beq e d
  |none=>true)=true):dst≠some d:= λe=>by
 subst e
 simp at h
theorem JA {P:List (Nat×Nat×AV×OB)} {K:St->Prop} (hP: ∀a∈P,∃o,ops[a.1]?=some o/\cU T o=some a.2):
  ∀(n f:Nat) (Q:List (Nat×Nat×AV×OB)) (lc la:Array Bool) (s t:St),n=f+Q.length->ZC T Γ ops P K f lc s->vr (Q.map (·.2)) s t->NJ lc la (Q.map (·.1))->(∀a∈Q,a∈P)->
   (Q.Pairwise λa c=>a.2.1≠c.2.1/\a.1≠c.1)->Sn ops la->(∀a∈Q,∀x,Region.waitsFor .any ops a.1 x=true->la.getD x false=true)->anyS T Γ ops K n la t:=by
 intro n
 induction n with
 |zero=>
  intro f Q lc la s t hn hC hp hb hQ hpw Qh hw
  have hf:f=0:=by omega
  have hq:Q= []:=De (by omega)
  subst hf hq
  have hp:s=t:=hp
  subst hp
  rw [hb.nil]
  exact hC
 |succ n ih=>
  intro f Q lc la s t hn hC hp hb hQ hpw Qh hw
  refine ⟨?_,λi hi=>?_⟩
  ·cases Q with
   |nil=>
    rw [hb.nil]
    cases f with
    |zero=>simp at hn
    |succ f=>exact hC.1
   |cons a Q=>
    obtain ⟨o,ho,_⟩:=hP a (hQ a (by simp))
    obtain ⟨g1,g2,_⟩:=hb.off a.1 (by simp)
    have:a.1∈Region.ready .any ops la:=mem_ready.2 ⟨getD_in g1 g2,o,ho,λe he hbd=>hw a (by simp) e.on (by
     unfold Region.waitsFor
     rw [ho]
     exact Array.any_eq_true'.2 ⟨e,he,by simp [hbd]⟩)⟩
    intro e
    rw [e] at this
    cases this
  ·by_cases hiQ:i∈Q.map (·.1)
   ·obtain ⟨a,ha,rfl⟩:=Bo.1 hiQ
    obtain ⟨Q1,Q2,rfl⟩:=List.append_of_mem ha
    obtain ⟨o,ho,hal⟩:=hP a (hQ a ha)
    obtain ⟨_,_,Yo⟩:=cV (Γ:=Γ) (ops:=ops) hal
    have PT:=List.pairwise_append.1 hpw
    have Adw:=List.pairwise_cons.1 PT.2.1
    rw [Tw,Bh] at hp
    have hL: ∀p∈Q1.map (·.2)++a.2::Q2.map (·.2),py p.1 p.2.1 p.2.2:= λp w9=>by
     have:p∈(Q1++a::Q2).map (·.2):=by rw [Tw,Bh];exact w9
     obtain ⟨c,hc,rfl⟩:=Bo.1 this
     obtain ⟨o',_,Ai7⟩:=hP c (hQ c hc)
     exact (cV (Γ:=Γ) (ops:=ops) Ai7).2.1
    obtain ⟨p1,p2⟩:=uI _ hp hL λp w9=>by
     obtain ⟨c,hc,rfl⟩:=Bo.1 w9
     exact (PT.2.2 c hc a (by simp)).1
    refine ⟨o,_,ho,Yo t p1,ih f (Q1++Q2) lc _ s _ ?_ hC (by rw [Tw];exact p2) (hb.one hiQ λk=>?_) (λc hc=>hQ c ?_) ?_ (Qh.set hi) λc hc x hx=>getD_set_true (hw c ?_ x hx)⟩
    ·simp only [Au,Bg] at hn⊢;omega
    ·simp only [Tw,Bh,Aw,Bb]
     constructor
     ·intro h
      rcases h with h|h
      ·obtain ⟨c,hc,rfl⟩:=Bo.1 h
       exact ⟨.inl h,(PT.2.2 c hc a (by simp)).2⟩
      ·obtain ⟨c,hc,rfl⟩:=Bo.1 h
       exact ⟨.inr (.inr h),Hi (Adw.1 c hc).2⟩
     ·rintro ⟨h|h|h,Jg⟩
      ·exact .inl h
      ·exact absurd h Jg
      ·exact .inr h
    ·rcases Aw.1 hc with hc|hc
     ·exact Bk _ hc
     ·exact Bu _ (An _ hc)
    ·exact List.pairwise_append.2 ⟨PT.1,Adw.2,λc hc e he=>PT.2.2 c hc e (An _ he)⟩
    ·rcases Aw.1 hc with hc|hc
     ·exact Bk _ hc
     ·exact Bu _ (An _ hc)
   ·have hic:=hb.ready hi hiQ
    cases f with
    |zero=>
     rw [hC.1] at hic
     cases hic
    |succ f=>
     obtain ⟨o,s',ho,df,he,er⟩:=hC.2 i hic
     have VF: ∀a∈Q,kA ops 5 i a.1=false:= λa ha=>by
      cases hwt:kA ops 5 i a.1 with
      |false=>rfl
      |true=>
       have h1:=jy Qh _ i (λx hx=>bm hi hx) hwt
       rw [(hb.off a.1 (Bo.2 ⟨a,ha,rfl⟩)).2.1] at h1
       cases h1
     have key: ∃t',En T Γ ops t o=some t'/\vr (Q.map (·.2)) s' t':=by
      unfold DW at df
      rw [Jq,Ag] at df
      rcases df with df|⟨h1,h2⟩
      ·cases Q with
       |nil=>
        have hp:s=t:=hp
        subst hp
        exact ⟨s',he,rfl⟩
       |cons a Q=>
        have:=At.1 df a (hQ a (by simp))
        rw [VF a (by simp)] at this
        cases this
      ·obtain ⟨t',g1,g2,_⟩:=uH (T:=T) (ops:=ops) _ s t s' hp (λq hq=>by
        obtain ⟨a,ha,rfl⟩:=Bo.1 hq
        obtain ⟨o',_,hal⟩:=hP a (hQ a ha)
        have h3:=At.1 h2 a (hQ a ha)
        rw [VF a ha,Zx,Ag] at h3
        exact ⟨(cV (Γ:=Γ) (ops:=ops) hal).2.1,h3.1,DU h3.2⟩) h1 he
       exact ⟨t',g1,g2⟩
     obtain ⟨t',g1,g2⟩:=key
     exact ⟨o,t',ho,g1,ih f Q _ _ s' t' (by omega) er g2 (hb.both hiQ) hQ hpw (Qh.set hi) λc hc x hx=>getD_set_true (hw c hc x hx)⟩
def Xi (T:Tab) (ops:Array Oper) (Af:Array Bool):List (Nat×Nat×AV×OB):=(Region.ready .any ops Af).filterMap λi=>((ops[i]?).bind (cU T)).map λr=>(i,r)
theorem vA {Af:Array Bool} {a:Nat×Nat×AV×OB} (h:a∈Xi T ops Af):a.1∈Region.ready .any ops Af/\ ∃o,ops[a.1]?=some o/\cU T o=some a.2:=by
 unfold Xi at h
 obtain ⟨i,hi,he⟩:=List.mem_filterMap.1 h
 cases ho:ops[i]? with
 |none=>rw [ho] at he;cases he
 |some o=>
  rw [ho] at he
  simp only [Ey,Option.map_eq_some_iff] at he
  obtain ⟨r,h1,rfl⟩:=he
  exact ⟨hi,o,ho,h1⟩
theorem UN {Af:Array Bool} {Q:List Nat} (h: ∀i∈Q,i∈Region.ready .any ops Af):NJ (Ec Q Af) Af Q:=by
 have hr: ∀i∈Q,i<Af.size/\Af.getD i false=false:= λi hi=>by
  have h1:=(mem_ready.1 (h i hi)).1
  refine ⟨?_,getD_both h1⟩
  rcases Nat.lt_or_ge i Af.size with h'|h'
  ·exact h'
  ·simp [Array.getElem?_eq_none h'] at h1
 exact ⟨(Us Q Af).symm,λk hk=>⟨(hr k hk).1,(hr k hk).2,dq Q Af k hk (hr k hk).1⟩,λk hk=>(bM Q Af k hk).symm⟩
theorem zN: ∀(Q:List (Nat×Nat×AV×OB)) (t s:St),(∀a∈Q,∃o,ops[a.1]?=some o/\cU T o=some a.2)->(∀a∈Q,Hw a.2.1 t)->(Q.Pairwise λa c=>a.2.1≠c.2.1)->Me T Γ ops (Q.map (·.1)) t=some s->vr (Q.map (·.2)) s t
 | [],t,s,_,_,_,h=>by
  have h:some t=some s:=h
  exact (Ba h).symm
 |a::Q,t,s,hQ,hn,hp,h=>by
  obtain ⟨o,ho,hal⟩:=hQ a (by simp)
  obtain ⟨_,hL,Yo⟩:=cV (Γ:=Γ) (ops:=ops) hal
  obtain ⟨uc,HR⟩:=List.pairwise_cons.1 hp
  simp only [Bh,Me,ho] at h
  rw [Yo t (hn a (by simp))] at h
  refine ⟨hn a (by simp),zN Q _ s (λc hc=>hQ c (An _ hc)) (λc hc=>?_) HR h⟩
  exact (hn c (An _ hc)).plus (Hi (uc c hc)) (λh=>uc c hc (hL.v1 _ h).symm) (by rw [hL.b1];simp)
end
end Go.Proofs.Ytkkdpknjohcekaa
