/-
  Part 30 of the proof that the statement FnBoundStatistics holds.
-/
import Derived.Test.YtkkdpknjohcekaaCFBoundStatistics28
namespace Go.Proofs.Ytkkdpknjohcekaa
open Go.RowKit
def Jl (d:Nat) (v:AV) (b:OB) (st:St):St:= {tmps:=Sz st.tmps d v,heap:=Om st.heap d b}
def ph (d:Nat) (st:St):Bool:=(st.get d).refs.isEmpty&&((st.tmps.all λv=>!v.refs.contains d)&&st.heap.all λp=>!Nat.beq p.1 d&&!p.2.refs.contains d)
structure It (d:Nat) (st:St):Prop where
 own:(st.get d).refs= []
 tmps: ∀v∈st.tmps,d∉v.refs
 heap: ∀p∈st.heap,p.1≠d/\d∉p.2.refs
theorem tX {d:Nat} {st:St} (h:ph d st=true):It d st:=by
 unfold ph at h
 rw [Af,Af,Ba,Ba] at h
 obtain ⟨h0,h⟩:=h
 refine ⟨List.isEmpty_iff.1 h0,λv hv=>?_,λp hp=>?_⟩
 ·have:=h.1 v hv
  intro hd
  rw [Js.2 hd] at this
  cases this
 ·have:=h.2 p hp
  rw [Af] at this
  refine ⟨λe=>?_,λhd=>?_⟩
  ·have h1:=this.1
   rw [e,Nat.beq_refl] at h1
   cases h1
  ·have h1:=this.2
   rw [Js.2 hd] at h1
   cases h1
theorem TK {d:Nat} {st:St} (h:It d st):ph d st=true:=by
 unfold ph
 rw [Af,Af,Ba,Ba]
 refine ⟨by rw [h.own];rfl,λv hv=>?_,λp hp=>?_⟩
 ·rw [Fz,<-Ho,Js];exact h.tmps v hv
 ·rw [Af]
  refine ⟨?_,?_⟩
  ·rw [Fz,<-Ho]
   exact λe=>(h.heap p hp).1 (Jt e)
  ·rw [Fz,<-Ho,Js];exact (h.heap p hp).2
structure sn (d:Nat) (v:AV) (b:OB):Prop where
 v1: ∀l,l∈v.refs->l=d
 b1:b.refs= []
 v2: ∀l,l≠d->v.map (Cp l)=v
 b2: ∀l,b.map (Cp l)=b
theorem dZ {α:Type} : ∀(xs:List α) (d t:Nat) (v x:α),d≠t->(Sz xs d v).getD t x=xs.getD t x
 | [],_,_,_,_,_=>rfl
 |y::r,0,0,_,_,h=>absurd rfl h
 |y::r,0,t+1,_,_,_=>by simp [Sz]
 |y::r,d+1,0,_,_,_=>by simp [Sz]
 |y::r,d+1,t+1,v,x,h=>by simpa [Sz] using dZ r d t v x (by omega)
theorem pL {α:Type} : ∀(xs:List α) (d e:Nat) (v w:α),d≠e->Sz (Sz xs d v) e w=Sz (Sz xs e w) d v
 | [],_,_,_,_,_=>rfl
 |y::r,0,0,_,_,h=>absurd rfl h
 |y::r,0,e+1,_,_,_=>rfl
 |y::r,d+1,0,_,_,_=>rfl
 |y::r,d+1,e+1,v,w,h=>by simp only [Sz];rw [pL r d e v w (by omega)]
theorem xh: ∀(H:List (Nat×OB)) (d l:Nat) (b:OB),d≠l->At (Om H d b) l=At H l
 | [],d,l,b,h=>by simp [Om,At,h]
 |(k,c)::r,d,l,b,h=>by
  simp only [Om]
  split
  ·simp only [At];rw [Ak h]
  ·simp only [At]
   split
   ·rfl
   ·exact xh r d l b h
theorem xo: ∀(H:List (Nat×OB)) (d e:Nat) (b c:OB),d≠e->Om (Om H d b) e c=Om (Om H e c) d b
 | [],d,e,b,c,h=>by
  simp only [Om]
  by_cases h1:e<d
  ·rw [Ac h1,Ak (by omega)]
  ·rw [Ak h1,Ac (by omega)]
 |(k,a)::r,d,e,b,c,h=>by
  simp only [Om]
  by_cases h1:d<k<;>by_cases h2:e<k
  ·rw [Ac h1,Ac h2]
   simp only [Om]
   by_cases h3:e<d
   ·rw [Ac h3,Ak (by omega),Ac h1]
   ·rw [Ak h3,Ac h2,Ac (by omega)]
  ·rw [Ac h1,Ak h2]
   simp only [Om]
   rw [Ak (by omega),Ak h2,Ac h1]
  ·rw [Ak h1,Ac h2]
   simp only [Om]
   rw [Ac h2,Ak (by omega),Ak h1]
  ·rw [Ak h1,Ak h2]
   simp only [Om]
   rw [Ak h1,Ak h2,xo r d e b c h]
theorem yc: ∀(H:List (Nat×OB)) (d l:Nat) (b c:OB),d≠l->au (Om H d b) l c=Om (au H l c) d b
 | [],d,l,b,c,h=>by simp [Om,au,h]
 |(k,a)::r,d,l,b,c,h=>by
  simp only [Om,au]
  by_cases h1:d<k<;>by_cases h2:k=l
  ·rw [Ac h1,Ac h2]
   simp only [au,Om]
   rw [Ak h,Ac h2,Ac h1]
  ·rw [Ac h1,Ak h2]
   simp only [au,Om]
   rw [Ak h,Ak h2,Ac h1]
  ·rw [Ak h1,Ac h2]
   simp only [au,Om]
   rw [Ac h2,Ak h1]
  ·rw [Ak h1,Ak h2]
   simp only [au,Om]
   rw [Ak h2,Ak h1,yc r d l b c h]
theorem qf {l:Nat} : ∀ {c:AC},l∉c.refs->Cp l c=c:=by
 intro c h
 cases c<;>simp only [Cp]<;>simp only [AC.refs,Ad] at h
 case clo f Ee=>rw [Ak (by simpa using h)]
 all_goals (first|rfl|rw [Ak (Gb h)])
theorem aR {l:Nat} : ∀ {cs:List AC},l∉cs.flatMap AC.refs->cs.map (Cp l)=cs
 | [],_=>rfl
 |c::r,h=>by
  rw [Vw,Ax] at h
  rw [Bm,qf (λhh=>h (.inl hh)),aR (λhh=>h (.inr hh))]
theorem DU {l:Nat} : ∀ {v:AV},l∉v.refs->v.map (Cp l)=v
 | .at a,h=>by simp only [AV.map];rw [qf h]
 | .agg cs,h=>by simp only [AV.map];rw [aR h]
 | .bu _ _ _,_=>rfl
 | .Mw ps,h=>by
  simp only [AV.map]
  congr 1
  simp only [AV.refs] at h
  induction ps with
  |nil=>rfl
  |cons p r ih=>
   rw [Vw,Ax] at h
   rw [Bm,aR (λhh=>h (.inl hh)),ih (λhh=>h (.inr hh))]
theorem DV {l:Nat} : ∀ {b:OB},l∉b.refs->b.map (Cp l)=b
 | .arr _ _ _ _ _,_=>rfl
 | .Gu _ _ _,_=>rfl
 | .var _ vs,h=>by simp only [OB.map];rw [aR h]
 | .Bl _ _ _ _ _,_=>rfl
 | .Vu _ _,_=>rfl
theorem DG {l:Nat} : ∀ {H:List (Nat×OB)},(∀p∈H,p.1≠l)->aA H l=H
 | [],_=>rfl
 |(k,b)::r,h=>by
  simp only [aA]
  rw [Ak (h (k,b) (by simp)),DG λp hp=>h p (by simp [hp])]
theorem It.forget {l:Nat} {st:St} (h:It l st):st.forget l=st:=by
 have e1:st.tmps.map (λv=>v.map (Cp l))=st.tmps:=(Eh λv hv=>DU (h.tmps v hv)).trans (List.map_id _)
 have e2:st.heap.map (λp=>(p.1,p.2.map (Cp l)))=st.heap:=(Eh λp hp=>by rw [DV (h.heap p hp).2];rfl).trans (List.map_id _)
 unfold St.forget St.Lc
 simp only [e1,e2]
 rw [DG λp hp=>(h.heap p hp).1]
theorem It.new {l:Nat} {st:St} (h:It l st) (b:OB) (v:AV):(st.new l b).put (some l) v=Jl l v b st:=by
 unfold St.new
 rw [h.forget]
 rfl
theorem tS {α:Type} : ∀ {xs:List α} {d:Nat} {v x:α},x∈Sz xs d v->x∈xs\/x=v
 | [],_,_,_,h=>by cases h
 |y::r,0,v,x,h=>by
  rcases Bc.1 h with h|h
  ·exact .inr h
  ·exact .inl (Aq _ h)
 |y::r,d+1,v,x,h=>by
  rcases Bc.1 h with h|h
  ·exact .inl (by rw [h];simp)
  ·exact (tS h).imp (Aq _) id
theorem FO: ∀ {H:List (Nat×OB)} {d:Nat} {b:OB} {p:Nat×OB},p∈Om H d b->p∈H\/p=(d,b)
 | [],d,b,p,h=> .inr (by simpa [Om] using h)
 |(k,c)::r,d,b,p,h=>by
  simp only [Om] at h
  split at h
  ·rcases Bc.1 h with h|h
   ·exact .inr h
   ·exact .inl h
  ·rcases Bc.1 h with h|h
   ·exact .inl (by rw [h];simp)
   ·exact (FO h).imp (Aq _) id
theorem Acr {d:Nat} {v:AV} {b:OB} {st:St} {x:Operand} (h:x≠ .tmp d):(Jl d v b st).ev x=st.ev x:=by
 cases x with
 |tmp t=>exact dZ _ _ _ _ _ (λe=>h (by rw [e]))
 |_=>rfl
theorem PC {d l:Nat} {v:AV} {b:OB} {st:St} (h:d≠l):(Jl d v b st).at l=st.at l:=xh _ _ _ _ h
theorem WY {d e:Nat} {v u:AV} {b:OB} {st:St} (h:d≠e):(Jl d v b st).put (some e) u=Jl d v b (st.put (some e) u):=by
 unfold Jl St.put
 simp only
 rw [pL _ _ _ _ _ h]
theorem RQ {d l:Nat} {v:AV} {b c:OB} {st:St} (h:d≠l):(Jl d v b st).Kg l c=Jl d v b (st.Kg l c):=by
 unfold Jl St.Kg
 simp only
 rw [yc _ _ _ _ _ h]
theorem wT {d e:Nat} {v u:AV} {b c:OB} {st:St} (h:d≠e):Jl e u c (Jl d v b st)=Jl d v b (Jl e u c st):=by
 unfold Jl
 rw [pL _ _ _ _ _ h,xo _ _ _ _ _ h]
theorem It.put {d:Nat} {st:St} {e:Nat} {u:AV} (h:It d st) (XZ:e≠d) (hu:d∉u.refs):It d (st.put (some e) u):=
 ⟨by show (List.getD (Sz st.tmps e u) d .undef).refs= [];rw [dZ _ _ _ _ _ XZ];exact h.own,λv hv=>(tS hv).elim (h.tmps v) λe=>by rw [e];exact hu,h.heap⟩
theorem It.plus {d e:Nat} {u:AV} {c:OB} {st:St} (h:It d st) (XZ:d≠e) (hu:d∉u.refs) (hc:d∉c.refs):It d (Jl e u c st):=
 ⟨by show (List.getD (Sz st.tmps e u) d .undef).refs= [];rw [dZ _ _ _ _ _ (Gb XZ)];exact h.own,λv hv=>(tS hv).elim (h.tmps v) λe=>by rw [e];exact hu,λp hp=>(FO hp).elim (h.heap p) λe'=>by rw [e'];exact ⟨Gb XZ,hc⟩⟩
theorem It.Aiy {d e:Nat} {u:AV} {c:OB} {st:St} (h:It d (Jl e u c st)): ∀p∈st.heap,p.1≠d/\d∉p.2.refs:= λp hp=>h.heap p (by
 show p∈Om st.heap e c
 generalize st.heap=H at hp
 induction H with
 |nil=>cases hp
 |cons q r ih=>
  obtain ⟨k,a⟩:=q
  simp only [Om]
  split
  ·exact Aq _ hp
  ·rcases Bc.1 hp with hp|hp
   ·rw [hp];simp
   ·exact Aq _ (ih hp))
theorem rO {st st':St} : ∀(τ:Ty) (cs:List AC),cs.all (·.settled)=true->Ey st' τ cs=Ey st τ cs:=by
 intro τ
 induction τ with
 |unit=>intro cs _;cases cs<;>rfl
 |pair a r gV gR=>
  intro cs h
  simp only [Ey]
  rw [Ba] at h
  rw [gV _ (Ba.2 λc hc=>h c (Et hc)),gR _ (Ba.2 λc hc=>h c (Vx hc))]
 |_=>
  intro cs h
  rcases cs with _|⟨c,_|⟨c',cs⟩⟩
  ·rfl
  ·simp only [Iu,List.all_nil,Bool.and_true] at h
   simp only [Ey]
   exact aZ h
  ·rfl
theorem fU {st st':St} {τ:Ty} {v:AV} (h:v.settled=true):Fp st' τ v=Fp st τ v:=by
 cases v with
 | «at»a=>
  have ha:a.settled=true:=h
  cases a<;>simp only [AC.settled,Dc] at ha
  all_goals
   simp only [Fp]
   rw [Qs rfl,Qs rfl]
   rw [aZ (st:=st) (st':=st') rfl]
 |agg cs=>simp only [Fp];rw [rO _ _ h]
 |bu _ _ _=>rfl
 |Mw _=>rfl
theorem jG {st st':St} : ∀(τ:Ty) (vs:List AV),vs.all (·.settled)=true->Dv st' τ vs=Dv st τ vs
 | .pair a r,v::vs,h=>by
  rw [Iu,Af] at h
  simp only [Dv]
  rw [fU (st:=st) (st':=st') h.1,jG r vs h.2]
 | .pair _ _,[],_=>rfl
 | .unit,[],_=>rfl
 | .unit,_::_,_=>rfl
 | .int _,vs,_=>by cases vs<;>rfl
 | .bool,vs,_=>by cases vs<;>rfl
 | .str,vs,_=>by cases vs<;>rfl
 | .slice _,vs,_=>by cases vs<;>rfl
 | .oslice _,vs,_=>by cases vs<;>rfl
 | .ptr _,vs,_=>by cases vs<;>rfl
 | .optr _,vs,_=>by cases vs<;>rfl
 | .smap _,vs,_=>by cases vs<;>rfl
 | .clo _ _,vs,_=>by cases vs<;>rfl
def Wt:AV->Bool
 | .at (.data _ _ _)=>true
 |_=>false
def jE (o:Oper):List Operand:=match o.op with
 | .move x=> [x]
 | .load _ x=> [x]
 | .call {callee:= .value (.func _),args, .. } =>args.toList
 | .insert _ m k x=> [m,k,x]
 | .buildSlice _ _ parts=>parts.toList.map (·.2)
 |_=> []
def j6 (d:Nat):Operand->Bool
 | .tmp t=>!Nat.beq t d
 |_=>true
theorem TL {d:Nat} {x:Operand} (h:j6 d x=true):x≠ .tmp d:= λe=>by
 subst e
 simp [j6] at h
def Wy (Γ:Env) (st:St) (o:Oper):Bool:=match o.guard with
 |some _=>false
 |none=>match o.op with
  | .move _=>true
  | .load _ x=>(match st.ev x with
   | .at (.Hj _ _)=>true
   |_=>false)
  | .call {callee:= .value (.func f),args, .. } =>(match Γ f with
   |some (.q _)=>true
   |_=>false)&&args.toList.all λx=>(st.ev x).settled
  | .insert _ m k x=>(match st.ev m with
   | .at (.Ks _)=>true
   |_=>false)&&Wt (st.ev k)&&(st.ev x).settled
  | .buildSlice _ _ parts=>(parts.toList.all λp=>Wt (st.ev p.2))&&(match o.dst with
   |some e=>ph e st
   |none=>false)
  |_=>false
theorem It.ev {d:Nat} {st:St} (h:It d st) (x:Operand):d∉(st.ev x).refs:=by
 cases x with
 |tmp t=>
  simp only [St.ev,St.get]
  rw [Ah]
  by_cases hl:t<st.tmps.length
  ·rw [Ab hl];exact h.tmps _ (Al hl)
  ·rw [Dy (Nat.le_of_not_lt hl)];simp [AV.refs,AC.refs]
 |const c=>
  simp only [St.ev]
  unfold mQ
  split<;>simp [AV.refs,AC.refs]
 |func f=>simp [St.ev,AV.refs,AC.refs]
 |_=>simp [St.ev,AV.refs,AC.refs]
theorem EF: ∀ {H:List (Nat×OB)} {l:Nat} {b:OB},At H l=some b->(l,b)∈H
 |(k,c)::r,l,b,h=>by
  simp only [At] at h
  split at h
  ·rename_i e;subst e;cases h;simp
  ·exact Aq _ (EF h)
section
variable {T:Tab} {Γ:Env} {ops:Array Oper} {d:Nat} {v:AV} {b:OB} {t:St}
theorem xS {e:Option Tmp} (h:e≠some d) (hn:It d t) {y:AV} (hy:d∉y.refs):(Jl d v b t).put e y=Jl d v b (t.put e y)/\It d (t.put e y):=by
 cases e with
 |none=>exact ⟨rfl,hn⟩
 |some k=>exact ⟨WY (λe=>h (by rw [e])),hn.put (λe=>h (by rw [e])) hy⟩
theorem jf {o:Oper} (hg:o.guard=none) (ec:o.dst≠some d) (hn:It d t) {q:Option AV} (h1:evalOp T Γ (Jl d v b t) o=q.map λy=>(y,Jl d v b t)) (h2:evalOp T Γ t o=q.map λy=>(y,t)) (hq: ∀y,q=some y->d∉y.refs) {s':St}
  (he:Eu T Γ ops (Jl d v b t) o=some s'): ∃t',Eu T Γ ops t o=some t'/\s'=Jl d v b t'/\It d t':=by
 unfold Eu at he⊢
 rw [hg] at he⊢
 simp only at he⊢
 rw [h1] at he
 cases q with
 |none=>cases he
 |some y=>
  obtain ⟨p1,p2⟩:=xS (v:=v) (b:=b) ec hn (hq y rfl)
  refine ⟨_,by rw [h2];rfl,?_,p2⟩
  simp only [Am,Aa] at he
  rw [<-he,p1]
theorem Zu {l:List Operand} (hu:l.all (j6 d)=true): ∀x∈l,(Jl d v b t).ev x=t.ev x:= λx hx=>Acr (TL (Ba.1 hu x hx))
theorem LY {dst:Option Tmp} {x:Operand} {ty:TypeId} {pos:String} {after:Array Edge} (hn:It d t) (hx:(Jl d v b t).ev x=t.ev x) (ec:dst≠some d) {s':St}
  (he:Eu T Γ ops (Jl d v b t) {dst:=dst,op:= .move x,type:=ty,pos:=pos,after:=after,guard:=none} =some s'):
  ∃t',Eu T Γ ops t {dst:=dst,op:= .move x,type:=ty,pos:=pos,after:=after,guard:=none} =some t'/\s'=Jl d v b t'/\It d t':=
 jf rfl ec hn (q:=some (t.ev x)) (by simp only [evalOp,Fa,hx]) (by simp only [evalOp,Fa]) (λy hy=>by cases hy;exact hn.ev x) he
def loadVar (T:Tab) (o:Option OB) (t0:TypeId) (i:Nat):Option AV:=match T.ty t0 with
 |some τ=>(match o with
  |some (.var _ vs)=>if τ.Ao then (if i+τ.size<=vs.length then some (.agg ((vs.drop i).take τ.size)) else none) else vs[i]?.map .at
  |_=>none)
 |none=>none
theorem kS {st:St} {t0:TypeId} {l i:Nat} :Qm T st t0 (.at (.Hj l i))=loadVar T (st.at l) t0 i:=by
 unfold Qm loadVar
 cases T.ty t0<;>rfl
theorem LQ {dst:Option Tmp} {t0:TypeId} {x:Operand} {ty:TypeId} {pos:String} {after:Array Edge} (hn:It d t) (hx:(Jl d v b t).ev x=t.ev x) (ec:dst≠some d) {l i:Nat} (hp:t.ev x= .at (.Hj l i)) {s':St}
  (he:Eu T Γ ops (Jl d v b t) {dst:=dst,op:= .load t0 x,type:=ty,pos:=pos,after:=after,guard:=none} =some s'):
  ∃t',Eu T Γ ops t {dst:=dst,op:= .load t0 x,type:=ty,pos:=pos,after:=after,guard:=none} =some t'/\s'=Jl d v b t'/\It d t':=by
 have hld:d≠l:= λe=>by
  have:=hn.ev x
  rw [hp,e] at this
  exact this (by simp [AV.refs,AC.refs])
 refine jf rfl ec hn (q:=loadVar T (t.at l) t0 i) ?_ ?_ (λy hy=>?_) he
 ·simp only [evalOp,Fa,hx,hp]
  rw [kS,PC hld]
 ·simp only [evalOp,Fa,hp]
  rw [kS]
 ·unfold loadVar at hy
  split at hy
  ·split at hy
   ·rename_i vs hb
    have hr:d∉vs.flatMap AC.refs:=(hn.heap _ (EF hb)).2
    have dG: ∀c∈vs,d∉c.refs:= λc hc hd=>hr (Ga.2 ⟨c,hc,hd⟩)
    split at hy
    ·split at hy
     ·cases hy
      intro hd
      obtain ⟨c,hc,hd⟩:=Ga.1 hd
      exact dG c (Vx (Et hc)) hd
     ·cases hy
    ·cases hv:vs[i]? with
     |none=>rw [hv] at hy;cases hy
     |some c=>
      rw [hv] at hy
      cases hy
      exact dG c (Cm hv)
   ·cases hy
  ·cases hy
theorem RT {l:List Operand} (hu:l.all (j6 d)=true):l.map (Jl d v b t).ev=l.map t.ev:=Eh λx hx=>Zu hu x hx
theorem JV {dst:Option Tmp} {f:FuncId} {args:Array Operand} {tys:Array TypeId} {ty:TypeId} {pos:String} {after:Array Edge} {sp:Spec} (Pb:Γ f=some (.q sp)) (hn:It d t) (hx:args.toList.map (Jl d v b t).ev=args.toList.map t.ev) (ec:dst≠some d)
  (hs:(args.toList.map t.ev).all (·.settled)=true) {s':St} (he:Eu T Γ ops (Jl d v b t) {dst:=dst,op:= .call {callee:= .value (.func f),args:=args,argTypes:=tys},type:=ty,pos:=pos,after:=after,guard:=none} =some s'):
  ∃t',Eu T Γ ops t {dst:=dst,op:= .call {callee:= .value (.func f),args:=args,argTypes:=tys},type:=ty,pos:=pos,after:=after,guard:=none} =some t'/\s'=Jl d v b t'/\It d t':=by
 have QG:fu sp (args.toList.map t.ev)=false:=by unfold fu;rw [hs];simp
 have KQ: ∀st:St,Oy Γ st f (args.toList.map t.ev)=(match Dv t sp.arg (args.toList.map t.ev) with
   |none=>none
   |some (_,x)=>(sp.fn x).map λy=>if sp.Hi then .bu (sp.fresh||sp.res.flat) sp.res y else .at (.data (sp.fresh||sp.res.flat) sp.res y)):= λst=>by
  unfold Oy
  rw [Pb]
  simp only
  rw [hs,jG (st:=t) _ _ hs]
  simp only [Bool.or_true,Po]
  cases Dv t sp.arg (args.toList.map t.ev)<;>rfl
 refine jf rfl ec hn (q:=Oy Γ t f (args.toList.map t.ev)) ?_ ?_ (λy hy=>?_) he
 ·simp only [evalOp,Fa,Pb,hx,QG]
  rw [KQ,KQ t]
  simp
 ·simp only [evalOp,Fa,Pb,QG]
  simp
 ·rw [KQ t] at hy
  split at hy
  ·cases hy
  ·rename_i x _
   cases hf:sp.fn x with
   |none=>rw [hf] at hy;cases hy
   |some z=>
    rw [hf] at hy
    simp only [Am,Aa] at hy
    rw [<-hy]
    split<;>simp [AV.refs,AC.refs]
def nM (T:Tab) (o:Option OB) (t0:TypeId) (s:ByteArray) (vw:(v:Ty)->Option (Bool×v.den)):Option OB:=match T.mapOf t0 with
 |some v=>(match o,vw v with
  |some (.Vu v' f),some (_,y)=>if h:v'=v/\v.flat=true/\v.Ao=false then some (.Vu v (aj (h.1▸f:ByteArray->Option v.den) s y)) else none
  |_,_=>none)
 |none=>none
theorem kT {st:St} {t0:TypeId} {l:Nat} {fr:Bool} {s:ByteArray} {x:AV} :Ji T st t0 (.at (.Ks l)) (.at (.data fr .str s)) x=(nM T (st.at l) t0 s λv=>Fp st v x).map λc=>st.Kg l c:=by
 unfold Ji nM
 cases T.mapOf t0 with
 |none=>rfl
 |some v0=>
  simp only
  cases st.at l with
  |none=>rfl
  |some c=>
   cases c with
   |Vu v' f=>
    cases Fp st v0 x with
    |none=>rfl
    |some p=>
     simp only
     split<;>rfl
   |_=>rfl
theorem FL {o:Option OB} {t0:TypeId} {s:ByteArray} {vw:(v:Ty)->Option (Bool×v.den)} {c:OB} (h:nM T o t0 s vw=some c):c.refs= []:=by
 unfold nM at h
 split at h
 ·split at h
  ·split at h
   ·cases h;rfl
   ·cases h
  ·cases h
 ·cases h
theorem sQ {st:St} {t0:TypeId} {m k x:AV} {s':St} (h:Ji T st t0 m k x=some s'): ∃l fr s,m= .at (.Ks l)/\k= .at (.data fr .str s):=by
 unfold Ji at h
 split at h
 ·exact ⟨_,_,_,rfl,rfl⟩
 ·cases h
theorem FP: ∀ {H:List (Nat×OB)} {l:Nat} {c:OB} {p:Nat×OB},p∈au H l c->p∈H\/(p.2=c/\p.1=l/\ ∃c',(l,c')∈H)
 |(k,a)::r,l,c,p,h=>by
  simp only [au] at h
  split at h
  ·rename_i e
   rcases Bc.1 h with h|h
   ·subst h;exact .inr ⟨rfl,e,a,by rw [e];simp⟩
   ·exact .inl (Aq _ h)
  ·rcases Bc.1 h with h|h
   ·exact .inl (by rw [h];simp)
   ·exact (FP h).imp (Aq _) λ⟨h1,h2,c',h3⟩=>⟨h1,h2,c',Aq _ h3⟩
theorem It.Kg {st:St} {l:Nat} {c:OB} (h:It d st) (hc:d∉c.refs):It d (st.Kg l c):=
 ⟨h.own,h.tmps,λp hp=>(FP hp).elim (h.heap p) λ⟨h1,h2,c',h3⟩=>⟨by rw [h2];exact (h.heap _ h3).1,by rw [h1];exact hc⟩⟩
theorem zc {dst:Option Tmp} {t0:TypeId} {m k x:Operand} {ty:TypeId} {pos:String} {after:Array Edge} (hn:It d t) (hm:(Jl d v b t).ev m=t.ev m) (hk:(Jl d v b t).ev k=t.ev k) (hx:(Jl d v b t).ev x=t.ev x) (ec:dst≠some d)
  (hs:(t.ev x).settled=true) {s':St} (he:Eu T Γ ops (Jl d v b t) {dst:=dst,op:= .insert t0 m k x,type:=ty,pos:=pos,after:=after,guard:=none} =some s'):
  ∃t',Eu T Γ ops t {dst:=dst,op:= .insert t0 m k x,type:=ty,pos:=pos,after:=after,guard:=none} =some t'/\s'=Jl d v b t'/\It d t':=by
 unfold Eu at he⊢
 simp only [evalOp,hm,hk,hx] at he⊢
 cases QE:Ji T (Jl d v b t) t0 (t.ev m) (t.ev k) (t.ev x) with
 |none=>rw [QE] at he;cases he
 |some s1=>
  rw [QE] at he
  simp only [Am,Aa] at he
  obtain ⟨l,fr,s,e1,e2⟩:=sQ QE
  have hld:d≠l:= λe=>by
   have:=hn.ev m
   rw [e1,e] at this
   exact this (by simp [AV.refs,AC.refs])
  rw [e1,e2,kT,PC hld] at QE
  have hvw:(λv0=>Fp (Jl d v b t) v0 (t.ev x))= λv0=>Fp t v0 (t.ev x):=funext λv0=>fU hs
  rw [hvw] at QE
  rw [e1,e2,kT]
  cases ho:nM T (t.at l) t0 s λv0=>Fp t v0 (t.ev x) with
  |none=>rw [ho] at QE;cases QE
  |some c=>
   rw [ho] at QE
   simp only [Am,Aa] at QE
   have hc:=FL ho
   have s9:It d (t.Kg l c):=hn.Kg (by rw [hc];simp)
   obtain ⟨p1,p2⟩:=xS (v:=v) (b:=b) (y:= .undef) ec s9 (by simp [AV.refs,AC.refs])
   refine ⟨_,rfl,?_,p2⟩
   rw [<-he,<-QE,RQ hld,p1]
theorem It.back {e:Nat} (h:It e (Jl d v b t)) (XZ:e≠d) (hn:It d t):It e t:=by
 have hg: ∀k,k≠d->(Jl d v b t).get k=t.get k:= λk hk=>dZ _ _ _ _ _ (Gb hk)
 refine ⟨by rw [<-hg e XZ];exact h.own,λu hu hd=>?_,h.Aiy⟩
 obtain ⟨k,hk,rfl⟩:=Bf.1 hu
 have e1:t.get k=t.tmps[k]:=by unfold St.get;rw [Ah,Ab hk];rfl
 by_cases hkd:k=d
 ·subst hkd
  have:=hn.own
  rw [e1] at this
  rw [this] at hd
  cases hd
 ·have h1:=h.ev (.tmp k)
  have h2:(Jl d v b t).ev (.tmp k)=t.tmps[k]:=by show (Jl d v b t).get k=_;rw [hg k hkd,e1]
  rw [h2] at h1
  exact h1 hd
def mn (e:Ty):Nat->List (Nat×AV)->Option (Bool×Bool×List e.den)
 |_,[]=>some (true,true,[])
 |i,(j,x)::r=>if i=j then match Fp ⟨[],[]⟩ e x with
  |some (fr,y)=>match mn e (i+1) r with
   |some (Wh,tr',ys)=>some (fr&&Wh,Tp ⟨[],[]⟩ x&&e.tree&&tr',y::ys)
   |none=>none
  |none=>none
  else none
theorem dM {st:St} {e:Ty} : ∀(l:List (Nat×Operand)) (i:Nat),(l.all λp=>Wt (st.ev p.2))=true->Lk e i l st=(mn e i (l.map λp=>(p.1,st.ev p.2))).map λp=>(p.1,p.2.1,p.2.2,st)
 | [],i,_=>rfl
 |(j,x)::r,i,h=>by
  rw [Iu,Af] at h
  have hx:Wt (st.ev x)=true:=h.1
  simp only [Lk,mn,Bm]
  split
  ·generalize hxv:st.ev x=xv at hx
   unfold Wt at hx
   split at hx
   ·rename_i fr τ z
    have YU:settle st (.at (.data fr τ z))=some (.at (.data fr τ z),st):=rfl
    rw [YU]
    simp only
    rw [fU (st:=⟨[],[]⟩) (st':=st) (v:= .at (.data fr τ z)) rfl]
    cases Fp ⟨[],[]⟩ e (.at (.data fr τ z)) with
    |none=>rfl
    |some p=>
     simp only
     rw [dM r (i+1) h.2]
     cases mn e (i+1) (r.map λp=>(p.1,st.ev p.2)) with
     |none=>rfl
     |some q=>rfl
   ·cases hx
  ·rfl
def rowOf (T:Tab) (t0:TypeId) (len:Nat) (parts:List (Nat×AV)) (dst:Nat):Option (AV×OB):=match e8 T t0 with
 |some _=>none
 |none=>match T.elem t0 with
  |none=>none
  |some te=>match T.ty te with
   |none=>none
   |some e=>if parts.length=len/\len<=64/\e.size<=64/\dst<Bn then (mn e 0 parts).map λp=>(.at (.own dst 0 len), .arr ((T.sX||e.flat)&&p.1) (T.BH&&p.2.1) e te p.2.2) else none
theorem ig {st:St} {t0:TypeId} {len dst:Nat} {parts:Array (Nat×Operand)} (h:(parts.toList.all λp=>Wt (st.ev p.2))=true):
  Jg T st dst t0 len parts=(rowOf T t0 len (parts.toList.map λp=>(p.1,st.ev p.2)) dst).map λr=>(r.1,st.new dst r.2):=by
 unfold Jg rowOf
 cases e8 T t0 with
 |some p=>
  obtain ⟨te,e⟩:=p
  simp only [Option.map_none]
  split
  ·rename_i x hp
   rw [hp,Iu,Af] at h
   have hx:Wt (st.ev x)=true:=h.1
   unfold Wt at hx
   split at hx
   ·rename_i hv;simp only [hv]
   ·cases hx
  ·rfl
 |none=>
  simp only
  unfold Mp
  cases T.elem t0 with
  |none=>rfl
  |some te=>
   simp only
   cases T.ty te with
   |none=>rfl
   |some e=>
    simp only [Bt,Xu]
    split
    ·rw [dM _ 0 h]
     cases mn e 0 (parts.toList.map λp=>(p.1,st.ev p.2))<;>rfl
    ·rfl
theorem qO {t0:TypeId} {len dst:Nat} {parts:List (Nat×AV)} {r:AV×OB} (h:rowOf T t0 len parts dst=some r):sn dst r.1 r.2:=by
 unfold rowOf at h
 split at h
 ·cases h
 ·split at h
  ·cases h
  ·split at h
   ·cases h
   ·split at h
    ·rename_i e _ _
     cases hp:mn e 0 parts with
     |none=>rw [hp] at h;cases h
     |some p=>
      rw [hp] at h
      simp only [Am,Aa] at h
      subst h
      exact ⟨λl hl=>by simpa [AV.refs,AC.refs] using hl,rfl,λl hl=>by simp only [AV.map,Cp];rw [Ak (Gb hl)],λl=>rfl⟩
    ·cases h
theorem DA {e:Nat} {t0:TypeId} {len:Nat} {parts:Array (Nat×Operand)} {ty:TypeId} {pos:String} {after:Array Edge} (_hl:sn d v b) (hn:It d t) (hx: ∀p∈parts.toList,(Jl d v b t).ev p.2=t.ev p.2) (ec:e≠d)
  (hp:(parts.toList.all λp=>Wt (t.ev p.2))=true) (Iv:It e (Jl d v b t)) {s':St} (he:Eu T Γ ops (Jl d v b t) {dst:=some e,op:= .buildSlice t0 len parts,type:=ty,pos:=pos,after:=after,guard:=none} =some s'):
  ∃t',Eu T Γ ops t {dst:=some e,op:= .buildSlice t0 len parts,type:=ty,pos:=pos,after:=after,guard:=none} =some t'/\s'=Jl d v b t'/\It d t':=by
 have Ahx:=Iv.back ec hn
 have ny:(parts.toList.all λp=>Wt ((Jl d v b t).ev p.2))=true:=Ba.2 λp z6=>by rw [hx p z6];exact Ba.1 hp p z6
 have hm:(parts.toList.map λp=>(p.1,(Jl d v b t).ev p.2))=parts.toList.map λp=>(p.1,t.ev p.2):=Eh λp z6=>by rw [hx p z6]
 unfold Eu at he⊢
 simp only [evalOp] at he⊢
 rw [ig ny,hm] at he
 rw [ig hp]
 cases hr:rowOf T t0 len (parts.toList.map λp=>(p.1,t.ev p.2)) e with
 |none=>rw [hr] at he;cases he
 |some r=>
  rw [hr] at he
  have hL:=qO hr
  simp only [Am,Aa] at he
  rw [Iv.new] at he
  refine ⟨Jl e r.1 r.2 t,by simp only [Am];rw [Ahx.new],?_,hn.plus (Gb ec) (λh=>ec (hL.v1 _ h).symm) (by rw [hL.b1];simp)⟩
  rw [<-he,wT (Gb ec)]
def evC:Operand->AV
 | .const c=>mQ c
 |_=> .undef
theorem Ah4 {st:St} {x:Operand} (h:Wt (evC x)=true):st.ev x=evC x:=by
 cases x<;>first|rfl|cases h
def eS (T:Tab) (o:Oper):Option (Nat×AV×OB):=match o.guard with
 |some _=>none
 |none=>match o.dst with
  |none=>none
  |some d=>match o.op with
   | .buildSlice t0 len parts=>if (parts.toList.all λp=>Wt (evC p.2))=true then (rowOf T t0 len (parts.toList.map λp=>(p.1,evC p.2)) d).map λr=>(d,r.1,r.2) else none
   | .makeMap t0 none=>match T.mapOf t0 with
    |some τ=>if d<Bn then some (d, .at (.Ks d), .Vu τ λ_=>none) else none
    |none=>none
   |_=>none
theorem eT {o:Oper} {r:Nat×AV×OB} (h:eS T o=some r):o.dst=some r.1/\sn r.1 r.2.1 r.2.2/\ ∀st:St,It r.1 st->Eu T Γ ops st o=some (Jl r.1 r.2.1 r.2.2 st):=by
 obtain ⟨dst,op,ty,pos,after,guard⟩:=o
 unfold eS at h
 cases guard with
 |some g=>cases h
 |none=>
  cases dst with
  |none=>cases h
  |some d=>
   cases op with
   |buildSlice t0 len parts=>
    simp only at h
    split at h
    ·rename_i hp
     cases hr:rowOf T t0 len (parts.toList.map λp=>(p.1,evC p.2)) d with
     |none=>rw [hr] at h;cases h
     |some q=>
      rw [hr] at h
      simp only [Am,Aa] at h
      subst h
      refine ⟨rfl,qO hr,λst Vz=>?_⟩
      have KQ: ∀p∈parts.toList,st.ev p.2=evC p.2:= λp z6=>Ah4 (Ba.1 hp p z6)
      have hm:(parts.toList.map λp=>(p.1,st.ev p.2))=parts.toList.map λp=>(p.1,evC p.2):=Eh λp z6=>by rw [KQ p z6]
      have ny:(parts.toList.all λp=>Wt (st.ev p.2))=true:=Ba.2 λp z6=>by rw [KQ p z6];exact Ba.1 hp p z6
      unfold Eu
      simp only [evalOp]
      rw [ig ny,hm,hr]
      simp only [Am]
      rw [Vz.new]
    ·cases h
   |makeMap t0 hint=>
    cases hint with
    |some x=>cases h
    |none=>
     simp only at h
     split at h
     ·rename_i τ Ua
      split at h
      ·rename_i hd
       cases h
       refine ⟨rfl,⟨λl hl=>by simpa [AV.refs,AC.refs] using hl,rfl,λl hl=>by simp only [AV.map,Cp];rw [Ak (Gb hl)],λl=>rfl⟩,λst Vz=>?_⟩
       unfold Eu
       simp only [evalOp,Vb,Ua,Ac hd,Am]
       rw [Vz.new]
      ·cases h
     ·cases h
   |_=>cases h
theorem AA {l:List Operand} (h: ∀x∈l,(Jl d v b t).ev x=t.ev x):(l.all λx=>((Jl d v b t).ev x).settled)=(l.map t.ev).all (·.settled):=by
 rw [List.all_map]
 induction l with
 |nil=>rfl
 |cons x r ih=>
  simp only [Iu,Function.comp]
  rw [h x (by simp),ih λy hy=>h y (by simp [hy])]
theorem AB {o:Oper} (hl:sn d v b) (hn:It d t) (hs:Wy Γ (Jl d v b t) o=true) (hu:(jE o).all (j6 d)=true) (ec:o.dst≠some d) {s':St} (he:Eu T Γ ops (Jl d v b t) o=some s'):
  ∃t',Eu T Γ ops t o=some t'/\s'=Jl d v b t'/\It d t'/\Wy Γ t o=true:=by
 obtain ⟨dst,op,ty,pos,after,guard⟩:=o
 unfold Wy at hs
 cases guard with
 |some g=>cases hs
 |none=>
  simp only at hs
  split at hs
  ·rename_i x
   have hx:=Zu (v:=v) (b:=b) (t:=t) hu x (by simp [jE])
   obtain ⟨t',h1,h2,h3⟩:=LY hn hx ec he
   exact ⟨t',h1,h2,h3,rfl⟩
  ·rename_i t0 x
   have hx:=Zu (v:=v) (b:=b) (t:=t) hu x (by simp [jE])
   rw [hx] at hs
   split at hs
   ·rename_i l i hp
    obtain ⟨t',h1,h2,h3⟩:=LQ hn hx ec hp he
    exact ⟨t',h1,h2,h3,by simp only [Wy,hp]⟩
   ·cases hs
  ·rename_i f args tys
   rw [Af] at hs
   obtain ⟨iP,rq⟩:=hs
   split at iP
   ·rename_i sp Pb
    have KQ:=Zu (v:=v) (b:=b) (t:=t) (l:=args.toList) hu
    rw [AA KQ] at rq
    obtain ⟨t',h1,h2,h3⟩:=JV Pb hn (RT hu) ec rq he
    refine ⟨t',h1,h2,h3,?_⟩
    simp only [Wy,Pb,Bool.true_and]
    rw [List.all_map] at rq
    exact rq
   ·cases iP
  ·rename_i t0 m k x
   have hm:=Zu (v:=v) (b:=b) (t:=t) hu m (by simp [jE])
   have hk:=Zu (v:=v) (b:=b) (t:=t) hu k (by simp [jE])
   have hx:=Zu (v:=v) (b:=b) (t:=t) hu x (by simp [jE])
   rw [hm,hk,hx] at hs
   have hs0:=hs
   rw [Af] at hs
   obtain ⟨t',h1,h2,h3⟩:=zc hn hm hk hx ec hs.2 he
   exact ⟨t',h1,h2,h3,hs0⟩
  ·rename_i t0 len parts
   rw [Af] at hs
   obtain ⟨iP,rq⟩:=hs
   cases dst with
   |none=>cases rq
   |some e=>
    simp only at rq
    have hed:e≠d:= λh=>ec (by rw [h])
    have gQ:(parts.toList.map (λp=>p.2)).all (j6 d)=true:=hu
    have KQ:=Zu (v:=v) (b:=b) (t:=t) gQ
    have hx: ∀p∈parts.toList,(Jl d v b t).ev p.2=t.ev p.2:= λp hp=>KQ p.2 (Ay.2 ⟨p,hp,rfl⟩)
    have hp:(parts.toList.all λp=>Wt (t.ev p.2))=true:=Ba.2 λp hp=>by rw [<-hx p hp];exact Ba.1 iP p hp
    have Iv:=tX rq
    obtain ⟨t',h1,h2,h3⟩:=DA hl hn hx hed hp Iv he
    refine ⟨t',h1,h2,h3,?_⟩
    simp only [Wy,hp,Bool.true_and]
    exact TK (Iv.back hed hn)
  ·cases hs
def yq:List (Nat×AV×OB)->St->St->Prop
 | [],s,t=>s=t
 |q::Q,s,t=>It q.1 t/\yq Q s (Jl q.1 q.2.1 q.2.2 t)
theorem xL {o:Oper} : ∀(Q:List (Nat×AV×OB)) (s t s':St),yq Q s t->(∀q∈Q,sn q.1 q.2.1 q.2.2/\(jE o).all (j6 q.1)=true/\o.dst≠some q.1)->Wy Γ s o=true->Eu T Γ ops s o=some s'->
  ∃t',Eu T Γ ops t o=some t'/\yq Q s' t'/\Wy Γ t o=true
 | [],s,t,s',h,_,hs,he=>by
  have h:s=t:=h
  subst h
  exact ⟨s',he,rfl,hs⟩
 |q::Q,s,t,s',⟨h1,h2⟩,hq,hs,he=>by
  obtain ⟨u',e1,e2,e3⟩:=xL Q s _ s' h2 (λp hp=>hq p (Aq _ hp)) hs he
  obtain ⟨l1,l2,l3⟩:=hq q (by simp)
  obtain ⟨t',f1,f2,f3,f4⟩:=AB l1 h1 e3 l2 l3 e1
  exact ⟨t',f1,⟨f3,by rw [<-f2];exact e2⟩,f4⟩
theorem xM {q:Nat×AV×OB} : ∀(Q1:List (Nat×AV×OB)) {Q2:List (Nat×AV×OB)} {s t:St},yq (Q1++q::Q2) s t->(∀p∈Q1++q::Q2,sn p.1 p.2.1 p.2.2)->(∀p∈Q1,p.1≠q.1)->
  It q.1 t/\yq (Q1++Q2) s (Jl q.1 q.2.1 q.2.2 t)
 | [],Q2,s,t,h,_,_=>h
 |p::Q1,Q2,s,t,⟨h1,h2⟩,hL,Iv=>by
  have hpq:=Iv p (by simp)
  have hLp:=hL p (by simp)
  have hLq:=hL q (by simp)
  obtain ⟨g1,g2⟩:=xM Q1 h2 (λr hr=>hL r (Aq _ hr)) λr hr=>Iv r (Aq _ hr)
  refine ⟨g1.back (Gb hpq) h1,h1.plus hpq (λh=>hpq (hLq.v1 _ h)) (by rw [hLq.b1];simp),?_⟩
  show yq (Q1++Q2) s (Jl p.1 p.2.1 p.2.2 (Jl q.1 q.2.1 q.2.2 t))
  rw [wT (Gb hpq)]
  exact g2
def mC (ops:Array Oper):Nat->Nat->Nat->Bool
 |0,_,_=>false
 |f+1,i,a=>Region.waitsFor .any ops i a||(List.range ops.size).any λk=>Region.waitsFor .any ops i k&&mC ops f k a
theorem lD {Ag:Array Bool} (hc:Ug ops Ag) {a:Nat} : ∀(f i:Nat),(∀x,Region.waitsFor .any ops i x=true->Ag.getD x false=true)->mC ops f i a=true->Ag.getD a false=true
 |0,_,_,h=>by cases h
 |f+1,i,hi,h=>by
  simp only [mC,Lu,Ir,Af] at h
  rcases h with h|⟨k,_,h1,h2⟩
  ·exact hi a h
  ·exact lD hc f k (λx hx=>hc k x (hi k h1) hx) h2
def ME (P:List (Nat×Nat×AV×OB)) (Γ:Env) (ops:Array Oper) (st:St) (o:Oper) (i:Nat):Bool:=
 (P.all λa=>mC ops 5 i a.1)||(Wy Γ st o&&P.all λa=>mC ops 5 i a.1||((jE o).all (j6 a.2.1)&&(match o.dst with
  |some e=>!Nat.beq e a.2.1
  |none=>true)))
def Agz (T:Tab) (Γ:Env) (ops:Array Oper) (P:List (Nat×Nat×AV×OB)) (K:St->Prop):Nat->Array Bool->St->Prop
 |0,Ag,st=>Region.ready .any ops Ag= []/\K st
 |f+1,Ag,st=>Region.ready .any ops Ag≠ []/\ ∀i∈Region.ready .any ops Ag,∃o st',ops[i]?=some o/\ME P Γ ops st o i=true/\Eu T Γ ops st o=some st'/\Agz T Γ ops P K f (Ag.setIfInBounds i true) st'
structure WD (lc la:Array Bool) (Q:List Nat):Prop where
 size:la.size=lc.size
 off: ∀k∈Q,k<la.size/\la.getD k false=false/\lc.getD k false=true
 same: ∀k,k∉Q->la.getD k false=lc.getD k false
theorem WD.ready {lc la:Array Bool} {Q:List Nat} (h:WD lc la Q) {i:Nat} (hi:i∈Region.ready .any ops la) (hn:i∉Q):i∈Region.ready .any ops lc:=by
 obtain ⟨h1,o,ho,Kl⟩:=mem_ready.1 hi
 have Jr:i<la.size:=by
  rcases Nat.lt_or_ge i la.size with h'|h'
  ·exact h'
  ·simp [Array.getElem?_eq_none h'] at h1
 have h2:=getD_both h1
 rw [h.same i hn] at h2
 refine mem_ready.2 ⟨getD_in (by rw [<-h.size];exact Jr) h2,o,ho,λe he hb=>?_⟩
 have h3:=Kl e he hb
 by_cases hq:e.on∈Q
 ·exact (h.off _ hq).2.2
 ·rw [<-h.same _ hq];exact h3
theorem WD.nil {lc la:Array Bool} (h:WD lc la []):la=lc:=by
 refine Array.ext h.size λk h1 h2=>?_
 have:=h.same k (by simp)
 simpa [h1,h2] using this
theorem WD.one {lc la:Array Bool} {Q Q':List Nat} {i:Nat} (h:WD lc la Q) (hi:i∈Q) (hs: ∀k,k∈Q'↔k∈Q/\k≠i):WD lc (la.setIfInBounds i true) Q':=by
 refine ⟨by simp [h.size],λk hk=>?_,λk hk=>?_⟩
 ·obtain ⟨h1,h2⟩:=(hs k).1 hk
  obtain ⟨g1,g2,g3⟩:=h.off k h1
  exact ⟨by simpa using g1,by rw [getD_set_ne false (Gb h2)];exact g2,g3⟩
 ·by_cases e:i=k
  ·subst e
   obtain ⟨g1,g2,g3⟩:=h.off i hi
   rw [g3]
   simp [g1]
  ·rw [getD_set_ne false e]
   exact h.same k λhq=>hk ((hs k).2 ⟨hq,Gb e⟩)
theorem WD.both {lc la:Array Bool} {Q:List Nat} {i:Nat} (h:WD lc la Q) (hi:i∉Q):WD (lc.setIfInBounds i true) (la.setIfInBounds i true) Q:=by
 refine ⟨by simp [h.size],λk hk=>?_,λk hk=>?_⟩
 ·obtain ⟨g1,g2,g3⟩:=h.off k hk
  have Iv:i≠k:= λe=>hi (by rw [e];exact hk)
  exact ⟨by simpa using g1,by rw [getD_set_ne false Iv];exact g2,by rw [getD_set_ne false Iv];exact g3⟩
 ·by_cases e:i=k
  ·subst e
   have hs:=h.same i hi
   have hz:=h.size
   by_cases hl:i<la.size
   ·simp [hl,hz▸hl]
   ·have Ke: ¬i<lc.size:=by omega
    simp [hl,Ke]
  ·rw [getD_set_ne false e,getD_set_ne false e];exact h.same k hk
theorem MC {dst:Option Tmp} {d:Nat} (h:(match dst with
  |some e=>!Nat.beq e d
  |none=>true)=true):dst≠some d:= λe=>by
 subst e
 simp at h
theorem RR {P:List (Nat×Nat×AV×OB)} {K:St->Prop} (hP: ∀a∈P,∃o,ops[a.1]?=some o/\eS T o=some a.2):
  ∀(n f:Nat) (Q:List (Nat×Nat×AV×OB)) (lc la:Array Bool) (s t:St),n=f+Q.length->Agz T Γ ops P K f lc s->yq (Q.map (·.2)) s t->WD lc la (Q.map (·.1))->(∀a∈Q,a∈P)->
   (Q.Pairwise λa c=>a.2.1≠c.2.1/\a.1≠c.1)->Ug ops la->(∀a∈Q,∀x,Region.waitsFor .any ops a.1 x=true->la.getD x false=true)->anyS T Γ ops K n la t:=by
 intro n
 induction n with
 |zero=>
  intro f Q lc la s t hn hC hp hb hQ hpw Qk hw
  have hf:f=0:=by omega
  have hq:Q= []:=Cl (by omega)
  subst hf hq
  have hp:s=t:=hp
  subst hp
  rw [hb.nil]
  exact hC
 |succ n ih=>
  intro f Q lc la s t hn hC hp hb hQ hpw Qk hw
  refine ⟨?_,λi hi=>?_⟩
  ·cases Q with
   |nil=>
    rw [hb.nil]
    cases f with
    |zero=>simp at hn
    |succ f=>exact hC.1
   |cons a Q=>
    obtain ⟨o,ho,_⟩:=hP a (hQ a (by simp))
    obtain ⟨g1,g2,_⟩:=hb.off a.1 (by simp)
    have:a.1∈Region.ready .any ops la:=mem_ready.2 ⟨getD_in g1 g2,o,ho,λe he hbd=>hw a (by simp) e.on (by
     unfold Region.waitsFor
     rw [ho]
     exact Array.any_eq_true'.2 ⟨e,he,by simp [hbd]⟩)⟩
    intro e
    rw [e] at this
    cases this
  ·by_cases hiQ:i∈Q.map (·.1)
   ·obtain ⟨a,ha,rfl⟩:=Ay.1 hiQ
    obtain ⟨Q1,Q2,rfl⟩:=List.append_of_mem ha
    obtain ⟨o,ho,hal⟩:=hP a (hQ a ha)
    obtain ⟨_,_,Vz⟩:=eT (Γ:=Γ) (ops:=ops) hal
    have YR:=List.pairwise_append.1 hpw
    have Ama:=List.pairwise_cons.1 YR.2.1
    rw [Il,Bm] at hp
    have hL: ∀p∈Q1.map (·.2)++a.2::Q2.map (·.2),sn p.1 p.2.1 p.2.2:= λp z6=>by
     have:p∈(Q1++a::Q2).map (·.2):=by rw [Il,Bm];exact z6
     obtain ⟨c,hc,rfl⟩:=Ay.1 this
     obtain ⟨o',_,Aqt⟩:=hP c (hQ c hc)
     exact (eT (Γ:=Γ) (ops:=ops) Aqt).2.1
    obtain ⟨p1,p2⟩:=xM _ hp hL λp z6=>by
     obtain ⟨c,hc,rfl⟩:=Ay.1 z6
     exact (YR.2.2 c hc a (by simp)).1
    refine ⟨o,_,ho,Vz t p1,ih f (Q1++Q2) lc _ s _ ?_ hC (by rw [Il];exact p2) (hb.one hiQ λk=>?_) (λc hc=>hQ c ?_) ?_ (Qk.set hi) λc hc x hx=>getD_set_true (hw c ?_ x hx)⟩
    ·simp only [Au,Av] at hn⊢;omega
    ·simp only [Il,Bm,Ax,Bc]
     constructor
     ·intro h
      rcases h with h|h
      ·obtain ⟨c,hc,rfl⟩:=Ay.1 h
       exact ⟨.inl h,(YR.2.2 c hc a (by simp)).2⟩
      ·obtain ⟨c,hc,rfl⟩:=Ay.1 h
       exact ⟨.inr (.inr h),Gb (Ama.1 c hc).2⟩
     ·rintro ⟨h|h|h,Iv⟩
      ·exact .inl h
      ·exact absurd h Iv
      ·exact .inr h
    ·rcases Ax.1 hc with hc|hc
     ·exact Bi _ hc
     ·exact Ci _ (Aq _ hc)
    ·exact List.pairwise_append.2 ⟨YR.1,Ama.2,λc hc e he=>YR.2.2 c hc e (Aq _ he)⟩
    ·rcases Ax.1 hc with hc|hc
     ·exact Bi _ hc
     ·exact Ci _ (Aq _ hc)
   ·have hic:=hb.ready hi hiQ
    cases f with
    |zero=>
     rw [hC.1] at hic
     cases hic
    |succ f=>
     obtain ⟨o,s',ho,ee,he,gp⟩:=hC.2 i hic
     have Adi: ∀a∈Q,mC ops 5 i a.1=false:= λa ha=>by
      cases hwt:mC ops 5 i a.1 with
      |false=>rfl
      |true=>
       have h1:=lD Qk _ i (λx hx=>cQ hi hx) hwt
       rw [(hb.off a.1 (Ay.2 ⟨a,ha,rfl⟩)).2.1] at h1
       cases h1
     have key: ∃t',Eu T Γ ops t o=some t'/\yq (Q.map (·.2)) s' t':=by
      unfold ME at ee
      rw [Lu,Af] at ee
      rcases ee with ee|⟨h1,h2⟩
      ·cases Q with
       |nil=>
        have hp:s=t:=hp
        subst hp
        exact ⟨s',he,rfl⟩
       |cons a Q=>
        have:=Ba.1 ee a (hQ a (by simp))
        rw [Adi a (by simp)] at this
        cases this
      ·obtain ⟨t',g1,g2,_⟩:=xL (T:=T) (ops:=ops) _ s t s' hp (λq hq=>by
        obtain ⟨a,ha,rfl⟩:=Ay.1 hq
        obtain ⟨o',_,hal⟩:=hP a (hQ a ha)
        have h3:=Ba.1 h2 a (hQ a ha)
        rw [Adi a ha,Xi,Af] at h3
        exact ⟨(eT (Γ:=Γ) (ops:=ops) hal).2.1,h3.1,MC h3.2⟩) h1 he
       exact ⟨t',g1,g2⟩
     obtain ⟨t',g1,g2⟩:=key
     exact ⟨o,t',ho,g1,ih f Q _ _ s' t' (by omega) gp g2 (hb.both hiQ) hQ hpw (Qk.set hi) λc hc x hx=>getD_set_true (hw c hc x hx)⟩
def Zt (T:Tab) (ops:Array Oper) (Ag:Array Bool):List (Nat×Nat×AV×OB):=(Region.ready .any ops Ag).filterMap λi=>((ops[i]?).bind (eS T)).map λr=>(i,r)
theorem yz {Ag:Array Bool} {a:Nat×Nat×AV×OB} (h:a∈Zt T ops Ag):a.1∈Region.ready .any ops Ag/\ ∃o,ops[a.1]?=some o/\eS T o=some a.2:=by
 unfold Zt at h
 obtain ⟨i,hi,he⟩:=List.mem_filterMap.1 h
 cases ho:ops[i]? with
 |none=>rw [ho] at he;cases he
 |some o=>
  rw [ho] at he
  simp only [Ff,Option.map_eq_some_iff] at he
  obtain ⟨r,h1,rfl⟩:=he
  exact ⟨hi,o,ho,h1⟩
theorem Acw {Ag:Array Bool} {Q:List Nat} (h: ∀i∈Q,i∈Region.ready .any ops Ag):WD (Ei Q Ag) Ag Q:=by
 have hr: ∀i∈Q,i<Ag.size/\Ag.getD i false=false:= λi hi=>by
  have h1:=(mem_ready.1 (h i hi)).1
  refine ⟨?_,getD_both h1⟩
  rcases Nat.lt_or_ge i Ag.size with h'|h'
  ·exact h'
  ·simp [Array.getElem?_eq_none h'] at h1
 exact ⟨(Wm Q Ag).symm,λk hk=>⟨(hr k hk).1,(hr k hk).2,fk Q Ag k hk (hr k hk).1⟩,λk hk=>(dr Q Ag k hk).symm⟩
theorem GS: ∀(Q:List (Nat×Nat×AV×OB)) (t s:St),(∀a∈Q,∃o,ops[a.1]?=some o/\eS T o=some a.2)->(∀a∈Q,It a.2.1 t)->(Q.Pairwise λa c=>a.2.1≠c.2.1)->Mz T Γ ops (Q.map (·.1)) t=some s->yq (Q.map (·.2)) s t
 | [],t,s,_,_,_,h=>by
  have h:some t=some s:=h
  exact (Bb h).symm
 |a::Q,t,s,hQ,hn,hp,h=>by
  obtain ⟨o,ho,hal⟩:=hQ a (by simp)
  obtain ⟨_,hL,Vz⟩:=eT (Γ:=Γ) (ops:=ops) hal
  obtain ⟨xk,QH⟩:=List.pairwise_cons.1 hp
  simp only [Bm,Mz,ho] at h
  rw [Vz t (hn a (by simp))] at h
  refine ⟨hn a (by simp),GS Q _ s (λc hc=>hQ c (Aq _ hc)) (λc hc=>?_) QH h⟩
  exact (hn c (Aq _ hc)).plus (Gb (xk c hc)) (λh=>xk c hc (hL.v1 _ h).symm) (by rw [hL.b1];simp)
end
end Go.Proofs.Ytkkdpknjohcekaa
