/-
  Part 30 of the proof that the statement FnCommutatorMacros holds.
-/
import Derived.Test.YtfgfigkbgecfnaaCFCommutatorMacros28
namespace Go.Proofs.Ytfgfigkbgecfnaa
open Go.RowKit
def Gp (d:Nat) (v:AV) (b:OB) (st:St):St:= {tmps:=Oo st.tmps d v,heap:=Li st.heap d b}
def ji (d:Nat) (st:St):Bool:=(st.get d).refs.isEmpty&&((st.tmps.all λv=>!v.refs.contains d)&&st.heap.all λp=>!Nat.beq p.1 d&&!p.2.refs.contains d)
structure Gb (d:Nat) (st:St):Prop where
 own:(st.get d).refs= []
 tmps: ∀v∈st.tmps,d∉v.refs
 heap: ∀p∈st.heap,p.1≠d/\d∉p.2.refs
theorem mG {d:Nat} {st:St} (h:ji d st=true):Gb d st:=by
 unfold ji at h
 rw [Ag,Ag,Au,Au] at h
 obtain ⟨h0,h⟩:=h
 refine ⟨List.isEmpty_iff.1 h0,λv hv=>?_,λp hp=>?_⟩
 ·have:=h.1 v hv
  intro hd
  rw [Gx.2 hd] at this
  cases this
 ·have:=h.2 p hp
  rw [Ag] at this
  refine ⟨λe=>?_,λhd=>?_⟩
  ·have h1:=this.1
   rw [e,Nat.beq_refl] at h1
   cases h1
  ·have h1:=this.2
   rw [Gx.2 hd] at h1
   cases h1
theorem yR {d:Nat} {st:St} (h:Gb d st):ji d st=true:=by
 unfold ji
 rw [Ag,Ag,Au,Au]
 refine ⟨by rw [h.own];rfl,λv hv=>?_,λp hp=>?_⟩
 ·rw [Ds,<-Gt,Gx];exact h.tmps v hv
 ·rw [Ag]
  refine ⟨?_,?_⟩
  ·rw [Ds,<-Gt]
   exact λe=>(h.heap p hp).1 (Gy e)
  ·rw [Ds,<-Gt,Gx];exact (h.heap p hp).2
structure lr (d:Nat) (v:AV) (b:OB):Prop where
 v1: ∀l,l∈v.refs->l=d
 b1:b.refs= []
 v2: ∀l,l≠d->v.map (Bs l)=v
 b2: ∀l,b.map (Bs l)=b
theorem ae {α:Type} : ∀(xs:List α) (d t:Nat) (v x:α),d≠t->(Oo xs d v).getD t x=xs.getD t x
 | [],_,_,_,_,_=>rfl
 |y::r,0,0,_,_,h=>absurd rfl h
 |y::r,0,t+1,_,_,_=>by simp [Oo]
 |y::r,d+1,0,_,_,_=>by simp [Oo]
 |y::r,d+1,t+1,v,x,h=>by simpa [Oo] using ae r d t v x (by omega)
theorem jw {α:Type} : ∀(xs:List α) (d e:Nat) (v w:α),d≠e->Oo (Oo xs d v) e w=Oo (Oo xs e w) d v
 | [],_,_,_,_,_=>rfl
 |y::r,0,0,_,_,h=>absurd rfl h
 |y::r,0,e+1,_,_,_=>rfl
 |y::r,d+1,0,_,_,_=>rfl
 |y::r,d+1,e+1,v,w,h=>by simp only [Oo];rw [jw r d e v w (by omega)]
theorem p7: ∀(H:List (Nat×OB)) (d l:Nat) (b:OB),d≠l->Ap (Li H d b) l=Ap H l
 | [],d,l,b,h=>by simp [Li,Ap,h]
 |(k,c)::r,d,l,b,h=>by
  simp only [Li]
  split
  ·simp only [Ap];rw [Aj h]
  ·simp only [Ap]
   split
   ·rfl
   ·exact p7 r d l b h
theorem pc: ∀(H:List (Nat×OB)) (d e:Nat) (b c:OB),d≠e->Li (Li H d b) e c=Li (Li H e c) d b
 | [],d,e,b,c,h=>by
  simp only [Li]
  by_cases h1:e<d
  ·rw [Af h1,Aj (by omega)]
  ·rw [Aj h1,Af (by omega)]
 |(k,a)::r,d,e,b,c,h=>by
  simp only [Li]
  by_cases h1:d<k<;>by_cases h2:e<k
  ·rw [Af h1,Af h2]
   simp only [Li]
   by_cases h3:e<d
   ·rw [Af h3,Aj (by omega),Af h1]
   ·rw [Aj h3,Af h2,Af (by omega)]
  ·rw [Af h1,Aj h2]
   simp only [Li]
   rw [Aj (by omega),Aj h2,Af h1]
  ·rw [Aj h1,Af h2]
   simp only [Li]
   rw [Af h2,Aj (by omega),Aj h1]
  ·rw [Aj h1,Aj h2]
   simp only [Li]
   rw [Aj h1,Aj h2,pc r d e b c h]
theorem pN: ∀(H:List (Nat×OB)) (d l:Nat) (b c:OB),d≠l->Ux (Li H d b) l c=Li (Ux H l c) d b
 | [],d,l,b,c,h=>by simp [Li,Ux,h]
 |(k,a)::r,d,l,b,c,h=>by
  simp only [Li,Ux]
  by_cases h1:d<k<;>by_cases h2:k=l
  ·rw [Af h1,Af h2]
   simp only [Ux,Li]
   rw [Aj h,Af h2,Af h1]
  ·rw [Af h1,Aj h2]
   simp only [Ux,Li]
   rw [Aj h,Aj h2,Af h1]
  ·rw [Aj h1,Af h2]
   simp only [Ux,Li]
   rw [Af h2,Aj h1]
  ·rw [Aj h1,Aj h2]
   simp only [Ux,Li]
   rw [Aj h2,Aj h1,pN r d l b c h]
theorem jV {l:Nat} : ∀ {c:AC},l∉c.refs->Bs l c=c:=by
 intro c h
 cases c<;>simp only [Bs]<;>simp only [AC.refs,Ad] at h
 case clo f Cx=>rw [Aj (by simpa using h)]
 all_goals (first|rfl|rw [Aj (Fo h)])
theorem Vp {l:Nat} : ∀ {cs:List AC},l∉cs.flatMap AC.refs->cs.map (Bs l)=cs
 | [],_=>rfl
 |c::r,h=>by
  rw [Xs,Av] at h
  rw [Bl,jV (λhh=>h (.inl hh)),Vp (λhh=>h (.inr hh))]
theorem sX {l:Nat} : ∀ {v:AV},l∉v.refs->v.map (Bs l)=v
 | .at a,h=>by simp only [AV.map];rw [jV h]
 | .agg cs,h=>by simp only [AV.map];rw [Vp h]
 | .Wh _ _ _,_=>rfl
 | .Jy ps,h=>by
  simp only [AV.map]
  congr 1
  simp only [AV.refs] at h
  induction ps with
  |nil=>rfl
  |cons p r ih=>
   rw [Xs,Av] at h
   rw [Bl,Vp (λhh=>h (.inl hh)),ih (λhh=>h (.inr hh))]
theorem sY {l:Nat} : ∀ {b:OB},l∉b.refs->b.map (Bs l)=b
 | .arr _ _ _ _ _,_=>rfl
 | .Ev _ _ _,_=>rfl
 | .var _ vs,h=>by simp only [OB.map];rw [Vp h]
 | .Bc _ _ _ _ _,_=>rfl
 | .Qy _ _,_=>rfl
theorem sN {l:Nat} : ∀ {H:List (Nat×OB)},(∀p∈H,p.1≠l)->Vb H l=H
 | [],_=>rfl
 |(k,b)::r,h=>by
  simp only [Vb]
  rw [Aj (h (k,b) (by simp)),sN λp hp=>h p (by simp [hp])]
theorem Gb.forget {l:Nat} {st:St} (h:Gb l st):st.forget l=st:=by
 have e1:st.tmps.map (λv=>v.map (Bs l))=st.tmps:=(Fw λv hv=>sX (h.tmps v hv)).trans (List.map_id _)
 have e2:st.heap.map (λp=>(p.1,p.2.map (Bs l)))=st.heap:=(Fw λp hp=>by rw [sY (h.heap p hp).2];rfl).trans (List.map_id _)
 unfold St.forget St.Ih
 simp only [e1,e2]
 rw [sN λp hp=>(h.heap p hp).1]
theorem Gb.new {l:Nat} {st:St} (h:Gb l st) (b:OB) (v:AV):(st.new l b).put (some l) v=Gp l v b st:=by
 unfold St.new
 rw [h.forget]
 rfl
theorem mA {α:Type} : ∀ {xs:List α} {d:Nat} {v x:α},x∈Oo xs d v->x∈xs\/x=v
 | [],_,_,_,h=>by cases h
 |y::r,0,v,x,h=>by
  rcases Ay.1 h with h|h
  ·exact .inr h
  ·exact .inl (Aq _ h)
 |y::r,d+1,v,x,h=>by
  rcases Ay.1 h with h|h
  ·exact .inl (by rw [h];simp)
  ·exact (mA h).imp (Aq _) id
theorem tT: ∀ {H:List (Nat×OB)} {d:Nat} {b:OB} {p:Nat×OB},p∈Li H d b->p∈H\/p=(d,b)
 | [],d,b,p,h=> .inr (by simpa [Li] using h)
 |(k,c)::r,d,b,p,h=>by
  simp only [Li] at h
  split at h
  ·rcases Ay.1 h with h|h
   ·exact .inr h
   ·exact .inl h
  ·rcases Ay.1 h with h|h
   ·exact .inl (by rw [h];simp)
   ·exact (tT h).imp (Aq _) id
theorem FK {d:Nat} {v:AV} {b:OB} {st:St} {x:Operand} (h:x≠ .tmp d):(Gp d v b st).ev x=st.ev x:=by
 cases x with
 |tmp t=>exact ae _ _ _ _ _ (λe=>h (by rw [e]))
 |_=>rfl
theorem xj {d l:Nat} {v:AV} {b:OB} {st:St} (h:d≠l):(Gp d v b st).at l=st.at l:=p7 _ _ _ _ h
theorem AK {d e:Nat} {v u:AV} {b:OB} {st:St} (h:d≠e):(Gp d v b st).put (some e) u=Gp d v b (st.put (some e) u):=by
 unfold Gp St.put
 simp only
 rw [jw _ _ _ _ _ h]
theorem yc {d l:Nat} {v:AV} {b c:OB} {st:St} (h:d≠l):(Gp d v b st).He l c=Gp d v b (st.He l c):=by
 unfold Gp St.He
 simp only
 rw [pN _ _ _ _ _ h]
theorem oP {d e:Nat} {v u:AV} {b c:OB} {st:St} (h:d≠e):Gp e u c (Gp d v b st)=Gp d v b (Gp e u c st):=by
 unfold Gp
 rw [jw _ _ _ _ _ h,pc _ _ _ _ _ h]
theorem Gb.put {d:Nat} {st:St} {e:Nat} {u:AV} (h:Gb d st) (NK:e≠d) (hu:d∉u.refs):Gb d (st.put (some e) u):=
 ⟨by show (List.getD (Oo st.tmps e u) d .undef).refs= [];rw [ae _ _ _ _ _ NK];exact h.own,λv hv=>(mA hv).elim (h.tmps v) λe=>by rw [e];exact hu,h.heap⟩
theorem Gb.plus {d e:Nat} {u:AV} {c:OB} {st:St} (h:Gb d st) (NK:d≠e) (hu:d∉u.refs) (hc:d∉c.refs):Gb d (Gp e u c st):=
 ⟨by show (List.getD (Oo st.tmps e u) d .undef).refs= [];rw [ae _ _ _ _ _ (Fo NK)];exact h.own,λv hv=>(mA hv).elim (h.tmps v) λe=>by rw [e];exact hu,λp hp=>(tT hp).elim (h.heap p) λe'=>by rw [e'];exact ⟨Fo NK,hc⟩⟩
theorem Gb.ME {d e:Nat} {u:AV} {c:OB} {st:St} (h:Gb d (Gp e u c st)): ∀p∈st.heap,p.1≠d/\d∉p.2.refs:= λp hp=>h.heap p (by
 show p∈Li st.heap e c
 generalize st.heap=H at hp
 induction H with
 |nil=>cases hp
 |cons q r ih=>
  obtain ⟨k,a⟩:=q
  simp only [Li]
  split
  ·exact Aq _ hp
  ·rcases Ay.1 hp with hp|hp
   ·rw [hp];simp
   ·exact Aq _ (ih hp))
theorem kX {st st':St} : ∀(τ:Ty) (cs:List AC),cs.all (·.settled)=true->Dn st' τ cs=Dn st τ cs:=by
 intro τ
 induction τ with
 |unit=>intro cs _;cases cs<;>rfl
 |pair a r cC cw=>
  intro cs h
  simp only [Dn]
  rw [Au] at h
  rw [cC _ (Au.2 λc hc=>h c (Hm hc)),cw _ (Au.2 λc hc=>h c (Zq hc))]
 |_=>
  intro cs h
  rcases cs with _|⟨c,_|⟨c',cs⟩⟩
  ·rfl
  ·simp only [Gu,List.all_nil,Bool.and_true] at h
   simp only [Dn]
   exact Vt h
  ·rfl
theorem bL {st st':St} {τ:Ty} {v:AV} (h:v.settled=true):Dz st' τ v=Dz st τ v:=by
 cases v with
 | «at»a=>
  have ha:a.settled=true:=h
  cases a<;>simp only [AC.settled,Ci] at ha
  all_goals
   simp only [Dz]
   rw [My rfl,My rfl]
   rw [Vt (st:=st) (st':=st') rfl]
 |agg cs=>simp only [Dz];rw [kX _ _ h]
 |Wh _ _ _=>rfl
 |Jy _=>rfl
theorem dZ {st st':St} : ∀(τ:Ty) (vs:List AV),vs.all (·.settled)=true->Cs st' τ vs=Cs st τ vs
 | .pair a r,v::vs,h=>by
  rw [Gu,Ag] at h
  simp only [Cs]
  rw [bL (st:=st) (st':=st') h.1,dZ r vs h.2]
 | .pair _ _,[],_=>rfl
 | .unit,[],_=>rfl
 | .unit,_::_,_=>rfl
 | .int _,vs,_=>by cases vs<;>rfl
 | .bool,vs,_=>by cases vs<;>rfl
 | .str,vs,_=>by cases vs<;>rfl
 | .slice _,vs,_=>by cases vs<;>rfl
 | .oslice _,vs,_=>by cases vs<;>rfl
 | .ptr _,vs,_=>by cases vs<;>rfl
 | .optr _,vs,_=>by cases vs<;>rfl
 | .smap _,vs,_=>by cases vs<;>rfl
 | .clo _ _,vs,_=>by cases vs<;>rfl
def Rt:AV->Bool
 | .at (.data _ _ _)=>true
 |_=>false
def dX (o:Oper):List Operand:=match o.op with
 | .move x=> [x]
 | .load _ x=> [x]
 | .call {callee:= .value (.func _),args, .. } =>args.toList
 | .insert _ m k x=> [m,k,x]
 | .buildSlice _ _ parts=>parts.toList.map (·.2)
 |_=> []
def dz (d:Nat):Operand->Bool
 | .tmp t=>!Nat.beq t d
 |_=>true
theorem yS {d:Nat} {x:Operand} (h:dz d x=true):x≠ .tmp d:= λe=>by
 subst e
 simp [dz] at h
def Rw (Γ:Env) (st:St) (o:Oper):Bool:=match o.guard with
 |some _=>false
 |none=>match o.op with
  | .move _=>true
  | .load _ x=>(match st.ev x with
   | .at (.Ez _ _)=>true
   |_=>false)
  | .call {callee:= .value (.func f),args, .. } =>(match Γ f with
   |some (.q _)=>true
   |_=>false)&&args.toList.all λx=>(st.ev x).settled
  | .insert _ m k x=>(match st.ev m with
   | .at (.Hv _)=>true
   |_=>false)&&Rt (st.ev k)&&(st.ev x).settled
  | .buildSlice _ _ parts=>(parts.toList.all λp=>Rt (st.ev p.2))&&(match o.dst with
   |some e=>ji e st
   |none=>false)
  |_=>false
theorem Gb.ev {d:Nat} {st:St} (h:Gb d st) (x:Operand):d∉(st.ev x).refs:=by
 cases x with
 |tmp t=>
  simp only [St.ev,St.get]
  rw [An]
  by_cases hl:t<st.tmps.length
  ·rw [Ac hl];exact h.tmps _ (Ar hl)
  ·rw [Ee (Nat.le_of_not_lt hl)];simp [AV.refs,AC.refs]
 |const c=>
  simp only [St.ev]
  unfold gJ
  split<;>simp [AV.refs,AC.refs]
 |func f=>simp [St.ev,AV.refs,AC.refs]
 |_=>simp [St.ev,AV.refs,AC.refs]
theorem th: ∀ {H:List (Nat×OB)} {l:Nat} {b:OB},Ap H l=some b->(l,b)∈H
 |(k,c)::r,l,b,h=>by
  simp only [Ap] at h
  split at h
  ·rename_i e;subst e;cases h;simp
  ·exact Aq _ (th h)
section
variable {T:Tab} {Γ:Env} {ops:Array Oper} {d:Nat} {v:AV} {b:OB} {t:St}
theorem pG {e:Option Tmp} (h:e≠some d) (hn:Gb d t) {y:AV} (hy:d∉y.refs):(Gp d v b t).put e y=Gp d v b (t.put e y)/\Gb d (t.put e y):=by
 cases e with
 |none=>exact ⟨rfl,hn⟩
 |some k=>exact ⟨AK (λe=>h (by rw [e])),hn.put (λe=>h (by rw [e])) hy⟩
theorem dG {o:Oper} (hg:o.guard=none) (aj:o.dst≠some d) (hn:Gb d t) {q:Option AV} (h1:evalOp T Γ (Gp d v b t) o=q.map λy=>(y,Gp d v b t)) (h2:evalOp T Γ t o=q.map λy=>(y,t)) (hq: ∀y,q=some y->d∉y.refs) {s':St}
  (he:Dl T Γ ops (Gp d v b t) o=some s'): ∃t',Dl T Γ ops t o=some t'/\s'=Gp d v b t'/\Gb d t':=by
 unfold Dl at he⊢
 rw [hg] at he⊢
 simp only at he⊢
 rw [h1] at he
 cases q with
 |none=>cases he
 |some y=>
  obtain ⟨p1,p2⟩:=pG (v:=v) (b:=b) aj hn (hq y rfl)
  refine ⟨_,by rw [h2];rfl,?_,p2⟩
  simp only [Ah,Aa] at he
  rw [<-he,p1]
theorem Ud {l:List Operand} (hu:l.all (dz d)=true): ∀x∈l,(Gp d v b t).ev x=t.ev x:= λx hx=>FK (yS (Au.1 hu x hx))
theorem w7 {dst:Option Tmp} {x:Operand} {ty:TypeId} {pos:String} {after:Array Edge} (hn:Gb d t) (hx:(Gp d v b t).ev x=t.ev x) (aj:dst≠some d) {s':St}
  (he:Dl T Γ ops (Gp d v b t) {dst:=dst,op:= .move x,type:=ty,pos:=pos,after:=after,guard:=none} =some s'):
  ∃t',Dl T Γ ops t {dst:=dst,op:= .move x,type:=ty,pos:=pos,after:=after,guard:=none} =some t'/\s'=Gp d v b t'/\Gb d t':=
 dG rfl aj hn (q:=some (t.ev x)) (by simp only [evalOp,Dq,hx]) (by simp only [evalOp,Dq]) (λy hy=>by cases hy;exact hn.ev x) he
def loadVar (T:Tab) (o:Option OB) (t0:TypeId) (i:Nat):Option AV:=match T.ty t0 with
 |some τ=>(match o with
  |some (.var _ vs)=>if τ.Ak then (if i+τ.size<=vs.length then some (.agg ((vs.drop i).take τ.size)) else none) else vs[i]?.map .at
  |_=>none)
 |none=>none
theorem eR {st:St} {t0:TypeId} {l i:Nat} :Ms T st t0 (.at (.Ez l i))=loadVar T (st.at l) t0 i:=by
 unfold Ms loadVar
 cases T.ty t0<;>rfl
theorem w4 {dst:Option Tmp} {t0:TypeId} {x:Operand} {ty:TypeId} {pos:String} {after:Array Edge} (hn:Gb d t) (hx:(Gp d v b t).ev x=t.ev x) (aj:dst≠some d) {l i:Nat} (hp:t.ev x= .at (.Ez l i)) {s':St}
  (he:Dl T Γ ops (Gp d v b t) {dst:=dst,op:= .load t0 x,type:=ty,pos:=pos,after:=after,guard:=none} =some s'):
  ∃t',Dl T Γ ops t {dst:=dst,op:= .load t0 x,type:=ty,pos:=pos,after:=after,guard:=none} =some t'/\s'=Gp d v b t'/\Gb d t':=by
 have TG:d≠l:= λe=>by
  have:=hn.ev x
  rw [hp,e] at this
  exact this (by simp [AV.refs,AC.refs])
 refine dG rfl aj hn (q:=loadVar T (t.at l) t0 i) ?_ ?_ (λy hy=>?_) he
 ·simp only [evalOp,Dq,hx,hp]
  rw [eR,xj TG]
 ·simp only [evalOp,Dq,hp]
  rw [eR]
 ·unfold loadVar at hy
  split at hy
  ·split at hy
   ·rename_i vs hb
    have hr:d∉vs.flatMap AC.refs:=(hn.heap _ (th hb)).2
    have eH: ∀c∈vs,d∉c.refs:= λc hc hd=>hr (Mb.2 ⟨c,hc,hd⟩)
    split at hy
    ·split at hy
     ·cases hy
      intro hd
      obtain ⟨c,hc,hd⟩:=Mb.1 hd
      exact eH c (Zq (Hm hc)) hd
     ·cases hy
    ·cases hv:vs[i]? with
     |none=>rw [hv] at hy;cases hy
     |some c=>
      rw [hv] at hy
      cases hy
      exact eH c (Bo hv)
   ·cases hy
  ·cases hy
theorem yf {l:List Operand} (hu:l.all (dz d)=true):l.map (Gp d v b t).ev=l.map t.ev:=Fw λx hx=>Ud hu x hx
theorem vh {dst:Option Tmp} {f:FuncId} {args:Array Operand} {YF:Array TypeId} {ty:TypeId} {pos:String} {after:Array Edge} {sp:Spec} (Ls:Γ f=some (.q sp)) (hn:Gb d t) (hx:args.toList.map (Gp d v b t).ev=args.toList.map t.ev) (aj:dst≠some d)
  (hs:(args.toList.map t.ev).all (·.settled)=true) {s':St} (he:Dl T Γ ops (Gp d v b t) {dst:=dst,op:= .call {callee:= .value (.func f),args:=args,argTypes:=YF},type:=ty,pos:=pos,after:=after,guard:=none} =some s'):
  ∃t',Dl T Γ ops t {dst:=dst,op:= .call {callee:= .value (.func f),args:=args,argTypes:=YF},type:=ty,pos:=pos,after:=after,guard:=none} =some t'/\s'=Gp d v b t'/\Gb d t':=by
 have xC:bm sp (args.toList.map t.ev)=false:=by unfold bm;rw [hs];simp
 have vN: ∀st:St,Lq Γ st f (args.toList.map t.ev)=(match Cs t sp.arg (args.toList.map t.ev) with
   |none=>none
   |some (_,x)=>(sp.fn x).map λy=>if sp.Hy then .Wh (sp.fresh||sp.res.flat) sp.res y else .at (.data (sp.fresh||sp.res.flat) sp.res y)):= λst=>by
  unfold Lq
  rw [Ls]
  simp only
  rw [hs,dZ (st:=t) _ _ hs]
  simp only [Bool.or_true,Nh]
  cases Cs t sp.arg (args.toList.map t.ev)<;>rfl
 refine dG rfl aj hn (q:=Lq Γ t f (args.toList.map t.ev)) ?_ ?_ (λy hy=>?_) he
 ·simp only [evalOp,Dq,Ls,hx,xC]
  rw [vN,vN t]
  simp
 ·simp only [evalOp,Dq,Ls,xC]
  simp
 ·rw [vN t] at hy
  split at hy
  ·cases hy
  ·rename_i x _
   cases hf:sp.fn x with
   |none=>rw [hf] at hy;cases hy
   |some z=>
    rw [hf] at hy
    simp only [Ah,Aa] at hy
    rw [<-hy]
    split<;>simp [AV.refs,AC.refs]
def iw (T:Tab) (o:Option OB) (t0:TypeId) (s:ByteArray) (vw:(v:Ty)->Option (Bool×v.den)):Option OB:=match T.mapOf t0 with
 |some v=>(match o,vw v with
  |some (.Qy v' f),some (_,y)=>if h:v'=v/\v.flat=true/\v.Ak=false then some (.Qy v (Sb (h.1▸f:ByteArray->Option v.den) s y)) else none
  |_,_=>none)
 |none=>none
theorem eS {st:St} {t0:TypeId} {l:Nat} {fr:Bool} {s:ByteArray} {x:AV} :Gl T st t0 (.at (.Hv l)) (.at (.data fr .str s)) x=(iw T (st.at l) t0 s λv=>Dz st v x).map λc=>st.He l c:=by
 unfold Gl iw
 cases T.mapOf t0 with
 |none=>rfl
 |some v0=>
  simp only
  cases st.at l with
  |none=>rfl
  |some c=>
   cases c with
   |Qy v' f=>
    cases Dz st v0 x with
    |none=>rfl
    |some p=>
     simp only
     split<;>rfl
   |_=>rfl
theorem tR {o:Option OB} {t0:TypeId} {s:ByteArray} {vw:(v:Ty)->Option (Bool×v.den)} {c:OB} (h:iw T o t0 s vw=some c):c.refs= []:=by
 unfold iw at h
 split at h
 ·split at h
  ·split at h
   ·cases h;rfl
   ·cases h
  ·cases h
 ·cases h
theorem lY {st:St} {t0:TypeId} {m k x:AV} {s':St} (h:Gl T st t0 m k x=some s'): ∃l fr s,m= .at (.Hv l)/\k= .at (.data fr .str s):=by
 unfold Gl at h
 split at h
 ·exact ⟨_,_,_,rfl,rfl⟩
 ·cases h
theorem tU: ∀ {H:List (Nat×OB)} {l:Nat} {c:OB} {p:Nat×OB},p∈Ux H l c->p∈H\/(p.2=c/\p.1=l/\ ∃c',(l,c')∈H)
 |(k,a)::r,l,c,p,h=>by
  simp only [Ux] at h
  split at h
  ·rename_i e
   rcases Ay.1 h with h|h
   ·subst h;exact .inr ⟨rfl,e,a,by rw [e];simp⟩
   ·exact .inl (Aq _ h)
  ·rcases Ay.1 h with h|h
   ·exact .inl (by rw [h];simp)
   ·exact (tU h).imp (Aq _) λ⟨h1,h2,c',h3⟩=>⟨h1,h2,c',Aq _ h3⟩
theorem Gb.He {st:St} {l:Nat} {c:OB} (h:Gb d st) (hc:d∉c.refs):Gb d (st.He l c):=
 ⟨h.own,h.tmps,λp hp=>(tU hp).elim (h.heap p) λ⟨h1,h2,c',h3⟩=>⟨by rw [h2];exact (h.heap _ h3).1,by rw [h1];exact hc⟩⟩
theorem qE {dst:Option Tmp} {t0:TypeId} {m k x:Operand} {ty:TypeId} {pos:String} {after:Array Edge} (hn:Gb d t) (hm:(Gp d v b t).ev m=t.ev m) (hk:(Gp d v b t).ev k=t.ev k) (hx:(Gp d v b t).ev x=t.ev x) (aj:dst≠some d)
  (hs:(t.ev x).settled=true) {s':St} (he:Dl T Γ ops (Gp d v b t) {dst:=dst,op:= .insert t0 m k x,type:=ty,pos:=pos,after:=after,guard:=none} =some s'):
  ∃t',Dl T Γ ops t {dst:=dst,op:= .insert t0 m k x,type:=ty,pos:=pos,after:=after,guard:=none} =some t'/\s'=Gp d v b t'/\Gb d t':=by
 unfold Dl at he⊢
 simp only [evalOp,hm,hk,hx] at he⊢
 cases FF:Gl T (Gp d v b t) t0 (t.ev m) (t.ev k) (t.ev x) with
 |none=>rw [FF] at he;cases he
 |some s1=>
  rw [FF] at he
  simp only [Ah,Aa] at he
  obtain ⟨l,fr,s,e1,e2⟩:=lY FF
  have TG:d≠l:= λe=>by
   have:=hn.ev m
   rw [e1,e] at this
   exact this (by simp [AV.refs,AC.refs])
  rw [e1,e2,eS,xj TG] at FF
  have hvw:(λv0=>Dz (Gp d v b t) v0 (t.ev x))= λv0=>Dz t v0 (t.ev x):=funext λv0=>bL hs
  rw [hvw] at FF
  rw [e1,e2,eS]
  cases ho:iw T (t.at l) t0 s λv0=>Dz t v0 (t.ev x) with
  |none=>rw [ho] at FF;cases FF
  |some c=>
   rw [ho] at FF
   simp only [Ah,Aa] at FF
   have hc:=tR ho
   have lg:Gb d (t.He l c):=hn.He (by rw [hc];simp)
   obtain ⟨p1,p2⟩:=pG (v:=v) (b:=b) (y:= .undef) aj lg (by simp [AV.refs,AC.refs])
   refine ⟨_,rfl,?_,p2⟩
   rw [<-he,<-FF,yc TG,p1]
theorem Gb.back {e:Nat} (h:Gb e (Gp d v b t)) (NK:e≠d) (hn:Gb d t):Gb e t:=by
 have hg: ∀k,k≠d->(Gp d v b t).get k=t.get k:= λk hk=>ae _ _ _ _ _ (Fo hk)
 refine ⟨by rw [<-hg e NK];exact h.own,λu hu hd=>?_,h.ME⟩
 obtain ⟨k,hk,rfl⟩:=Db.1 hu
 have e1:t.get k=t.tmps[k]:=by unfold St.get;rw [An,Ac hk];rfl
 by_cases IP:k=d
 ·subst IP
  have:=hn.own
  rw [e1] at this
  rw [this] at hd
  cases hd
 ·have h1:=h.ev (.tmp k)
  have h2:(Gp d v b t).ev (.tmp k)=t.tmps[k]:=by show (Gp d v b t).get k=_;rw [hg k IP,e1]
  rw [h2] at h1
  exact h1 hd
def gn (e:Ty):Nat->List (Nat×AV)->Option (Bool×Bool×List e.den)
 |_,[]=>some (true,true,[])
 |i,(j,x)::r=>if i=j then match Dz ⟨[],[]⟩ e x with
  |some (fr,y)=>match gn e (i+1) r with
   |some (Rj,EG,ys)=>some (fr&&Rj,Ph ⟨[],[]⟩ x&&e.tree&&EG,y::ys)
   |none=>none
  |none=>none
  else none
theorem Zv {st:St} {e:Ty} : ∀(l:List (Nat×Operand)) (i:Nat),(l.all λp=>Rt (st.ev p.2))=true->Is e i l st=(gn e i (l.map λp=>(p.1,st.ev p.2))).map λp=>(p.1,p.2.1,p.2.2,st)
 | [],i,_=>rfl
 |(j,x)::r,i,h=>by
  rw [Gu,Ag] at h
  have hx:Rt (st.ev x)=true:=h.1
  simp only [Is,gn,Bl]
  split
  ·generalize TO:st.ev x=xv at hx
   unfold Rt at hx
   split at hx
   ·rename_i fr τ z
    have LM:settle st (.at (.data fr τ z))=some (.at (.data fr τ z),st):=rfl
    rw [LM]
    simp only
    rw [bL (st:=⟨[],[]⟩) (st':=st) (v:= .at (.data fr τ z)) rfl]
    cases Dz ⟨[],[]⟩ e (.at (.data fr τ z)) with
    |none=>rfl
    |some p=>
     simp only
     rw [Zv r (i+1) h.2]
     cases gn e (i+1) (r.map λp=>(p.1,st.ev p.2)) with
     |none=>rfl
     |some q=>rfl
   ·cases hx
  ·rfl
def rowOf (T:Tab) (t0:TypeId) (len:Nat) (parts:List (Nat×AV)) (dst:Nat):Option (AV×OB):=match ag T t0 with
 |some _=>none
 |none=>match T.elem t0 with
  |none=>none
  |some te=>match T.ty te with
   |none=>none
   |some e=>if parts.length=len/\len<=64/\e.size<=64/\dst<Az then (gn e 0 parts).map λp=>(.at (.own dst 0 len), .arr ((T.nO||e.flat)&&p.1) (T.uF&&p.2.1) e te p.2.2) else none
theorem cN {st:St} {t0:TypeId} {len dst:Nat} {parts:Array (Nat×Operand)} (h:(parts.toList.all λp=>Rt (st.ev p.2))=true):
  Gi T st dst t0 len parts=(rowOf T t0 len (parts.toList.map λp=>(p.1,st.ev p.2)) dst).map λr=>(r.1,st.new dst r.2):=by
 unfold Gi rowOf
 cases ag T t0 with
 |some p=>
  obtain ⟨te,e⟩:=p
  simp only [Option.map_none]
  split
  ·rename_i x hp
   rw [hp,Gu,Ag] at h
   have hx:Rt (st.ev x)=true:=h.1
   unfold Rt at hx
   split at hx
   ·rename_i hv;simp only [hv]
   ·cases hx
  ·rfl
 |none=>
  simp only
  unfold Jt
  cases T.elem t0 with
  |none=>rfl
  |some te=>
   simp only
   cases T.ty te with
   |none=>rfl
   |some e=>
    simp only [Nl,Sf]
    split
    ·rw [Zv _ 0 h]
     cases gn e 0 (parts.toList.map λp=>(p.1,st.ev p.2))<;>rfl
    ·rfl
theorem ky {t0:TypeId} {len dst:Nat} {parts:List (Nat×AV)} {r:AV×OB} (h:rowOf T t0 len parts dst=some r):lr dst r.1 r.2:=by
 unfold rowOf at h
 split at h
 ·cases h
 ·split at h
  ·cases h
  ·split at h
   ·cases h
   ·split at h
    ·rename_i e _ _
     cases hp:gn e 0 parts with
     |none=>rw [hp] at h;cases h
     |some p=>
      rw [hp] at h
      simp only [Ah,Aa] at h
      subst h
      exact ⟨λl hl=>by simpa [AV.refs,AC.refs] using hl,rfl,λl hl=>by simp only [AV.map,Bs];rw [Aj (Fo hl)],λl=>rfl⟩
    ·cases h
theorem sJ {e:Nat} {t0:TypeId} {len:Nat} {parts:Array (Nat×Operand)} {ty:TypeId} {pos:String} {after:Array Edge} (_hl:lr d v b) (hn:Gb d t) (hx: ∀p∈parts.toList,(Gp d v b t).ev p.2=t.ev p.2) (aj:e≠d)
  (hp:(parts.toList.all λp=>Rt (t.ev p.2))=true) (Hs:Gb e (Gp d v b t)) {s':St} (he:Dl T Γ ops (Gp d v b t) {dst:=some e,op:= .buildSlice t0 len parts,type:=ty,pos:=pos,after:=after,guard:=none} =some s'):
  ∃t',Dl T Γ ops t {dst:=some e,op:= .buildSlice t0 len parts,type:=ty,pos:=pos,after:=after,guard:=none} =some t'/\s'=Gp d v b t'/\Gb d t':=by
 have LD:=Hs.back aj hn
 have xD:(parts.toList.all λp=>Rt ((Gp d v b t).ev p.2))=true:=Au.2 λp qB=>by rw [hx p qB];exact Au.1 hp p qB
 have hm:(parts.toList.map λp=>(p.1,(Gp d v b t).ev p.2))=parts.toList.map λp=>(p.1,t.ev p.2):=Fw λp qB=>by rw [hx p qB]
 unfold Dl at he⊢
 simp only [evalOp] at he⊢
 rw [cN xD,hm] at he
 rw [cN hp]
 cases hr:rowOf T t0 len (parts.toList.map λp=>(p.1,t.ev p.2)) e with
 |none=>rw [hr] at he;cases he
 |some r=>
  rw [hr] at he
  have hL:=ky hr
  simp only [Ah,Aa] at he
  rw [Hs.new] at he
  refine ⟨Gp e r.1 r.2 t,by simp only [Ah];rw [LD.new],?_,hn.plus (Fo aj) (λh=>aj (hL.v1 _ h).symm) (by rw [hL.b1];simp)⟩
  rw [<-he,oP (Fo aj)]
def KC:Operand->AV
 | .const c=>gJ c
 |_=> .undef
theorem KD {st:St} {x:Operand} (h:Rt (KC x)=true):st.ev x=KC x:=by
 cases x<;>first|rfl|cases h
def aP (T:Tab) (o:Oper):Option (Nat×AV×OB):=match o.guard with
 |some _=>none
 |none=>match o.dst with
  |none=>none
  |some d=>match o.op with
   | .buildSlice t0 len parts=>if (parts.toList.all λp=>Rt (KC p.2))=true then (rowOf T t0 len (parts.toList.map λp=>(p.1,KC p.2)) d).map λr=>(d,r.1,r.2) else none
   | .makeMap t0 none=>match T.mapOf t0 with
    |some τ=>if d<Az then some (d, .at (.Hv d), .Qy τ λ_=>none) else none
    |none=>none
   |_=>none
theorem aQ {o:Oper} {r:Nat×AV×OB} (h:aP T o=some r):o.dst=some r.1/\lr r.1 r.2.1 r.2.2/\ ∀st:St,Gb r.1 st->Dl T Γ ops st o=some (Gp r.1 r.2.1 r.2.2 st):=by
 obtain ⟨dst,op,ty,pos,after,guard⟩:=o
 unfold aP at h
 cases guard with
 |some g=>cases h
 |none=>
  cases dst with
  |none=>cases h
  |some d=>
   cases op with
   |buildSlice t0 len parts=>
    simp only at h
    split at h
    ·rename_i hp
     cases hr:rowOf T t0 len (parts.toList.map λp=>(p.1,KC p.2)) d with
     |none=>rw [hr] at h;cases h
     |some q=>
      rw [hr] at h
      simp only [Ah,Aa] at h
      subst h
      refine ⟨rfl,ky hr,λst Yi=>?_⟩
      have vN: ∀p∈parts.toList,st.ev p.2=KC p.2:= λp qB=>KD (Au.1 hp p qB)
      have hm:(parts.toList.map λp=>(p.1,st.ev p.2))=parts.toList.map λp=>(p.1,KC p.2):=Fw λp qB=>by rw [vN p qB]
      have xD:(parts.toList.all λp=>Rt (st.ev p.2))=true:=Au.2 λp qB=>by rw [vN p qB];exact Au.1 hp p qB
      unfold Dl
      simp only [evalOp]
      rw [cN xD,hm,hr]
      simp only [Ah]
      rw [Yi.new]
    ·cases h
   |makeMap t0 hint=>
    cases hint with
    |some x=>cases h
    |none=>
     simp only at h
     split at h
     ·rename_i τ Pp
      split at h
      ·rename_i hd
       cases h
       refine ⟨rfl,⟨λl hl=>by simpa [AV.refs,AC.refs] using hl,rfl,λl hl=>by simp only [AV.map,Bs];rw [Aj (Fo hl)],λl=>rfl⟩,λst Yi=>?_⟩
       unfold Dl
       simp only [evalOp,Ql,Pp,Af hd,Ah]
       rw [Yi.new]
      ·cases h
     ·cases h
   |_=>cases h
theorem rI {l:List Operand} (h: ∀x∈l,(Gp d v b t).ev x=t.ev x):(l.all λx=>((Gp d v b t).ev x).settled)=(l.map t.ev).all (·.settled):=by
 rw [List.all_map]
 induction l with
 |nil=>rfl
 |cons x r ih=>
  simp only [Gu,Function.comp]
  rw [h x (by simp),ih λy hy=>h y (by simp [hy])]
theorem rJ {o:Oper} (hl:lr d v b) (hn:Gb d t) (hs:Rw Γ (Gp d v b t) o=true) (hu:(dX o).all (dz d)=true) (aj:o.dst≠some d) {s':St} (he:Dl T Γ ops (Gp d v b t) o=some s'):
  ∃t',Dl T Γ ops t o=some t'/\s'=Gp d v b t'/\Gb d t'/\Rw Γ t o=true:=by
 obtain ⟨dst,op,ty,pos,after,guard⟩:=o
 unfold Rw at hs
 cases guard with
 |some g=>cases hs
 |none=>
  simp only at hs
  split at hs
  ·rename_i x
   have hx:=Ud (v:=v) (b:=b) (t:=t) hu x (by simp [dX])
   obtain ⟨t',h1,h2,h3⟩:=w7 hn hx aj he
   exact ⟨t',h1,h2,h3,rfl⟩
  ·rename_i t0 x
   have hx:=Ud (v:=v) (b:=b) (t:=t) hu x (by simp [dX])
   rw [hx] at hs
   split at hs
   ·rename_i l i hp
    obtain ⟨t',h1,h2,h3⟩:=w4 hn hx aj hp he
    exact ⟨t',h1,h2,h3,by simp only [Rw,hp]⟩
   ·cases hs
  ·rename_i f args YF
   rw [Ag] at hs
   obtain ⟨fX,nH⟩:=hs
   split at fX
   ·rename_i sp Ls
    have vN:=Ud (v:=v) (b:=b) (t:=t) (l:=args.toList) hu
    rw [rI vN] at nH
    obtain ⟨t',h1,h2,h3⟩:=vh Ls hn (yf hu) aj nH he
    refine ⟨t',h1,h2,h3,?_⟩
    simp only [Rw,Ls,Bool.true_and]
    rw [List.all_map] at nH
    exact nH
   ·cases fX
  ·rename_i t0 m k x
   have hm:=Ud (v:=v) (b:=b) (t:=t) hu m (by simp [dX])
   have hk:=Ud (v:=v) (b:=b) (t:=t) hu k (by simp [dX])
   have hx:=Ud (v:=v) (b:=b) (t:=t) hu x (by simp [dX])
   rw [hm,hk,hx] at hs
   have hs0:=hs
   rw [Ag] at hs
   obtain ⟨t',h1,h2,h3⟩:=qE hn hm hk hx aj hs.2 he
   exact ⟨t',h1,h2,h3,hs0⟩
  ·rename_i t0 len parts
   rw [Ag] at hs
   obtain ⟨fX,nH⟩:=hs
   cases dst with
   |none=>cases nH
   |some e=>
    simp only at nH
    have ZF:e≠d:= λh=>aj (by rw [h])
    have cv:(parts.toList.map (λp=>p.2)).all (dz d)=true:=hu
    have vN:=Ud (v:=v) (b:=b) (t:=t) cv
    have hx: ∀p∈parts.toList,(Gp d v b t).ev p.2=t.ev p.2:= λp hp=>vN p.2 (Bq.2 ⟨p,hp,rfl⟩)
    have hp:(parts.toList.all λp=>Rt (t.ev p.2))=true:=Au.2 λp hp=>by rw [<-hx p hp];exact Au.1 fX p hp
    have Hs:=mG nH
    obtain ⟨t',h1,h2,h3⟩:=sJ hl hn hx ZF hp Hs he
    refine ⟨t',h1,h2,h3,?_⟩
    simp only [Rw,hp,Bool.true_and]
    exact yR (Hs.back ZF hn)
  ·cases hs
def pZ:List (Nat×AV×OB)->St->St->Prop
 | [],s,t=>s=t
 |q::Q,s,t=>Gb q.1 t/\pZ Q s (Gp q.1 q.2.1 q.2.2 t)
theorem pB {o:Oper} : ∀(Q:List (Nat×AV×OB)) (s t s':St),pZ Q s t->(∀q∈Q,lr q.1 q.2.1 q.2.2/\(dX o).all (dz q.1)=true/\o.dst≠some q.1)->Rw Γ s o=true->Dl T Γ ops s o=some s'->
  ∃t',Dl T Γ ops t o=some t'/\pZ Q s' t'/\Rw Γ t o=true
 | [],s,t,s',h,_,hs,he=>by
  have h:s=t:=h
  subst h
  exact ⟨s',he,rfl,hs⟩
 |q::Q,s,t,s',⟨h1,h2⟩,hq,hs,he=>by
  obtain ⟨u',e1,e2,e3⟩:=pB Q s _ s' h2 (λp hp=>hq p (Aq _ hp)) hs he
  obtain ⟨l1,l2,l3⟩:=hq q (by simp)
  obtain ⟨t',f1,f2,f3,f4⟩:=rJ l1 h1 e3 l2 l3 e1
  exact ⟨t',f1,⟨f3,by rw [<-f2];exact e2⟩,f4⟩
theorem pC {q:Nat×AV×OB} : ∀(Q1:List (Nat×AV×OB)) {Q2:List (Nat×AV×OB)} {s t:St},pZ (Q1++q::Q2) s t->(∀p∈Q1++q::Q2,lr p.1 p.2.1 p.2.2)->(∀p∈Q1,p.1≠q.1)->
  Gb q.1 t/\pZ (Q1++Q2) s (Gp q.1 q.2.1 q.2.2 t)
 | [],Q2,s,t,h,_,_=>h
 |p::Q1,Q2,s,t,⟨h1,h2⟩,hL,Hs=>by
  have NT:=Hs p (by simp)
  have hLp:=hL p (by simp)
  have YZ:=hL q (by simp)
  obtain ⟨g1,g2⟩:=pC Q1 h2 (λr hr=>hL r (Aq _ hr)) λr hr=>Hs r (Aq _ hr)
  refine ⟨g1.back (Fo NT) h1,h1.plus NT (λh=>NT (YZ.v1 _ h)) (by rw [YZ.b1];simp),?_⟩
  show pZ (Q1++Q2) s (Gp p.1 p.2.1 p.2.2 (Gp q.1 q.2.1 q.2.2 t))
  rw [oP (Fo NT)]
  exact g2
def gu (ops:Array Oper):Nat->Nat->Nat->Bool
 |0,_,_=>false
 |f+1,i,a=>Region.waitsFor .any ops i a||(List.range ops.size).any λk=>Region.waitsFor .any ops i k&&gu ops f k a
theorem fC {Ae:Array Bool} (hc:Pv ops Ae) {a:Nat} : ∀(f i:Nat),(∀x,Region.waitsFor .any ops i x=true->Ae.getD x false=true)->gu ops f i a=true->Ae.getD a false=true
 |0,_,_,h=>by cases h
 |f+1,i,hi,h=>by
  simp only [gu,Ja,Dv,Ag] at h
  rcases h with h|⟨k,_,h1,h2⟩
  ·exact hi a h
  ·exact fC hc f k (λx hx=>hc k x (hi k h1) hx) h2
def we (P:List (Nat×Nat×AV×OB)) (Γ:Env) (ops:Array Oper) (st:St) (o:Oper) (i:Nat):Bool:=
 (P.all λa=>gu ops 5 i a.1)||(Rw Γ st o&&P.all λa=>gu ops 5 i a.1||((dX o).all (dz a.2.1)&&(match o.dst with
  |some e=>!Nat.beq e a.2.1
  |none=>true)))
def JY (T:Tab) (Γ:Env) (ops:Array Oper) (P:List (Nat×Nat×AV×OB)) (K:St->Prop):Nat->Array Bool->St->Prop
 |0,Ae,st=>Region.ready .any ops Ae= []/\K st
 |f+1,Ae,st=>Region.ready .any ops Ae≠ []/\ ∀i∈Region.ready .any ops Ae,∃o st',ops[i]?=some o/\we P Γ ops st o i=true/\Dl T Γ ops st o=some st'/\JY T Γ ops P K f (Ae.setIfInBounds i true) st'
structure zS (lc la:Array Bool) (Q:List Nat):Prop where
 size:la.size=lc.size
 off: ∀k∈Q,k<la.size/\la.getD k false=false/\lc.getD k false=true
 same: ∀k,k∉Q->la.getD k false=lc.getD k false
theorem zS.ready {lc la:Array Bool} {Q:List Nat} (h:zS lc la Q) {i:Nat} (hi:i∈Region.ready .any ops la) (hn:i∉Q):i∈Region.ready .any ops lc:=by
 obtain ⟨h1,o,ho,Ig⟩:=mem_ready.1 hi
 have Im:i<la.size:=by
  rcases Nat.lt_or_ge i la.size with h'|h'
  ·exact h'
  ·simp [Array.getElem?_eq_none h'] at h1
 have h2:=getD_both h1
 rw [h.same i hn] at h2
 refine mem_ready.2 ⟨getD_in (by rw [<-h.size];exact Im) h2,o,ho,λe he hb=>?_⟩
 have h3:=Ig e he hb
 by_cases hq:e.on∈Q
 ·exact (h.off _ hq).2.2
 ·rw [<-h.same _ hq];exact h3
theorem zS.nil {lc la:Array Bool} (h:zS lc la []):la=lc:=by
 refine Array.ext h.size λk h1 h2=>?_
 have:=h.same k (by simp)
 simpa [h1,h2] using this
theorem zS.one {lc la:Array Bool} {Q Q':List Nat} {i:Nat} (h:zS lc la Q) (hi:i∈Q) (hs: ∀k,k∈Q'↔k∈Q/\k≠i):zS lc (la.setIfInBounds i true) Q':=by
 refine ⟨by simp [h.size],λk hk=>?_,λk hk=>?_⟩
 ·obtain ⟨h1,h2⟩:=(hs k).1 hk
  obtain ⟨g1,g2,g3⟩:=h.off k h1
  exact ⟨by simpa using g1,by rw [getD_set_ne false (Fo h2)];exact g2,g3⟩
 ·by_cases e:i=k
  ·subst e
   obtain ⟨g1,g2,g3⟩:=h.off i hi
   rw [g3]
   simp [g1]
  ·rw [getD_set_ne false e]
   exact h.same k λhq=>hk ((hs k).2 ⟨hq,Fo e⟩)
theorem zS.both {lc la:Array Bool} {Q:List Nat} {i:Nat} (h:zS lc la Q) (hi:i∉Q):zS (lc.setIfInBounds i true) (la.setIfInBounds i true) Q:=by
 refine ⟨by simp [h.size],λk hk=>?_,λk hk=>?_⟩
 ·obtain ⟨g1,g2,g3⟩:=h.off k hk
  have Hs:i≠k:= λe=>hi (by rw [e];exact hk)
  exact ⟨by simpa using g1,by rw [getD_set_ne false Hs];exact g2,by rw [getD_set_ne false Hs];exact g3⟩
 ·by_cases e:i=k
  ·subst e
   have hs:=h.same i hi
   have hz:=h.size
   by_cases hl:i<la.size
   ·simp [hl,hz▸hl]
   ·have Tu: ¬i<lc.size:=by omega
    simp [hl,Tu]
  ·rw [getD_set_ne false e,getD_set_ne false e];exact h.same k hk
theorem wa {dst:Option Tmp} {d:Nat} (h:(match dst with
  |some e=>!Nat.beq e d
  |none=>true)=true):dst≠some d:= λe=>by
 subst e
 simp at h
theorem yd {P:List (Nat×Nat×AV×OB)} {K:St->Prop} (hP: ∀a∈P,∃o,ops[a.1]?=some o/\aP T o=some a.2):
  ∀(n f:Nat) (Q:List (Nat×Nat×AV×OB)) (lc la:Array Bool) (s t:St),n=f+Q.length->JY T Γ ops P K f lc s->pZ (Q.map (·.2)) s t->zS lc la (Q.map (·.1))->(∀a∈Q,a∈P)->
   (Q.Pairwise λa c=>a.2.1≠c.2.1/\a.1≠c.1)->Pv ops la->(∀a∈Q,∀x,Region.waitsFor .any ops a.1 x=true->la.getD x false=true)->anyS T Γ ops K n la t:=by
 intro n
 induction n with
 |zero=>
  intro f Q lc la s t hn hC hp hb hQ WW Ol hw
  have hf:f=0:=by omega
  have hq:Q= []:=Cj (by omega)
  subst hf hq
  have hp:s=t:=hp
  subst hp
  rw [hb.nil]
  exact hC
 |succ n ih=>
  intro f Q lc la s t hn hC hp hb hQ WW Ol hw
  refine ⟨?_,λi hi=>?_⟩
  ·cases Q with
   |nil=>
    rw [hb.nil]
    cases f with
    |zero=>simp at hn
    |succ f=>exact hC.1
   |cons a Q=>
    obtain ⟨o,ho,_⟩:=hP a (hQ a (by simp))
    obtain ⟨g1,g2,_⟩:=hb.off a.1 (by simp)
    have:a.1∈Region.ready .any ops la:=mem_ready.2 ⟨getD_in g1 g2,o,ho,λe he VN=>hw a (by simp) e.on (by
     unfold Region.waitsFor
     rw [ho]
     exact Array.any_eq_true'.2 ⟨e,he,by simp [VN]⟩)⟩
    intro e
    rw [e] at this
    cases this
  ·by_cases SZ:i∈Q.map (·.1)
   ·obtain ⟨a,ha,rfl⟩:=Bq.1 SZ
    obtain ⟨Q1,Q2,rfl⟩:=List.append_of_mem ha
    obtain ⟨o,ho,OS⟩:=hP a (hQ a ha)
    obtain ⟨_,_,Yi⟩:=aQ (Γ:=Γ) (ops:=ops) OS
    have BT:=List.pairwise_append.1 WW
    have QG:=List.pairwise_cons.1 BT.2.1
    rw [Vw,Bl] at hp
    have hL: ∀p∈Q1.map (·.2)++a.2::Q2.map (·.2),lr p.1 p.2.1 p.2.2:= λp qB=>by
     have:p∈(Q1++a::Q2).map (·.2):=by rw [Vw,Bl];exact qB
     obtain ⟨c,hc,rfl⟩:=Bq.1 this
     obtain ⟨o',_,VH⟩:=hP c (hQ c hc)
     exact (aQ (Γ:=Γ) (ops:=ops) VH).2.1
    obtain ⟨p1,p2⟩:=pC _ hp hL λp qB=>by
     obtain ⟨c,hc,rfl⟩:=Bq.1 qB
     exact (BT.2.2 c hc a (by simp)).1
    refine ⟨o,_,ho,Yi t p1,ih f (Q1++Q2) lc _ s _ ?_ hC (by rw [Vw];exact p2) (hb.one SZ λk=>?_) (λc hc=>hQ c ?_) ?_ (Ol.set hi) λc hc x hx=>getD_set_true (hw c ?_ x hx)⟩
    ·simp only [Cf,Bf] at hn⊢;omega
    ·simp only [Vw,Bl,Av,Ay]
     constructor
     ·intro h
      rcases h with h|h
      ·obtain ⟨c,hc,rfl⟩:=Bq.1 h
       exact ⟨.inl h,(BT.2.2 c hc a (by simp)).2⟩
      ·obtain ⟨c,hc,rfl⟩:=Bq.1 h
       exact ⟨.inr (.inr h),Fo (QG.1 c hc).2⟩
     ·rintro ⟨h|h|h,Hs⟩
      ·exact .inl h
      ·exact absurd h Hs
      ·exact .inr h
    ·rcases Av.1 hc with hc|hc
     ·exact Bg _ hc
     ·exact Bp _ (Aq _ hc)
    ·exact List.pairwise_append.2 ⟨BT.1,QG.2,λc hc e he=>BT.2.2 c hc e (Aq _ he)⟩
    ·rcases Av.1 hc with hc|hc
     ·exact Bg _ hc
     ·exact Bp _ (Aq _ hc)
   ·have WC:=hb.ready hi SZ
    cases f with
    |zero=>
     rw [hC.1] at WC
     cases WC
    |succ f=>
     obtain ⟨o,s',ho,kR,he,bZ⟩:=hC.2 i WC
     have GH: ∀a∈Q,gu ops 5 i a.1=false:= λa ha=>by
      cases XR:gu ops 5 i a.1 with
      |false=>rfl
      |true=>
       have h1:=fC Ol _ i (λx hx=>Yq hi hx) XR
       rw [(hb.off a.1 (Bq.2 ⟨a,ha,rfl⟩)).2.1] at h1
       cases h1
     have key: ∃t',Dl T Γ ops t o=some t'/\pZ (Q.map (·.2)) s' t':=by
      unfold we at kR
      rw [Ja,Ag] at kR
      rcases kR with kR|⟨h1,h2⟩
      ·cases Q with
       |nil=>
        have hp:s=t:=hp
        subst hp
        exact ⟨s',he,rfl⟩
       |cons a Q=>
        have:=Au.1 kR a (hQ a (by simp))
        rw [GH a (by simp)] at this
        cases this
      ·obtain ⟨t',g1,g2,_⟩:=pB (T:=T) (ops:=ops) _ s t s' hp (λq hq=>by
        obtain ⟨a,ha,rfl⟩:=Bq.1 hq
        obtain ⟨o',_,OS⟩:=hP a (hQ a ha)
        have h3:=Au.1 h2 a (hQ a ha)
        rw [GH a ha,Wj,Ag] at h3
        exact ⟨(aQ (Γ:=Γ) (ops:=ops) OS).2.1,h3.1,wa h3.2⟩) h1 he
       exact ⟨t',g1,g2⟩
     obtain ⟨t',g1,g2⟩:=key
     exact ⟨o,t',ho,g1,ih f Q _ _ s' t' (by omega) bZ g2 (hb.both SZ) hQ WW (Ol.set hi) λc hc x hx=>getD_set_true (hw c hc x hx)⟩
def Uc (T:Tab) (ops:Array Oper) (Ae:Array Bool):List (Nat×Nat×AV×OB):=(Region.ready .any ops Ae).filterMap λi=>((ops[i]?).bind (aP T)).map λr=>(i,r)
theorem q9 {Ae:Array Bool} {a:Nat×Nat×AV×OB} (h:a∈Uc T ops Ae):a.1∈Region.ready .any ops Ae/\ ∃o,ops[a.1]?=some o/\aP T o=some a.2:=by
 unfold Uc at h
 obtain ⟨i,hi,he⟩:=List.mem_filterMap.1 h
 cases ho:ops[i]? with
 |none=>rw [ho] at he;cases he
 |some o=>
  rw [ho] at he
  simp only [Dw,Option.map_eq_some_iff] at he
  obtain ⟨r,h1,rfl⟩:=he
  exact ⟨hi,o,ho,h1⟩
theorem FO {Ae:Array Bool} {Q:List Nat} (h: ∀i∈Q,i∈Region.ready .any ops Ae):zS (Da Q Ae) Ae Q:=by
 have hr: ∀i∈Q,i<Ae.size/\Ae.getD i false=false:= λi hi=>by
  have h1:=(mem_ready.1 (h i hi)).1
  refine ⟨?_,getD_both h1⟩
  rcases Nat.lt_or_ge i Ae.size with h'|h'
  ·exact h'
  ·simp [Array.getElem?_eq_none h'] at h1
 exact ⟨(Rp Q Ae).symm,λk hk=>⟨(hr k hk).1,(hr k hk).2,bk Q Ae k hk (hr k hk).1⟩,λk hk=>(Zf Q Ae k hk).symm⟩
theorem ub: ∀(Q:List (Nat×Nat×AV×OB)) (t s:St),(∀a∈Q,∃o,ops[a.1]?=some o/\aP T o=some a.2)->(∀a∈Q,Gb a.2.1 t)->(Q.Pairwise λa c=>a.2.1≠c.2.1)->Kb T Γ ops (Q.map (·.1)) t=some s->pZ (Q.map (·.2)) s t
 | [],t,s,_,_,_,h=>by
  have h:some t=some s:=h
  exact (Aw h).symm
 |a::Q,t,s,hQ,hn,hp,h=>by
  obtain ⟨o,ho,OS⟩:=hQ a (by simp)
  obtain ⟨_,hL,Yi⟩:=aQ (Γ:=Γ) (ops:=ops) OS
  obtain ⟨pa,xE⟩:=List.pairwise_cons.1 hp
  simp only [Bl,Kb,ho] at h
  rw [Yi t (hn a (by simp))] at h
  refine ⟨hn a (by simp),ub Q _ s (λc hc=>hQ c (Aq _ hc)) (λc hc=>?_) xE h⟩
  exact (hn c (Aq _ hc)).plus (Fo (pa c hc)) (λh=>pa c hc (hL.v1 _ h).symm) (by rw [hL.b1];simp)
end
end Go.Proofs.Ytfgfigkbgecfnaa
