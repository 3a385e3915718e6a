/-
  Part 30 of the proof that the statement FnExactLowerBounds holds.
-/
import Derived.Test.YtfolipnappekaaaGreatCLowerBounds28
namespace Go.Proofs.YtfolipnappekaaaGreat
open Go.RowKit
def Ev (d:Nat) (v:AV) (b:OB) (st:St):St:= {tmps:=Od st.tmps d v,heap:=Je st.heap d b}
def kv (d:Nat) (st:St):Bool:=(st.get d).refs.isEmpty&&((st.tmps.all λv=>!v.refs.contains d)&&st.heap.all λp=>!Nat.beq p.1 d&&!p.2.refs.contains d)
structure Ej (d:Nat) (st:St):Prop where
 own:(st.get d).refs= []
 tmps: ∀v∈st.tmps,d∉v.refs
 heap: ∀p∈st.heap,p.1≠d/\d∉p.2.refs
theorem oG {d:Nat} {st:St} (h:kv d st=true):Ej d st:=by
 unfold kv at h
 rw [Bool.and_eq_true,Bool.and_eq_true,List.all_eq_true,List.all_eq_true] at h
 obtain ⟨h0,h⟩:=h
 refine ⟨List.isEmpty_iff.1 h0,λv hv=>?_,λp hp=>?_⟩
 ·have:=h.1 v hv
  intro hd
  rw [List.contains_iff_mem.2 hd] at this
  cases this
 ·have:=h.2 p hp
  rw [Bool.and_eq_true] at this
  refine ⟨λe=>?_,λhd=>?_⟩
  ·have h1:=this.1
   rw [e,Nat.beq_refl] at h1
   cases h1
  ·have h1:=this.2
   rw [List.contains_iff_mem.2 hd] at h1
   cases h1
theorem IE {d:Nat} {st:St} (h:Ej d st):kv d st=true:=by
 unfold kv
 rw [Bool.and_eq_true,Bool.and_eq_true,List.all_eq_true,List.all_eq_true]
 refine ⟨by rw [h.own];rfl,λv hv=>?_,λp hp=>?_⟩
 ·rw [Bool.not_eq_true',<-Bool.not_eq_true,List.contains_iff_mem];exact h.tmps v hv
 ·rw [Bool.and_eq_true]
  refine ⟨?_,?_⟩
  ·rw [Bool.not_eq_true',<-Bool.not_eq_true]
   exact λe=>(h.heap p hp).1 (Nat.eq_of_beq_eq_true e)
  ·rw [Bool.not_eq_true',<-Bool.not_eq_true,List.contains_iff_mem];exact (h.heap p hp).2
structure nj (d:Nat) (v:AV) (b:OB):Prop where
 v1: ∀l,l∈v.refs->l=d
 b1:b.refs= []
 v2: ∀l,l≠d->v.map (Bc l)=v
 b2: ∀l,b.map (Bc l)=b
theorem Zk {α:Type} : ∀(xs:List α) (d t:Nat) (v x:α),d≠t->(Od xs d v).getD t x=xs.getD t x
 | [],_,_,_,_,_=>rfl
 |y::r,0,0,_,_,h=>absurd rfl h
 |y::r,0,t+1,_,_,_=>by simp [Od]
 |y::r,d+1,0,_,_,_=>by simp [Od]
 |y::r,d+1,t+1,v,x,h=>by simpa [Od] using Zk r d t v x (by omega)
theorem kP {α:Type} : ∀(xs:List α) (d e:Nat) (v w:α),d≠e->Od (Od xs d v) e w=Od (Od xs e w) d v
 | [],_,_,_,_,_=>rfl
 |y::r,0,0,_,_,h=>absurd rfl h
 |y::r,0,e+1,_,_,_=>rfl
 |y::r,d+1,0,_,_,_=>rfl
 |y::r,d+1,e+1,v,w,h=>by simp only [Od];rw [kP r d e v w (by omega)]
theorem sv: ∀(H:List (Nat×OB)) (d l:Nat) (b:OB),d≠l->Ad (Je H d b) l=Ad H l
 | [],d,l,b,h=>by simp [Je,Ad,h]
 |(k,c)::r,d,l,b,h=>by
  simp only [Je]
  split
  ·simp only [Ad];rw [if_neg h]
  ·simp only [Ad]
   split
   ·rfl
   ·exact sv r d l b h
theorem sD: ∀(H:List (Nat×OB)) (d e:Nat) (b c:OB),d≠e->Je (Je H d b) e c=Je (Je H e c) d b
 | [],d,e,b,c,h=>by
  simp only [Je]
  by_cases h1:e<d
  ·rw [if_pos h1,if_neg (by omega)]
  ·rw [if_neg h1,if_pos (by omega)]
 |(k,a)::r,d,e,b,c,h=>by
  simp only [Je]
  by_cases h1:d<k<;>by_cases h2:e<k
  ·rw [if_pos h1,if_pos h2]
   simp only [Je]
   by_cases h3:e<d
   ·rw [if_pos h3,if_neg (by omega),if_pos h1]
   ·rw [if_neg h3,if_pos h2,if_pos (by omega)]
  ·rw [if_pos h1,if_neg h2]
   simp only [Je]
   rw [if_neg (by omega),if_neg h2,if_pos h1]
  ·rw [if_neg h1,if_pos h2]
   simp only [Je]
   rw [if_pos h2,if_neg (by omega),if_neg h1]
  ·rw [if_neg h1,if_neg h2]
   simp only [Je]
   rw [if_neg h1,if_neg h2,sD r d e b c h]
theorem tm: ∀(H:List (Nat×OB)) (d l:Nat) (b c:OB),d≠l->Tq (Je H d b) l c=Je (Tq H l c) d b
 | [],d,l,b,c,h=>by simp [Je,Tq,h]
 |(k,a)::r,d,l,b,c,h=>by
  simp only [Je,Tq]
  by_cases h1:d<k<;>by_cases h2:k=l
  ·rw [if_pos h1,if_pos h2]
   simp only [Tq,Je]
   rw [if_neg h,if_pos h2,if_pos h1]
  ·rw [if_pos h1,if_neg h2]
   simp only [Tq,Je]
   rw [if_neg h,if_neg h2,if_pos h1]
  ·rw [if_neg h1,if_pos h2]
   simp only [Tq,Je]
   rw [if_pos h2,if_neg h1]
  ·rw [if_neg h1,if_neg h2]
   simp only [Tq,Je]
   rw [if_neg h2,if_neg h1,tm r d l b c h]
theorem lq {l:Nat} : ∀ {c:AC},l∉c.refs->Bc l c=c:=by
 intro c h
 cases c<;>simp only [Bc]<;>simp only [AC.refs,List.mem_singleton] at h
 case clo f Bv=>rw [if_neg (by simpa using h)]
 all_goals (first|rfl|rw [if_neg (Ne.symm h)])
theorem Uk {l:Nat} : ∀ {cs:List AC},l∉cs.flatMap AC.refs->cs.map (Bc l)=cs
 | [],_=>rfl
 |c::r,h=>by
  rw [List.flatMap_cons,List.mem_append] at h
  rw [List.map_cons,lq (λhh=>h (.inl hh)),Uk (λhh=>h (.inr hh))]
theorem xf {l:Nat} : ∀ {v:AV},l∉v.refs->v.map (Bc l)=v
 | .at a,h=>by simp only [AV.map];rw [lq h]
 | .agg cs,h=>by simp only [AV.map];rw [Uk h]
 | .Vl _ _ _,_=>rfl
 | .Ib ps,h=>by
  simp only [AV.map]
  congr 1
  simp only [AV.refs] at h
  induction ps with
  |nil=>rfl
  |cons p r ih=>
   rw [List.flatMap_cons,List.mem_append] at h
   rw [List.map_cons,Uk (λhh=>h (.inl hh)),ih (λhh=>h (.inr hh))]
theorem xg {l:Nat} : ∀ {b:OB},l∉b.refs->b.map (Bc l)=b
 | .arr _ _ _ _ _,_=>rfl
 | .Dc _ _ _,_=>rfl
 | .var _ vs,h=>by simp only [OB.map];rw [Uk h]
 | .Aj _ _ _ _ _,_=>rfl
 | .Pb _ _,_=>rfl
theorem x6 {l:Nat} : ∀ {H:List (Nat×OB)},(∀p∈H,p.1≠l)->Tw H l=H
 | [],_=>rfl
 |(k,b)::r,h=>by
  simp only [Tw]
  rw [if_neg (h (k,b) (by simp)),x6 λp hp=>h p (by simp [hp])]
theorem Ej.forget {l:Nat} {st:St} (h:Ej l st):st.forget l=st:=by
 have e1:st.tmps.map (λv=>v.map (Bc l))=st.tmps:=(List.map_congr_left λv hv=>xf (h.tmps v hv)).trans (List.map_id _)
 have e2:st.heap.map (λp=>(p.1,p.2.map (Bc l)))=st.heap:=(List.map_congr_left λp hp=>by rw [xg (h.heap p hp).2];rfl).trans (List.map_id _)
 unfold St.forget St.Gj
 simp only [e1,e2]
 rw [x6 λp hp=>(h.heap p hp).1]
theorem Ej.new {l:Nat} {st:St} (h:Ej l st) (b:OB) (v:AV):(st.new l b).put (some l) v=Ev l v b st:=by
 unfold St.new
 rw [h.forget]
 rfl
theorem oD {α:Type} : ∀ {xs:List α} {d:Nat} {v x:α},x∈Od xs d v->x∈xs\/x=v
 | [],_,_,_,h=>by cases h
 |y::r,0,v,x,h=>by
  rcases List.mem_cons.1 h with h|h
  ·exact .inr h
  ·exact .inl (List.mem_cons_of_mem _ h)
 |y::r,d+1,v,x,h=>by
  rcases List.mem_cons.1 h with h|h
  ·exact .inl (by rw [h];simp)
  ·exact (oD h).imp (List.mem_cons_of_mem _) id
theorem yc: ∀ {H:List (Nat×OB)} {d:Nat} {b:OB} {p:Nat×OB},p∈Je H d b->p∈H\/p=(d,b)
 | [],d,b,p,h=> .inr (by simpa [Je] using h)
 |(k,c)::r,d,b,p,h=>by
  simp only [Je] at h
  split at h
  ·rcases List.mem_cons.1 h with h|h
   ·exact .inr h
   ·exact .inl h
  ·rcases List.mem_cons.1 h with h|h
   ·exact .inl (by rw [h];simp)
   ·exact (yc h).imp (List.mem_cons_of_mem _) id
theorem RR {d:Nat} {v:AV} {b:OB} {st:St} {x:Operand} (h:x≠ .tmp d):(Ev d v b st).ev x=st.ev x:=by
 cases x with
 |tmp t=>exact Zk _ _ _ _ _ (λe=>h (by rw [e]))
 |_=>rfl
theorem EX {d l:Nat} {v:AV} {b:OB} {st:St} (h:d≠l):(Ev d v b st).at l=st.at l:=sv _ _ _ _ h
theorem LV {d e:Nat} {v u:AV} {b:OB} {st:St} (h:d≠e):(Ev d v b st).put (some e) u=Ev d v b (st.put (some e) u):=by
 unfold Ev St.put
 simp only
 rw [kP _ _ _ _ _ h]
theorem GR {d l:Nat} {v:AV} {b c:OB} {st:St} (h:d≠l):(Ev d v b st).Fo l c=Ev d v b (st.Fo l c):=by
 unfold Ev St.Fo
 simp only
 rw [tm _ _ _ _ _ h]
theorem rY {d e:Nat} {v u:AV} {b c:OB} {st:St} (h:d≠e):Ev e u c (Ev d v b st)=Ev d v b (Ev e u c st):=by
 unfold Ev
 rw [kP _ _ _ _ _ h,sD _ _ _ _ _ h]
theorem Ej.put {d:Nat} {st:St} {e:Nat} {u:AV} (h:Ej d st) (hde:e≠d) (hu:d∉u.refs):Ej d (st.put (some e) u):=
 ⟨by show (List.getD (Od st.tmps e u) d .undef).refs= [];rw [Zk _ _ _ _ _ hde];exact h.own,λv hv=>(oD hv).elim (h.tmps v) λe=>by rw [e];exact hu,h.heap⟩
theorem Ej.plus {d e:Nat} {u:AV} {c:OB} {st:St} (h:Ej d st) (hde:d≠e) (hu:d∉u.refs) (hc:d∉c.refs):Ej d (Ev e u c st):=
 ⟨by show (List.getD (Od st.tmps e u) d .undef).refs= [];rw [Zk _ _ _ _ _ (Ne.symm hde)];exact h.own,λv hv=>(oD hv).elim (h.tmps v) λe=>by rw [e];exact hu,λp hp=>(yc hp).elim (h.heap p) λe'=>by rw [e'];exact ⟨Ne.symm hde,hc⟩⟩
theorem Ej.ZW {d e:Nat} {u:AV} {c:OB} {st:St} (h:Ej d (Ev e u c st)): ∀p∈st.heap,p.1≠d/\d∉p.2.refs:= λp hp=>h.heap p (by
 show p∈Je st.heap e c
 generalize st.heap=H at hp
 induction H with
 |nil=>cases hp
 |cons q r ih=>
  obtain ⟨k,a⟩:=q
  simp only [Je]
  split
  ·exact List.mem_cons_of_mem _ hp
  ·rcases List.mem_cons.1 hp with hp|hp
   ·rw [hp];simp
   ·exact List.mem_cons_of_mem _ (ih hp))
theorem mL {st st':St} : ∀(τ:Ty) (cs:List AC),cs.all (·.settled)=true->Cq st' τ cs=Cq st τ cs:=by
 intro τ
 induction τ with
 |unit=>intro cs _;cases cs<;>rfl
 |pair a r hJ er=>
  intro cs h
  simp only [Cq]
  rw [List.all_eq_true] at h
  rw [hJ _ (List.all_eq_true.2 λc hc=>h c (List.mem_of_mem_take hc)),er _ (List.all_eq_true.2 λc hc=>h c (List.mem_of_mem_drop hc))]
 |_=>
  intro cs h
  rcases cs with _|⟨c,_|⟨c',cs⟩⟩
  ·rfl
  ·simp only [List.all_cons,List.all_nil,Bool.and_true] at h
   simp only [Cq]
   exact Uu h
  ·rfl
theorem bu {st st':St} {τ:Ty} {v:AV} (h:v.settled=true):Ct st' τ v=Ct st τ v:=by
 cases v with
 | «at»a=>
  have ha:a.settled=true:=h
  cases a<;>simp only [AC.settled,Bool.false_eq_true] at ha
  all_goals
   simp only [Ct]
   rw [Kt rfl,Kt rfl]
   rw [Uu (st:=st) (st':=st') rfl]
 |agg cs=>simp only [Ct];rw [mL _ _ h]
 |Vl _ _ _=>rfl
 |Ib _=>rfl
theorem dU {st st':St} : ∀(τ:Ty) (vs:List AV),vs.all (·.settled)=true->Bq st' τ vs=Bq st τ vs
 | .pair a r,v::vs,h=>by
  rw [List.all_cons,Bool.and_eq_true] at h
  simp only [Bq]
  rw [bu (st:=st) (st':=st') h.1,dU r vs h.2]
 | .pair _ _,[],_=>rfl
 | .unit,[],_=>rfl
 | .unit,_::_,_=>rfl
 | .int _,vs,_=>by cases vs<;>rfl
 | .bool,vs,_=>by cases vs<;>rfl
 | .str,vs,_=>by cases vs<;>rfl
 | .slice _,vs,_=>by cases vs<;>rfl
 | .oslice _,vs,_=>by cases vs<;>rfl
 | .ptr _,vs,_=>by cases vs<;>rfl
 | .optr _,vs,_=>by cases vs<;>rfl
 | .smap _,vs,_=>by cases vs<;>rfl
 | .clo _ _,vs,_=>by cases vs<;>rfl
def Pu:AV->Bool
 | .at (.data _ _ _)=>true
 |_=>false
def dS (o:Oper):List Operand:=match o.op with
 | .move x=> [x]
 | .load _ x=> [x]
 | .call {callee:= .value (.func _),args, .. } =>args.toList
 | .insert _ m k x=> [m,k,x]
 | .buildSlice _ _ parts=>parts.toList.map (·.2)
 |_=> []
def di (d:Nat):Operand->Bool
 | .tmp t=>!Nat.beq t d
 |_=>true
theorem IF {d:Nat} {x:Operand} (h:di d x=true):x≠ .tmp d:= λe=>by
 subst e
 simp [di] at h
def Px (Γ:Env) (st:St) (o:Oper):Bool:=match o.guard with
 |some _=>false
 |none=>match o.op with
  | .move _=>true
  | .load _ x=>(match st.ev x with
   | .at (.Dv _ _)=>true
   |_=>false)
  | .call {callee:= .value (.func f),args, .. } =>(match Γ f with
   |some (.q _)=>true
   |_=>false)&&args.toList.all λx=>(st.ev x).settled
  | .insert _ m k x=>(match st.ev m with
   | .at (.Ga _)=>true
   |_=>false)&&Pu (st.ev k)&&(st.ev x).settled
  | .buildSlice _ _ parts=>(parts.toList.all λp=>Pu (st.ev p.2))&&(match o.dst with
   |some e=>kv e st
   |none=>false)
  |_=>false
theorem Ej.ev {d:Nat} {st:St} (h:Ej d st) (x:Operand):d∉(st.ev x).refs:=by
 cases x with
 |tmp t=>
  simp only [St.ev,St.get]
  rw [List.getD_eq_getElem?_getD]
  by_cases hl:t<st.tmps.length
  ·rw [List.getElem?_eq_getElem hl];exact h.tmps _ (List.getElem_mem hl)
  ·rw [List.getElem?_eq_none (Nat.le_of_not_lt hl)];simp [AV.refs,AC.refs]
 |const c=>
  simp only [St.ev]
  unfold iq
  split<;>simp [AV.refs,AC.refs]
 |func f=>simp [St.ev,AV.refs,AC.refs]
 |_=>simp [St.ev,AV.refs,AC.refs]
theorem xx: ∀ {H:List (Nat×OB)} {l:Nat} {b:OB},Ad H l=some b->(l,b)∈H
 |(k,c)::r,l,b,h=>by
  simp only [Ad] at h
  split at h
  ·rename_i e;subst e;cases h;simp
  ·exact List.mem_cons_of_mem _ (xx h)
section
variable {T:Tab} {Γ:Env} {ops:Array Oper} {d:Nat} {v:AV} {b:OB} {t:St}
theorem sW {e:Option Tmp} (h:e≠some d) (hn:Ej d t) {y:AV} (hy:d∉y.refs):(Ev d v b t).put e y=Ev d v b (t.put e y)/\Ej d (t.put e y):=by
 cases e with
 |none=>exact ⟨rfl,hn⟩
 |some k=>exact ⟨LV (λe=>h (by rw [e])),hn.put (λe=>h (by rw [e])) hy⟩
theorem dv {o:Oper} (hg:o.guard=none) (Zn:o.dst≠some d) (hn:Ej d t) {q:Option AV} (h1:evalOp T Γ (Ev d v b t) o=q.map λy=>(y,Ev d v b t)) (h2:evalOp T Γ t o=q.map λy=>(y,t)) (hq: ∀y,q=some y->d∉y.refs) {s':St}
  (he:Cj T Γ ops (Ev d v b t) o=some s'): ∃t',Cj T Γ ops t o=some t'/\s'=Ev d v b t'/\Ej d t':=by
 unfold Cj at he⊢
 rw [hg] at he⊢
 simp only at he⊢
 rw [h1] at he
 cases q with
 |none=>cases he
 |some y=>
  obtain ⟨p1,p2⟩:=sW (v:=v) (b:=b) Zn hn (hq y rfl)
  refine ⟨_,by rw [h2];rfl,?_,p2⟩
  simp only [Option.map_some,Option.some.injEq] at he
  rw [<-he,p1]
theorem Sn {l:List Operand} (hu:l.all (di d)=true): ∀x∈l,(Ev d v b t).ev x=t.ev x:= λx hx=>RR (IF (List.all_eq_true.1 hu x hx))
theorem BQ {dst:Option Tmp} {x:Operand} {ty:TypeId} {pos:String} {after:Array Edge} (hn:Ej d t) (hx:(Ev d v b t).ev x=t.ev x) (Zn:dst≠some d) {s':St}
  (he:Cj T Γ ops (Ev d v b t) {dst:=dst,op:= .move x,type:=ty,pos:=pos,after:=after,guard:=none} =some s'):
  ∃t',Cj T Γ ops t {dst:=dst,op:= .move x,type:=ty,pos:=pos,after:=after,guard:=none} =some t'/\s'=Ev d v b t'/\Ej d t':=
 dv rfl Zn hn (q:=some (t.ev x)) (by simp only [evalOp,Ci,hx]) (by simp only [evalOp,Ci]) (λy hy=>by cases hy;exact hn.ev x) he
def loadVar (T:Tab) (o:Option OB) (t0:TypeId) (i:Nat):Option AV:=match T.ty t0 with
 |some τ=>(match o with
  |some (.var _ vs)=>if τ.Ab then (if i+τ.size<=vs.length then some (.agg ((vs.drop i).take τ.size)) else none) else vs[i]?.map .at
  |_=>none)
 |none=>none
theorem fe {st:St} {t0:TypeId} {l i:Nat} :Kp T st t0 (.at (.Dv l i))=loadVar T (st.at l) t0 i:=by
 unfold Kp loadVar
 cases T.ty t0<;>rfl
theorem BM {dst:Option Tmp} {t0:TypeId} {x:Operand} {ty:TypeId} {pos:String} {after:Array Edge} (hn:Ej d t) (hx:(Ev d v b t).ev x=t.ev x) (Zn:dst≠some d) {l i:Nat} (hp:t.ev x= .at (.Dv l i)) {s':St}
  (he:Cj T Γ ops (Ev d v b t) {dst:=dst,op:= .load t0 x,type:=ty,pos:=pos,after:=after,guard:=none} =some s'):
  ∃t',Cj T Γ ops t {dst:=dst,op:= .load t0 x,type:=ty,pos:=pos,after:=after,guard:=none} =some t'/\s'=Ev d v b t'/\Ej d t':=by
 have hld:d≠l:= λe=>by
  have:=hn.ev x
  rw [hp,e] at this
  exact this (by simp [AV.refs,AC.refs])
 refine dv rfl Zn hn (q:=loadVar T (t.at l) t0 i) ?_ ?_ (λy hy=>?_) he
 ·simp only [evalOp,Ci,hx,hp]
  rw [fe,EX hld]
 ·simp only [evalOp,Ci,hp]
  rw [fe]
 ·unfold loadVar at hy
  split at hy
  ·split at hy
   ·rename_i vs hb
    have hr:d∉vs.flatMap AC.refs:=(hn.heap _ (xx hb)).2
    have al: ∀c∈vs,d∉c.refs:= λc hc hd=>hr (List.mem_flatMap.2 ⟨c,hc,hd⟩)
    split at hy
    ·split at hy
     ·cases hy
      intro hd
      obtain ⟨c,hc,hd⟩:=List.mem_flatMap.1 hd
      exact al c (List.mem_of_mem_drop (List.mem_of_mem_take hc)) hd
     ·cases hy
    ·cases hv:vs[i]? with
     |none=>rw [hv] at hy;cases hy
     |some c=>
      rw [hv] at hy
      cases hy
      exact al c (List.mem_of_getElem? hv)
   ·cases hy
  ·cases hy
theorem GV {l:List Operand} (hu:l.all (di d)=true):l.map (Ev d v b t).ev=l.map t.ev:=List.map_congr_left λx hx=>Sn hu x hx
theorem zW {dst:Option Tmp} {f:FuncId} {args:Array Operand} {tys:Array TypeId} {ty:TypeId} {pos:String} {after:Array Edge} {sp:Spec} (Mq:Γ f=some (.q sp)) (hn:Ej d t) (hx:args.toList.map (Ev d v b t).ev=args.toList.map t.ev) (Zn:dst≠some d)
  (hs:(args.toList.map t.ev).all (·.settled)=true) {s':St} (he:Cj T Γ ops (Ev d v b t) {dst:=dst,op:= .call {callee:= .value (.func f),args:=args,argTypes:=tys},type:=ty,pos:=pos,after:=after,guard:=none} =some s'):
  ∃t',Cj T Γ ops t {dst:=dst,op:= .call {callee:= .value (.func f),args:=args,argTypes:=tys},type:=ty,pos:=pos,after:=after,guard:=none} =some t'/\s'=Ev d v b t'/\Ej d t':=by
 have FR:aT sp (args.toList.map t.ev)=false:=by unfold aT;rw [hs];simp
 have AM: ∀st:St,Jm Γ st f (args.toList.map t.ev)=(match Bq t sp.arg (args.toList.map t.ev) with
   |none=>none
   |some (_,x)=>(sp.fn x).map λy=>if sp.Dn then .Vl (sp.fresh||sp.res.flat) sp.res y else .at (.data (sp.fresh||sp.res.flat) sp.res y)):= λst=>by
  unfold Jm
  rw [Mq]
  simp only
  rw [hs,dU (st:=t) _ _ hs]
  simp only [Bool.or_true,if_true]
  cases Bq t sp.arg (args.toList.map t.ev)<;>rfl
 refine dv rfl Zn hn (q:=Jm Γ t f (args.toList.map t.ev)) ?_ ?_ (λy hy=>?_) he
 ·simp only [evalOp,Ci,Mq,hx,FR]
  rw [AM,AM t]
  simp
 ·simp only [evalOp,Ci,Mq,FR]
  simp
 ·rw [AM t] at hy
  split at hy
  ·cases hy
  ·rename_i x _
   cases hf:sp.fn x with
   |none=>rw [hf] at hy;cases hy
   |some z=>
    rw [hf] at hy
    simp only [Option.map_some,Option.some.injEq] at hy
    rw [<-hy]
    split<;>simp [AV.refs,AC.refs]
def j4 (T:Tab) (o:Option OB) (t0:TypeId) (s:ByteArray) (vw:(v:Ty)->Option (Bool×v.den)):Option OB:=match T.mapOf t0 with
 |some v=>(match o,vw v with
  |some (.Pb v' f),some (_,y)=>if h:v'=v/\v.flat=true/\v.Ab=false then some (.Pb v (dQ (h.1▸f:ByteArray->Option v.den) s y)) else none
  |_,_=>none)
 |none=>none
theorem ff {st:St} {t0:TypeId} {l:Nat} {fr:Bool} {s:ByteArray} {x:AV} :Eu T st t0 (.at (.Ga l)) (.at (.data fr .str s)) x=(j4 T (st.at l) t0 s λv=>Ct st v x).map λc=>st.Fo l c:=by
 unfold Eu j4
 cases T.mapOf t0 with
 |none=>rfl
 |some v0=>
  simp only
  cases st.at l with
  |none=>rfl
  |some c=>
   cases c with
   |Pb v' f=>
    cases Ct st v0 x with
    |none=>rfl
    |some p=>
     simp only
     split<;>rfl
   |_=>rfl
theorem ya {o:Option OB} {t0:TypeId} {s:ByteArray} {vw:(v:Ty)->Option (Bool×v.den)} {c:OB} (h:j4 T o t0 s vw=some c):c.refs= []:=by
 unfold j4 at h
 split at h
 ·split at h
  ·split at h
   ·cases h;rfl
   ·cases h
  ·cases h
 ·cases h
theorem nS {st:St} {t0:TypeId} {m k x:AV} {s':St} (h:Eu T st t0 m k x=some s'): ∃l fr s,m= .at (.Ga l)/\k= .at (.data fr .str s):=by
 unfold Eu at h
 split at h
 ·exact ⟨_,_,_,rfl,rfl⟩
 ·cases h
theorem yd: ∀ {H:List (Nat×OB)} {l:Nat} {c:OB} {p:Nat×OB},p∈Tq H l c->p∈H\/(p.2=c/\p.1=l/\ ∃c',(l,c')∈H)
 |(k,a)::r,l,c,p,h=>by
  simp only [Tq] at h
  split at h
  ·rename_i e
   rcases List.mem_cons.1 h with h|h
   ·subst h;exact .inr ⟨rfl,e,a,by rw [e];simp⟩
   ·exact .inl (List.mem_cons_of_mem _ h)
  ·rcases List.mem_cons.1 h with h|h
   ·exact .inl (by rw [h];simp)
   ·exact (yd h).imp (List.mem_cons_of_mem _) λ⟨h1,h2,c',h3⟩=>⟨h1,h2,c',List.mem_cons_of_mem _ h3⟩
theorem Ej.Fo {st:St} {l:Nat} {c:OB} (h:Ej d st) (hc:d∉c.refs):Ej d (st.Fo l c):=
 ⟨h.own,h.tmps,λp hp=>(yd hp).elim (h.heap p) λ⟨h1,h2,c',h3⟩=>⟨by rw [h2];exact (h.heap _ h3).1,by rw [h1];exact hc⟩⟩
theorem um {dst:Option Tmp} {t0:TypeId} {m k x:Operand} {ty:TypeId} {pos:String} {after:Array Edge} (hn:Ej d t) (hm:(Ev d v b t).ev m=t.ev m) (hk:(Ev d v b t).ev k=t.ev k) (hx:(Ev d v b t).ev x=t.ev x) (Zn:dst≠some d)
  (hs:(t.ev x).settled=true) {s':St} (he:Cj T Γ ops (Ev d v b t) {dst:=dst,op:= .insert t0 m k x,type:=ty,pos:=pos,after:=after,guard:=none} =some s'):
  ∃t',Cj T Γ ops t {dst:=dst,op:= .insert t0 m k x,type:=ty,pos:=pos,after:=after,guard:=none} =some t'/\s'=Ev d v b t'/\Ej d t':=by
 unfold Cj at he⊢
 simp only [evalOp,hm,hk,hx] at he⊢
 cases FP:Eu T (Ev d v b t) t0 (t.ev m) (t.ev k) (t.ev x) with
 |none=>rw [FP] at he;cases he
 |some s1=>
  rw [FP] at he
  simp only [Option.map_some,Option.some.injEq] at he
  obtain ⟨l,fr,s,e1,e2⟩:=nS FP
  have hld:d≠l:= λe=>by
   have:=hn.ev m
   rw [e1,e] at this
   exact this (by simp [AV.refs,AC.refs])
  rw [e1,e2,ff,EX hld] at FP
  have hvw:(λv0=>Ct (Ev d v b t) v0 (t.ev x))= λv0=>Ct t v0 (t.ev x):=funext λv0=>bu hs
  rw [hvw] at FP
  rw [e1,e2,ff]
  cases ho:j4 T (t.at l) t0 s λv0=>Ct t v0 (t.ev x) with
  |none=>rw [ho] at FP;cases FP
  |some c=>
   rw [ho] at FP
   simp only [Option.map_some,Option.some.injEq] at FP
   have hc:=ya ho
   have mW:Ej d (t.Fo l c):=hn.Fo (by rw [hc];simp)
   obtain ⟨p1,p2⟩:=sW (v:=v) (b:=b) (y:= .undef) Zn mW (by simp [AV.refs,AC.refs])
   refine ⟨_,rfl,?_,p2⟩
   rw [<-he,<-FP,GR hld,p1]
theorem Ej.back {e:Nat} (h:Ej e (Ev d v b t)) (hde:e≠d) (hn:Ej d t):Ej e t:=by
 have hg: ∀k,k≠d->(Ev d v b t).get k=t.get k:= λk hk=>Zk _ _ _ _ _ (Ne.symm hk)
 refine ⟨by rw [<-hg e hde];exact h.own,λu hu hd=>?_,h.ZW⟩
 obtain ⟨k,hk,rfl⟩:=List.mem_iff_getElem.1 hu
 have e1:t.get k=t.tmps[k]:=by unfold St.get;rw [List.getD_eq_getElem?_getD,List.getElem?_eq_getElem hk];rfl
 by_cases VN:k=d
 ·subst VN
  have:=hn.own
  rw [e1] at this
  rw [this] at hd
  cases hd
 ·have h1:=h.ev (.tmp k)
  have h2:(Ev d v b t).ev (.tmp k)=t.tmps[k]:=by show (Ev d v b t).get k=_;rw [hg k VN,e1]
  rw [h2] at h1
  exact h1 hd
def gK (e:Ty):Nat->List (Nat×AV)->Option (Bool×Bool×List e.den)
 |_,[]=>some (true,true,[])
 |i,(j,x)::r=>if i=j then match Ct ⟨[],[]⟩ e x with
  |some (fr,y)=>match gK e (i+1) r with
   |some (Pk,QI,ys)=>some (fr&&Pk,Nd ⟨[],[]⟩ x&&e.tree&&QI,y::ys)
   |none=>none
  |none=>none
  else none
theorem Za {st:St} {e:Ty} : ∀(l:List (Nat×Operand)) (i:Nat),(l.all λp=>Pu (st.ev p.2))=true->Gs e i l st=(gK e i (l.map λp=>(p.1,st.ev p.2))).map λp=>(p.1,p.2.1,p.2.2,st)
 | [],i,_=>rfl
 |(j,x)::r,i,h=>by
  rw [List.all_cons,Bool.and_eq_true] at h
  have hx:Pu (st.ev x)=true:=h.1
  simp only [Gs,gK,List.map_cons]
  split
  ·generalize hxv:st.ev x=xv at hx
   unfold Pu at hx
   split at hx
   ·rename_i fr τ z
    have ZB:settle st (.at (.data fr τ z))=some (.at (.data fr τ z),st):=rfl
    rw [ZB]
    simp only
    rw [bu (st:=⟨[],[]⟩) (st':=st) (v:= .at (.data fr τ z)) rfl]
    cases Ct ⟨[],[]⟩ e (.at (.data fr τ z)) with
    |none=>rfl
    |some p=>
     simp only
     rw [Za r (i+1) h.2]
     cases gK e (i+1) (r.map λp=>(p.1,st.ev p.2)) with
     |none=>rfl
     |some q=>rfl
   ·cases hx
  ·rfl
def rowOf (T:Tab) (t0:TypeId) (len:Nat) (parts:List (Nat×AV)) (dst:Nat):Option (AV×OB):=match Zl T t0 with
 |some _=>none
 |none=>match T.elem t0 with
  |none=>none
  |some te=>match T.ty te with
   |none=>none
   |some e=>if parts.length=len/\len<=64/\e.size<=64/\dst<Ak then (gK e 0 parts).map λp=>(.at (.own dst 0 len), .arr ((T.nX||e.flat)&&p.1) (T.vY&&p.2.1) e te p.2.2) else none
theorem ct {st:St} {t0:TypeId} {len dst:Nat} {parts:Array (Nat×Operand)} (h:(parts.toList.all λp=>Pu (st.ev p.2))=true):
  Er T st dst t0 len parts=(rowOf T t0 len (parts.toList.map λp=>(p.1,st.ev p.2)) dst).map λr=>(r.1,st.new dst r.2):=by
 unfold Er rowOf
 cases Zl T t0 with
 |some p=>
  obtain ⟨te,e⟩:=p
  simp only [Option.map_none]
  split
  ·rename_i x hp
   rw [hp,List.all_cons,Bool.and_eq_true] at h
   have hx:Pu (st.ev x)=true:=h.1
   unfold Pu at hx
   split at hx
   ·rename_i hv;simp only [hv]
   ·cases hx
  ·rfl
 |none=>
  simp only
  unfold Hs
  cases T.elem t0 with
  |none=>rfl
  |some te=>
   simp only
   cases T.ty te with
   |none=>rfl
   |some e=>
    simp only [List.length_map,Array.length_toList]
    split
    ·rw [Za _ 0 h]
     cases gK e 0 (parts.toList.map λp=>(p.1,st.ev p.2))<;>rfl
    ·rfl
theorem lP {t0:TypeId} {len dst:Nat} {parts:List (Nat×AV)} {r:AV×OB} (h:rowOf T t0 len parts dst=some r):nj dst r.1 r.2:=by
 unfold rowOf at h
 split at h
 ·cases h
 ·split at h
  ·cases h
  ·split at h
   ·cases h
   ·split at h
    ·rename_i e _ _
     cases hp:gK e 0 parts with
     |none=>rw [hp] at h;cases h
     |some p=>
      rw [hp] at h
      simp only [Option.map_some,Option.some.injEq] at h
      subst h
      exact ⟨λl hl=>by simpa [AV.refs,AC.refs] using hl,rfl,λl hl=>by simp only [AV.map,Bc];rw [if_neg (Ne.symm hl)],λl=>rfl⟩
    ·cases h
theorem wV {e:Nat} {t0:TypeId} {len:Nat} {parts:Array (Nat×Operand)} {ty:TypeId} {pos:String} {after:Array Edge} (_hl:nj d v b) (hn:Ej d t) (hx: ∀p∈parts.toList,(Ev d v b t).ev p.2=t.ev p.2) (Zn:e≠d)
  (hp:(parts.toList.all λp=>Pu (t.ev p.2))=true) (Fa:Ej e (Ev d v b t)) {s':St} (he:Cj T Γ ops (Ev d v b t) {dst:=some e,op:= .buildSlice t0 len parts,type:=ty,pos:=pos,after:=after,guard:=none} =some s'):
  ∃t',Cj T Γ ops t {dst:=some e,op:= .buildSlice t0 len parts,type:=ty,pos:=pos,after:=after,guard:=none} =some t'/\s'=Ev d v b t'/\Ej d t':=by
 have YO:=Fa.back Zn hn
 have iM:(parts.toList.all λp=>Pu ((Ev d v b t).ev p.2))=true:=List.all_eq_true.2 λp uh=>by rw [hx p uh];exact List.all_eq_true.1 hp p uh
 have hm:(parts.toList.map λp=>(p.1,(Ev d v b t).ev p.2))=parts.toList.map λp=>(p.1,t.ev p.2):=List.map_congr_left λp uh=>by rw [hx p uh]
 unfold Cj at he⊢
 simp only [evalOp] at he⊢
 rw [ct iM,hm] at he
 rw [ct hp]
 cases hr:rowOf T t0 len (parts.toList.map λp=>(p.1,t.ev p.2)) e with
 |none=>rw [hr] at he;cases he
 |some r=>
  rw [hr] at he
  have hL:=lP hr
  simp only [Option.map_some,Option.some.injEq] at he
  rw [Fa.new] at he
  refine ⟨Ev e r.1 r.2 t,by simp only [Option.map_some];rw [YO.new],?_,hn.plus (Ne.symm Zn) (λh=>Zn (hL.v1 _ h).symm) (by rw [hL.b1];simp)⟩
  rw [<-he,rY (Ne.symm Zn)]
def XG:Operand->AV
 | .const c=>iq c
 |_=> .undef
theorem XH {st:St} {x:Operand} (h:Pu (XG x)=true):st.ev x=XG x:=by
 cases x<;>first|rfl|cases h
def az (T:Tab) (o:Oper):Option (Nat×AV×OB):=match o.guard with
 |some _=>none
 |none=>match o.dst with
  |none=>none
  |some d=>match o.op with
   | .buildSlice t0 len parts=>if (parts.toList.all λp=>Pu (XG p.2))=true then (rowOf T t0 len (parts.toList.map λp=>(p.1,XG p.2)) d).map λr=>(d,r.1,r.2) else none
   | .makeMap t0 none=>match T.mapOf t0 with
    |some τ=>if d<Ak then some (d, .at (.Ga d), .Pb τ λ_=>none) else none
    |none=>none
   |_=>none
theorem aA {o:Oper} {r:Nat×AV×OB} (h:az T o=some r):o.dst=some r.1/\nj r.1 r.2.1 r.2.2/\ ∀st:St,Ej r.1 st->Cj T Γ ops st o=some (Ev r.1 r.2.1 r.2.2 st):=by
 obtain ⟨dst,op,ty,pos,after,guard⟩:=o
 unfold az at h
 cases guard with
 |some g=>cases h
 |none=>
  cases dst with
  |none=>cases h
  |some d=>
   cases op with
   |buildSlice t0 len parts=>
    simp only at h
    split at h
    ·rename_i hp
     cases hr:rowOf T t0 len (parts.toList.map λp=>(p.1,XG p.2)) d with
     |none=>rw [hr] at h;cases h
     |some q=>
      rw [hr] at h
      simp only [Option.map_some,Option.some.injEq] at h
      subst h
      refine ⟨rfl,lP hr,λst Tx=>?_⟩
      have AM: ∀p∈parts.toList,st.ev p.2=XG p.2:= λp uh=>XH (List.all_eq_true.1 hp p uh)
      have hm:(parts.toList.map λp=>(p.1,st.ev p.2))=parts.toList.map λp=>(p.1,XG p.2):=List.map_congr_left λp uh=>by rw [AM p uh]
      have iM:(parts.toList.all λp=>Pu (st.ev p.2))=true:=List.all_eq_true.2 λp uh=>by rw [AM p uh];exact List.all_eq_true.1 hp p uh
      unfold Cj
      simp only [evalOp]
      rw [ct iM,hm,hr]
      simp only [Option.map_some]
      rw [Tx.new]
    ·cases h
   |makeMap t0 hint=>
    cases hint with
    |some x=>cases h
    |none=>
     simp only at h
     split at h
     ·rename_i τ Nk
      split at h
      ·rename_i hd
       cases h
       refine ⟨rfl,⟨λl hl=>by simpa [AV.refs,AC.refs] using hl,rfl,λl hl=>by simp only [AV.map,Bc];rw [if_neg (Ne.symm hl)],λl=>rfl⟩,λst Tx=>?_⟩
       unfold Cj
       simp only [evalOp,Oh,Nk,if_pos hd,Option.map_some]
       rw [Tx.new]
      ·cases h
     ·cases h
   |_=>cases h
theorem vz {l:List Operand} (h: ∀x∈l,(Ev d v b t).ev x=t.ev x):(l.all λx=>((Ev d v b t).ev x).settled)=(l.map t.ev).all (·.settled):=by
 rw [List.all_map]
 induction l with
 |nil=>rfl
 |cons x r ih=>
  simp only [List.all_cons,Function.comp]
  rw [h x (by simp),ih λy hy=>h y (by simp [hy])]
theorem vA {o:Oper} (hl:nj d v b) (hn:Ej d t) (hs:Px Γ (Ev d v b t) o=true) (hu:(dS o).all (di d)=true) (Zn:o.dst≠some d) {s':St} (he:Cj T Γ ops (Ev d v b t) o=some s'):
  ∃t',Cj T Γ ops t o=some t'/\s'=Ev d v b t'/\Ej d t'/\Px Γ t o=true:=by
 obtain ⟨dst,op,ty,pos,after,guard⟩:=o
 unfold Px at hs
 cases guard with
 |some g=>cases hs
 |none=>
  simp only at hs
  split at hs
  ·rename_i x
   have hx:=Sn (v:=v) (b:=b) (t:=t) hu x (by simp [dS])
   obtain ⟨t',h1,h2,h3⟩:=BQ hn hx Zn he
   exact ⟨t',h1,h2,h3,rfl⟩
  ·rename_i t0 x
   have hx:=Sn (v:=v) (b:=b) (t:=t) hu x (by simp [dS])
   rw [hx] at hs
   split at hs
   ·rename_i l i hp
    obtain ⟨t',h1,h2,h3⟩:=BM hn hx Zn hp he
    exact ⟨t',h1,h2,h3,by simp only [Px,hp]⟩
   ·cases hs
  ·rename_i f args tys
   rw [Bool.and_eq_true] at hs
   obtain ⟨gZ,qd⟩:=hs
   split at gZ
   ·rename_i sp Mq
    have AM:=Sn (v:=v) (b:=b) (t:=t) (l:=args.toList) hu
    rw [vz AM] at qd
    obtain ⟨t',h1,h2,h3⟩:=zW Mq hn (GV hu) Zn qd he
    refine ⟨t',h1,h2,h3,?_⟩
    simp only [Px,Mq,Bool.true_and]
    rw [List.all_map] at qd
    exact qd
   ·cases gZ
  ·rename_i t0 m k x
   have hm:=Sn (v:=v) (b:=b) (t:=t) hu m (by simp [dS])
   have hk:=Sn (v:=v) (b:=b) (t:=t) hu k (by simp [dS])
   have hx:=Sn (v:=v) (b:=b) (t:=t) hu x (by simp [dS])
   rw [hm,hk,hx] at hs
   have YZ:=hs
   rw [Bool.and_eq_true] at hs
   obtain ⟨t',h1,h2,h3⟩:=um hn hm hk hx Zn hs.2 he
   exact ⟨t',h1,h2,h3,YZ⟩
  ·rename_i t0 len parts
   rw [Bool.and_eq_true] at hs
   obtain ⟨gZ,qd⟩:=hs
   cases dst with
   |none=>cases qd
   |some e=>
    simp only at qd
    have hed:e≠d:= λh=>Zn (by rw [h])
    have cb:(parts.toList.map (λp=>p.2)).all (di d)=true:=hu
    have AM:=Sn (v:=v) (b:=b) (t:=t) cb
    have hx: ∀p∈parts.toList,(Ev d v b t).ev p.2=t.ev p.2:= λp hp=>AM p.2 (List.mem_map.2 ⟨p,hp,rfl⟩)
    have hp:(parts.toList.all λp=>Pu (t.ev p.2))=true:=List.all_eq_true.2 λp hp=>by rw [<-hx p hp];exact List.all_eq_true.1 gZ p hp
    have Fa:=oG qd
    obtain ⟨t',h1,h2,h3⟩:=wV hl hn hx hed hp Fa he
    refine ⟨t',h1,h2,h3,?_⟩
    simp only [Px,hp,Bool.true_and]
    exact IE (Fa.back hed hn)
  ·cases hs
def tB:List (Nat×AV×OB)->St->St->Prop
 | [],s,t=>s=t
 |q::Q,s,t=>Ej q.1 t/\tB Q s (Ev q.1 q.2.1 q.2.2 t)
theorem sS {o:Oper} : ∀(Q:List (Nat×AV×OB)) (s t s':St),tB Q s t->(∀q∈Q,nj q.1 q.2.1 q.2.2/\(dS o).all (di q.1)=true/\o.dst≠some q.1)->Px Γ s o=true->Cj T Γ ops s o=some s'->
  ∃t',Cj T Γ ops t o=some t'/\tB Q s' t'/\Px Γ t o=true
 | [],s,t,s',h,_,hs,he=>by
  have h:s=t:=h
  subst h
  exact ⟨s',he,rfl,hs⟩
 |q::Q,s,t,s',⟨h1,h2⟩,hq,hs,he=>by
  obtain ⟨u',e1,e2,e3⟩:=sS Q s _ s' h2 (λp hp=>hq p (List.mem_cons_of_mem _ hp)) hs he
  obtain ⟨l1,l2,l3⟩:=hq q (by simp)
  obtain ⟨t',f1,f2,f3,f4⟩:=vA l1 h1 e3 l2 l3 e1
  exact ⟨t',f1,⟨f3,by rw [<-f2];exact e2⟩,f4⟩
theorem sT {q:Nat×AV×OB} : ∀(Q1:List (Nat×AV×OB)) {Q2:List (Nat×AV×OB)} {s t:St},tB (Q1++q::Q2) s t->(∀p∈Q1++q::Q2,nj p.1 p.2.1 p.2.2)->(∀p∈Q1,p.1≠q.1)->
  Ej q.1 t/\tB (Q1++Q2) s (Ev q.1 q.2.1 q.2.2 t)
 | [],Q2,s,t,h,_,_=>h
 |p::Q1,Q2,s,t,⟨h1,h2⟩,hL,Fa=>by
  have hpq:=Fa p (by simp)
  have hLp:=hL p (by simp)
  have hLq:=hL q (by simp)
  obtain ⟨g1,g2⟩:=sT Q1 h2 (λr hr=>hL r (List.mem_cons_of_mem _ hr)) λr hr=>Fa r (List.mem_cons_of_mem _ hr)
  refine ⟨g1.back (Ne.symm hpq) h1,h1.plus hpq (λh=>hpq (hLq.v1 _ h)) (by rw [hLq.b1];simp),?_⟩
  show tB (Q1++Q2) s (Ev p.1 p.2.1 p.2.2 (Ev q.1 q.2.1 q.2.2 t))
  rw [rY (Ne.symm hpq)]
  exact g2
def gW (ops:Array Oper):Nat->Nat->Nat->Bool
 |0,_,_=>false
 |f+1,i,a=>Region.waitsFor .any ops i a||(List.range ops.size).any λk=>Region.waitsFor .any ops i k&&gW ops f k a
def Uc (ops:Array Oper) (Ac:Array Bool):Prop:= ∀k a,Ac.getD k false=true->Region.waitsFor .any ops k a=true->Ac.getD a false=true
theorem dw {Ac:Array Bool} {i a:Nat} (h:i∈Region.ready .any ops Ac) (hw:Region.waitsFor .any ops i a=true):Ac.getD a false=true:=by
 obtain ⟨_,o,ho,Hf⟩:=mem_ready.1 h
 obtain ⟨o',ho',e,he,hb,rfl⟩:=Region.waitsFor_spec hw
 rw [ho] at ho'
 cases ho'
 exact Hf e he hb
theorem fS {Ac:Array Bool} (hc:Uc ops Ac) {a:Nat} : ∀(f i:Nat),(∀x,Region.waitsFor .any ops i x=true->Ac.getD x false=true)->gW ops f i a=true->Ac.getD a false=true
 |0,_,_,h=>by cases h
 |f+1,i,hi,h=>by
  simp only [gW,Bool.or_eq_true,List.any_eq_true,Bool.and_eq_true] at h
  rcases h with h|⟨k,_,h1,h2⟩
  ·exact hi a h
  ·exact fS hc f k (λx hx=>hc k x (hi k h1) hx) h2
theorem Uc.set {Ac:Array Bool} (hc:Uc ops Ac) {i:Nat} (hi:i∈Region.ready .any ops Ac):Uc ops (Ac.setIfInBounds i true):= λk a hk hw=>by
 by_cases hik:i=k
 ·subst hik
  exact getD_set_true (dw hi hw)
 ·rw [getD_set_ne false hik] at hk
  exact getD_set_true (hc k a hk hw)
def BW (P:List (Nat×Nat×AV×OB)) (Γ:Env) (ops:Array Oper) (st:St) (o:Oper) (i:Nat):Bool:=
 (P.all λa=>gW ops 5 i a.1)||(Px Γ st o&&P.all λa=>gW ops 5 i a.1||((dS o).all (di a.2.1)&&(match o.dst with
  |some e=>!Nat.beq e a.2.1
  |none=>true)))
def XD (T:Tab) (Γ:Env) (ops:Array Oper) (P:List (Nat×Nat×AV×OB)) (K:St->Prop):Nat->Array Bool->St->Prop
 |0,Ac,st=>Region.ready .any ops Ac= []/\K st
 |f+1,Ac,st=>Region.ready .any ops Ac≠ []/\ ∀i∈Region.ready .any ops Ac,∃o st',ops[i]?=some o/\BW P Γ ops st o i=true/\Cj T Γ ops st o=some st'/\XD T Γ ops P K f (Ac.setIfInBounds i true) st'
structure KZ (lc la:Array Bool) (Q:List Nat):Prop where
 size:la.size=lc.size
 off: ∀k∈Q,k<la.size/\la.getD k false=false/\lc.getD k false=true
 same: ∀k,k∉Q->la.getD k false=lc.getD k false
theorem KZ.ready {lc la:Array Bool} {Q:List Nat} (h:KZ lc la Q) {i:Nat} (hi:i∈Region.ready .any ops la) (hn:i∉Q):i∈Region.ready .any ops lc:=by
 obtain ⟨h1,o,ho,Hf⟩:=mem_ready.1 hi
 have Fc:i<la.size:=by
  rcases Nat.lt_or_ge i la.size with h'|h'
  ·exact h'
  ·simp [Array.getElem?_eq_none h'] at h1
 have h2:=getD_both h1
 rw [h.same i hn] at h2
 refine mem_ready.2 ⟨getD_in (by rw [<-h.size];exact Fc) h2,o,ho,λe he hb=>?_⟩
 have h3:=Hf e he hb
 by_cases hq:e.on∈Q
 ·exact (h.off _ hq).2.2
 ·rw [<-h.same _ hq];exact h3
theorem KZ.nil {lc la:Array Bool} (h:KZ lc la []):la=lc:=by
 refine Array.ext h.size λk h1 h2=>?_
 have:=h.same k (by simp)
 simpa [h1,h2] using this
theorem KZ.one {lc la:Array Bool} {Q Q':List Nat} {i:Nat} (h:KZ lc la Q) (hi:i∈Q) (hs: ∀k,k∈Q'↔k∈Q/\k≠i):KZ lc (la.setIfInBounds i true) Q':=by
 refine ⟨by simp [h.size],λk hk=>?_,λk hk=>?_⟩
 ·obtain ⟨h1,h2⟩:=(hs k).1 hk
  obtain ⟨g1,g2,g3⟩:=h.off k h1
  exact ⟨by simpa using g1,by rw [getD_set_ne false (Ne.symm h2)];exact g2,g3⟩
 ·by_cases e:i=k
  ·subst e
   obtain ⟨g1,g2,g3⟩:=h.off i hi
   rw [g3]
   simp [g1]
  ·rw [getD_set_ne false e]
   exact h.same k λhq=>hk ((hs k).2 ⟨hq,Ne.symm e⟩)
theorem KZ.both {lc la:Array Bool} {Q:List Nat} {i:Nat} (h:KZ lc la Q) (hi:i∉Q):KZ (lc.setIfInBounds i true) (la.setIfInBounds i true) Q:=by
 refine ⟨by simp [h.size],λk hk=>?_,λk hk=>?_⟩
 ·obtain ⟨g1,g2,g3⟩:=h.off k hk
  have Fa:i≠k:= λe=>hi (by rw [e];exact hk)
  exact ⟨by simpa using g1,by rw [getD_set_ne false Fa];exact g2,by rw [getD_set_ne false Fa];exact g3⟩
 ·by_cases e:i=k
  ·subst e
   have hs:=h.same i hi
   have hz:=h.size
   by_cases hl:i<la.size
   ·simp [hl,hz▸hl]
   ·have Ge: ¬i<lc.size:=by omega
    simp [hl,Ge]
  ·rw [getD_set_ne false e,getD_set_ne false e];exact h.same k hk
theorem BU {dst:Option Tmp} {d:Nat} (h:(match dst with
  |some e=>!Nat.beq e d
  |none=>true)=true):dst≠some d:= λe=>by
 subst e
 simp at h
theorem GS {P:List (Nat×Nat×AV×OB)} {K:St->Prop} (hP: ∀a∈P,∃o,ops[a.1]?=some o/\az T o=some a.2):
  ∀(n f:Nat) (Q:List (Nat×Nat×AV×OB)) (lc la:Array Bool) (s t:St),n=f+Q.length->XD T Γ ops P K f lc s->tB (Q.map (·.2)) s t->KZ lc la (Q.map (·.1))->(∀a∈Q,a∈P)->
   (Q.Pairwise λa c=>a.2.1≠c.2.1/\a.1≠c.1)->Uc ops la->(∀a∈Q,∀x,Region.waitsFor .any ops a.1 x=true->la.getD x false=true)->anyS T Γ ops K n la t:=by
 intro n
 induction n with
 |zero=>
  intro f Q lc la s t hn hC hp hb hQ hpw Mg hw
  have hf:f=0:=by omega
  have hq:Q= []:=List.eq_nil_of_length_eq_zero (by omega)
  subst hf hq
  have hp:s=t:=hp
  subst hp
  rw [hb.nil]
  exact hC
 |succ n ih=>
  intro f Q lc la s t hn hC hp hb hQ hpw Mg hw
  refine ⟨?_,λi hi=>?_⟩
  ·cases Q with
   |nil=>
    rw [hb.nil]
    cases f with
    |zero=>simp at hn
    |succ f=>exact hC.1
   |cons a Q=>
    obtain ⟨o,ho,_⟩:=hP a (hQ a (by simp))
    obtain ⟨g1,g2,_⟩:=hb.off a.1 (by simp)
    have:a.1∈Region.ready .any ops la:=mem_ready.2 ⟨getD_in g1 g2,o,ho,λe he hbd=>hw a (by simp) e.on (by
     unfold Region.waitsFor
     rw [ho]
     exact Array.any_eq_true'.2 ⟨e,he,by simp [hbd]⟩)⟩
    intro e
    rw [e] at this
    cases this
  ·by_cases hiQ:i∈Q.map (·.1)
   ·obtain ⟨a,ha,rfl⟩:=List.mem_map.1 hiQ
    obtain ⟨Q1,Q2,rfl⟩:=List.append_of_mem ha
    obtain ⟨o,ho,hal⟩:=hP a (hQ a ha)
    obtain ⟨_,_,Tx⟩:=aA (Γ:=Γ) (ops:=ops) hal
    have MY:=List.pairwise_append.1 hpw
    have Ad3:=List.pairwise_cons.1 MY.2.1
    rw [List.map_append,List.map_cons] at hp
    have hL: ∀p∈Q1.map (·.2)++a.2::Q2.map (·.2),nj p.1 p.2.1 p.2.2:= λp uh=>by
     have:p∈(Q1++a::Q2).map (·.2):=by rw [List.map_append,List.map_cons];exact uh
     obtain ⟨c,hc,rfl⟩:=List.mem_map.1 this
     obtain ⟨o',_,Ah5⟩:=hP c (hQ c hc)
     exact (aA (Γ:=Γ) (ops:=ops) Ah5).2.1
    obtain ⟨p1,p2⟩:=sT _ hp hL λp uh=>by
     obtain ⟨c,hc,rfl⟩:=List.mem_map.1 uh
     exact (MY.2.2 c hc a (by simp)).1
    refine ⟨o,_,ho,Tx t p1,ih f (Q1++Q2) lc _ s _ ?_ hC (by rw [List.map_append];exact p2) (hb.one hiQ λk=>?_) (λc hc=>hQ c ?_) ?_ (Mg.set hi) λc hc x hx=>getD_set_true (hw c ?_ x hx)⟩
    ·simp only [List.length_append,List.length_cons] at hn⊢;omega
    ·simp only [List.map_append,List.map_cons,List.mem_append,List.mem_cons]
     constructor
     ·intro h
      rcases h with h|h
      ·obtain ⟨c,hc,rfl⟩:=List.mem_map.1 h
       exact ⟨.inl h,(MY.2.2 c hc a (by simp)).2⟩
      ·obtain ⟨c,hc,rfl⟩:=List.mem_map.1 h
       exact ⟨.inr (.inr h),Ne.symm (Ad3.1 c hc).2⟩
     ·rintro ⟨h|h|h,Fa⟩
      ·exact .inl h
      ·exact absurd h Fa
      ·exact .inr h
    ·rcases List.mem_append.1 hc with hc|hc
     ·exact List.mem_append_left _ hc
     ·exact List.mem_append_right _ (List.mem_cons_of_mem _ hc)
    ·exact List.pairwise_append.2 ⟨MY.1,Ad3.2,λc hc e he=>MY.2.2 c hc e (List.mem_cons_of_mem _ he)⟩
    ·rcases List.mem_append.1 hc with hc|hc
     ·exact List.mem_append_left _ hc
     ·exact List.mem_append_right _ (List.mem_cons_of_mem _ hc)
   ·have hic:=hb.ready hi hiQ
    cases f with
    |zero=>
     rw [hC.1] at hic
     cases hic
    |succ f=>
     obtain ⟨o,s',ho,eS,he,fp⟩:=hC.2 i hic
     have SP: ∀a∈Q,gW ops 5 i a.1=false:= λa ha=>by
      cases hwt:gW ops 5 i a.1 with
      |false=>rfl
      |true=>
       have h1:=fS Mg _ i (λx hx=>dw hi hx) hwt
       rw [(hb.off a.1 (List.mem_map.2 ⟨a,ha,rfl⟩)).2.1] at h1
       cases h1
     have key: ∃t',Cj T Γ ops t o=some t'/\tB (Q.map (·.2)) s' t':=by
      unfold BW at eS
      rw [Bool.or_eq_true,Bool.and_eq_true] at eS
      rcases eS with eS|⟨h1,h2⟩
      ·cases Q with
       |nil=>
        have hp:s=t:=hp
        subst hp
        exact ⟨s',he,rfl⟩
       |cons a Q=>
        have:=List.all_eq_true.1 eS a (hQ a (by simp))
        rw [SP a (by simp)] at this
        cases this
      ·obtain ⟨t',g1,g2,_⟩:=sS (T:=T) (ops:=ops) _ s t s' hp (λq hq=>by
        obtain ⟨a,ha,rfl⟩:=List.mem_map.1 hq
        obtain ⟨o',_,hal⟩:=hP a (hQ a ha)
        have h3:=List.all_eq_true.1 h2 a (hQ a ha)
        rw [SP a ha,Bool.false_or,Bool.and_eq_true] at h3
        exact ⟨(aA (Γ:=Γ) (ops:=ops) hal).2.1,h3.1,BU h3.2⟩) h1 he
       exact ⟨t',g1,g2⟩
     obtain ⟨t',g1,g2⟩:=key
     exact ⟨o,t',ho,g1,ih f Q _ _ s' t' (by omega) fp g2 (hb.both hiQ) hQ hpw (Mg.set hi) λc hc x hx=>getD_set_true (hw c hc x hx)⟩
def Sl (T:Tab) (ops:Array Oper) (Ac:Array Bool):List (Nat×Nat×AV×OB):=(Region.ready .any ops Ac).filterMap λi=>((ops[i]?).bind (az T)).map λr=>(i,r)
theorem tH {Ac:Array Bool} {a:Nat×Nat×AV×OB} (h:a∈Sl T ops Ac):a.1∈Region.ready .any ops Ac/\ ∃o,ops[a.1]?=some o/\az T o=some a.2:=by
 unfold Sl at h
 obtain ⟨i,hi,he⟩:=List.mem_filterMap.1 h
 cases ho:ops[i]? with
 |none=>rw [ho] at he;cases he
 |some o=>
  rw [ho] at he
  simp only [Option.bind_some,Option.map_eq_some_iff] at he
  obtain ⟨r,h1,rfl⟩:=he
  exact ⟨hi,o,ho,h1⟩
theorem wY:Uc ops (Array.replicate ops.size false):= λk a hk _=>by
 rw [getD_replicate_false] at hk
 cases hk
theorem aG (q:Bool): ∀(l:List Nat) (Ac:Array Bool),Uc ops Ac->Uc ops (Ei (Ex q ops l Ac) Ac)
 | [],Ac,h=>h
 |i::r,Ac,h=>by
  simp only [Ex]
  split
  ·rename_i hc
   rw [Bool.and_eq_true,Bool.and_eq_true] at hc
   have hi:i∈Region.ready .any ops Ac:=by simpa using hc.2.1
   exact aG q r _ (h.set hi)
  ·exact aG q r Ac h
theorem db: ∀(l:List Nat) (Ac:Array Bool),(Ei l Ac).size=Ac.size
 | [],_=>rfl
 |i::r,Ac=>by simp only [Ei];rw [db r];simp
theorem iW: ∀(l:List Nat) (Ac:Array Bool) (k:Nat),k∈l->k<Ac.size->(Ei l Ac).getD k false=true
 |i::r,Ac,k,h,hk=>by
  simp only [Ei]
  by_cases hr:k∈r
  ·exact iW r _ k hr (by simpa using hk)
  ·have:k=i:=(List.mem_cons.1 h).resolve_right hr
   subst this
   have hs: ∀(l:List Nat) (A:Array Bool),A.getD k false=true->(Ei l A).getD k false=true:=by
    intro l
    induction l with
    |nil=>exact λA h=>h
    |cons j l ih=>exact λA h=>ih _ (getD_set_true h)
   exact hs r _ (by simp [hk])
theorem fy: ∀(l:List Nat) (Ac:Array Bool) (k:Nat),k∉l->(Ei l Ac).getD k false=Ac.getD k false
 | [],_,_,_=>rfl
 |i::r,Ac,k,h=>by
  simp only [Ei]
  rw [fy r _ k λhk=>h (List.mem_cons_of_mem _ hk),getD_set_ne false (λe=>h (by rw [e];simp))]
theorem RU {Ac:Array Bool} {Q:List Nat} (h: ∀i∈Q,i∈Region.ready .any ops Ac):KZ (Ei Q Ac) Ac Q:=by
 have hr: ∀i∈Q,i<Ac.size/\Ac.getD i false=false:= λi hi=>by
  have h1:=(mem_ready.1 (h i hi)).1
  refine ⟨?_,getD_both h1⟩
  rcases Nat.lt_or_ge i Ac.size with h'|h'
  ·exact h'
  ·simp [Array.getElem?_eq_none h'] at h1
 exact ⟨(db Q Ac).symm,λk hk=>⟨(hr k hk).1,(hr k hk).2,iW Q Ac k hk (hr k hk).1⟩,λk hk=>(fy Q Ac k hk).symm⟩
theorem yE: ∀(Q:List (Nat×Nat×AV×OB)) (t s:St),(∀a∈Q,∃o,ops[a.1]?=some o/\az T o=some a.2)->(∀a∈Q,Ej a.2.1 t)->(Q.Pairwise λa c=>a.2.1≠c.2.1)->Jf T Γ ops (Q.map (·.1)) t=some s->tB (Q.map (·.2)) s t
 | [],t,s,_,_,_,h=>by
  have h:some t=some s:=h
  exact (Option.some.inj h).symm
 |a::Q,t,s,hQ,hn,hp,h=>by
  obtain ⟨o,ho,hal⟩:=hQ a (by simp)
  obtain ⟨_,hL,Tx⟩:=aA (Γ:=Γ) (ops:=ops) hal
  obtain ⟨wx,HL⟩:=List.pairwise_cons.1 hp
  simp only [List.map_cons,Jf,ho] at h
  rw [Tx t (hn a (by simp))] at h
  refine ⟨hn a (by simp),yE Q _ s (λc hc=>hQ c (List.mem_cons_of_mem _ hc)) (λc hc=>?_) HL h⟩
  exact (hn c (List.mem_cons_of_mem _ hc)).plus (Ne.symm (wx c hc)) (λh=>wx c hc (hL.v1 _ h).symm) (by rw [hL.b1];simp)
end
end Go.Proofs.YtfolipnappekaaaGreat
