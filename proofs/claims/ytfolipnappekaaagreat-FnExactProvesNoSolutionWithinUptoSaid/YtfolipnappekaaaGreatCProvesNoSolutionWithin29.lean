/-
  Part 30 of the proof that the statement FnExactProvesNoSolutionWithin holds.
-/
import Derived.Test.YtfolipnappekaaaGreatCProvesNoSolutionWithin28
namespace Go.Proofs.YtfolipnappekaaaGreat
open Go.RowKit
def Fa (d:Nat) (v:AV) (b:OB) (st:St):St:= {tmps:=Nm st.tmps d v,heap:=Jt st.heap d b}
def lW (d:Nat) (st:St):Bool:=(st.get d).refs.isEmpty&&((st.tmps.all λv=>!v.refs.contains d)&&st.heap.all λp=>!Nat.beq p.1 d&&!p.2.refs.contains d)
structure Ej (d:Nat) (st:St):Prop where
 own:(st.get d).refs= []
 tmps: ∀v∈st.tmps,d∉v.refs
 heap: ∀p∈st.heap,p.1≠d/\d∉p.2.refs
theorem qv {d:Nat} {st:St} (h:lW d st=true):Ej d st:=by
 unfold lW at h
 rw [Bool.and_eq_true,Bool.and_eq_true,List.all_eq_true,List.all_eq_true] at h
 obtain ⟨h0,h⟩:=h
 refine ⟨List.isEmpty_iff.1 h0,λv hv=>?_,λp hp=>?_⟩
 ·have:=h.1 v hv
  intro hd
  rw [List.contains_iff_mem.2 hd] at this
  cases this
 ·have:=h.2 p hp
  rw [Bool.and_eq_true] at this
  refine ⟨λe=>?_,λhd=>?_⟩
  ·have h1:=this.1
   rw [e,Nat.beq_refl] at h1
   cases h1
  ·have h1:=this.2
   rw [List.contains_iff_mem.2 hd] at h1
   cases h1
theorem MU {d:Nat} {st:St} (h:Ej d st):lW d st=true:=by
 unfold lW
 rw [Bool.and_eq_true,Bool.and_eq_true,List.all_eq_true,List.all_eq_true]
 refine ⟨by rw [h.own];rfl,λv hv=>?_,λp hp=>?_⟩
 ·rw [Bool.not_eq_true',<-Bool.not_eq_true,List.contains_iff_mem];exact h.tmps v hv
 ·rw [Bool.and_eq_true]
  refine ⟨?_,?_⟩
  ·rw [Bool.not_eq_true',<-Bool.not_eq_true]
   exact λe=>(h.heap p hp).1 (Nat.eq_of_beq_eq_true e)
  ·rw [Bool.not_eq_true',<-Bool.not_eq_true,List.contains_iff_mem];exact (h.heap p hp).2
structure oY (d:Nat) (v:AV) (b:OB):Prop where
 v1: ∀l,l∈v.refs->l=d
 b1:b.refs= []
 v2: ∀l,l≠d->v.map (Bd l)=v
 b2: ∀l,b.map (Bd l)=b
theorem aF {α:Type} : ∀(xs:List α) (d t:Nat) (v x:α),d≠t->(Nm xs d v).getD t x=xs.getD t x
 | [],_,_,_,_,_=>rfl
 |y::r,0,0,_,_,h=>absurd rfl h
 |y::r,0,t+1,_,_,_=>by simp [Nm]
 |y::r,d+1,0,_,_,_=>by simp [Nm]
 |y::r,d+1,t+1,v,x,h=>by simpa [Nm] using aF r d t v x (by omega)
theorem mq {α:Type} : ∀(xs:List α) (d e:Nat) (v w:α),d≠e->Nm (Nm xs d v) e w=Nm (Nm xs e w) d v
 | [],_,_,_,_,_=>rfl
 |y::r,0,0,_,_,h=>absurd rfl h
 |y::r,0,e+1,_,_,_=>rfl
 |y::r,d+1,0,_,_,_=>rfl
 |y::r,d+1,e+1,v,w,h=>by simp only [Nm];rw [mq r d e v w (by omega)]
theorem ui: ∀(H:List (Nat×OB)) (d l:Nat) (b:OB),d≠l->Ad (Jt H d b) l=Ad H l
 | [],d,l,b,h=>by simp [Jt,Ad,h]
 |(k,c)::r,d,l,b,h=>by
  simp only [Jt]
  split
  ·simp only [Ad];rw [if_neg h]
  ·simp only [Ad]
   split
   ·rfl
   ·exact ui r d l b h
theorem uu: ∀(H:List (Nat×OB)) (d e:Nat) (b c:OB),d≠e->Jt (Jt H d b) e c=Jt (Jt H e c) d b
 | [],d,e,b,c,h=>by
  simp only [Jt]
  by_cases h1:e<d
  ·rw [if_pos h1,if_neg (by omega)]
  ·rw [if_neg h1,if_pos (by omega)]
 |(k,a)::r,d,e,b,c,h=>by
  simp only [Jt]
  by_cases h1:d<k<;>by_cases h2:e<k
  ·rw [if_pos h1,if_pos h2]
   simp only [Jt]
   by_cases h3:e<d
   ·rw [if_pos h3,if_neg (by omega),if_pos h1]
   ·rw [if_neg h3,if_pos h2,if_pos (by omega)]
  ·rw [if_pos h1,if_neg h2]
   simp only [Jt]
   rw [if_neg (by omega),if_neg h2,if_pos h1]
  ·rw [if_neg h1,if_pos h2]
   simp only [Jt]
   rw [if_pos h2,if_neg (by omega),if_neg h1]
  ·rw [if_neg h1,if_neg h2]
   simp only [Jt]
   rw [if_neg h1,if_neg h2,uu r d e b c h]
theorem vd: ∀(H:List (Nat×OB)) (d l:Nat) (b c:OB),d≠l->Vi (Jt H d b) l c=Jt (Vi H l c) d b
 | [],d,l,b,c,h=>by simp [Jt,Vi,h]
 |(k,a)::r,d,l,b,c,h=>by
  simp only [Jt,Vi]
  by_cases h1:d<k<;>by_cases h2:k=l
  ·rw [if_pos h1,if_pos h2]
   simp only [Vi,Jt]
   rw [if_neg h,if_pos h2,if_pos h1]
  ·rw [if_pos h1,if_neg h2]
   simp only [Vi,Jt]
   rw [if_neg h,if_neg h2,if_pos h1]
  ·rw [if_neg h1,if_pos h2]
   simp only [Vi,Jt]
   rw [if_pos h2,if_neg h1]
  ·rw [if_neg h1,if_neg h2]
   simp only [Vi,Jt]
   rw [if_neg h2,if_neg h1,vd r d l b c h]
theorem mX {l:Nat} : ∀ {c:AC},l∉c.refs->Bd l c=c:=by
 intro c h
 cases c<;>simp only [Bd]<;>simp only [AC.refs,List.mem_singleton] at h
 case clo f Ca=>rw [if_neg (by simpa using h)]
 all_goals (first|rfl|rw [if_neg (Ne.symm h)])
theorem Wc {l:Nat} : ∀ {cs:List AC},l∉cs.flatMap AC.refs->cs.map (Bd l)=cs
 | [],_=>rfl
 |c::r,h=>by
  rw [List.flatMap_cons,List.mem_append] at h
  rw [List.map_cons,mX (λhh=>h (.inl hh)),Wc (λhh=>h (.inr hh))]
theorem yU {l:Nat} : ∀ {v:AV},l∉v.refs->v.map (Bd l)=v
 | .at a,h=>by simp only [AV.map];rw [mX h]
 | .agg cs,h=>by simp only [AV.map];rw [Wc h]
 | .Xa _ _ _,_=>rfl
 | .Ih ps,h=>by
  simp only [AV.map]
  congr 1
  simp only [AV.refs] at h
  induction ps with
  |nil=>rfl
  |cons p r ih=>
   rw [List.flatMap_cons,List.mem_append] at h
   rw [List.map_cons,Wc (λhh=>h (.inl hh)),ih (λhh=>h (.inr hh))]
theorem yV {l:Nat} : ∀ {b:OB},l∉b.refs->b.map (Bd l)=b
 | .arr _ _ _ _ _,_=>rfl
 | .Dg _ _ _,_=>rfl
 | .var _ vs,h=>by simp only [OB.map];rw [Wc h]
 | .Al _ _ _ _ _,_=>rfl
 | .Qi _ _,_=>rfl
theorem yK {l:Nat} : ∀ {H:List (Nat×OB)},(∀p∈H,p.1≠l)->Vo H l=H
 | [],_=>rfl
 |(k,b)::r,h=>by
  simp only [Vo]
  rw [if_neg (h (k,b) (by simp)),yK λp hp=>h p (by simp [hp])]
theorem Ej.forget {l:Nat} {st:St} (h:Ej l st):st.forget l=st:=by
 have e1:st.tmps.map (λv=>v.map (Bd l))=st.tmps:=(List.map_congr_left λv hv=>yU (h.tmps v hv)).trans (List.map_id _)
 have e2:st.heap.map (λp=>(p.1,p.2.map (Bd l)))=st.heap:=(List.map_congr_left λp hp=>by rw [yV (h.heap p hp).2];rfl).trans (List.map_id _)
 unfold St.forget St.Gl
 simp only [e1,e2]
 rw [yK λp hp=>(h.heap p hp).1]
theorem Ej.new {l:Nat} {st:St} (h:Ej l st) (b:OB) (v:AV):(st.new l b).put (some l) v=Fa l v b st:=by
 unfold St.new
 rw [h.forget]
 rfl
theorem qo {α:Type} : ∀ {xs:List α} {d:Nat} {v x:α},x∈Nm xs d v->x∈xs\/x=v
 | [],_,_,_,h=>by cases h
 |y::r,0,v,x,h=>by
  rcases List.mem_cons.1 h with h|h
  ·exact .inr h
  ·exact .inl (List.mem_cons_of_mem _ h)
 |y::r,d+1,v,x,h=>by
  rcases List.mem_cons.1 h with h|h
  ·exact .inl (by rw [h];simp)
  ·exact (qo h).imp (List.mem_cons_of_mem _) id
theorem zL: ∀ {H:List (Nat×OB)} {d:Nat} {b:OB} {p:Nat×OB},p∈Jt H d b->p∈H\/p=(d,b)
 | [],d,b,p,h=> .inr (by simpa [Jt] using h)
 |(k,c)::r,d,b,p,h=>by
  simp only [Jt] at h
  split at h
  ·rcases List.mem_cons.1 h with h|h
   ·exact .inr h
   ·exact .inl h
  ·rcases List.mem_cons.1 h with h|h
   ·exact .inl (by rw [h];simp)
   ·exact (zL h).imp (List.mem_cons_of_mem _) id
theorem XA {d:Nat} {v:AV} {b:OB} {st:St} {x:Operand} (h:x≠ .tmp d):(Fa d v b st).ev x=st.ev x:=by
 cases x with
 |tmp t=>exact aF _ _ _ _ _ (λe=>h (by rw [e]))
 |_=>rfl
theorem IY {d l:Nat} {v:AV} {b:OB} {st:St} (h:d≠l):(Fa d v b st).at l=st.at l:=ui _ _ _ _ h
theorem QM {d e:Nat} {v u:AV} {b:OB} {st:St} (h:d≠e):(Fa d v b st).put (some e) u=Fa d v b (st.put (some e) u):=by
 unfold Fa St.put
 simp only
 rw [mq _ _ _ _ _ h]
theorem LF {d l:Nat} {v:AV} {b c:OB} {st:St} (h:d≠l):(Fa d v b st).Ft l c=Fa d v b (st.Ft l c):=by
 unfold Fa St.Ft
 simp only
 rw [vd _ _ _ _ _ h]
theorem tV {d e:Nat} {v u:AV} {b c:OB} {st:St} (h:d≠e):Fa e u c (Fa d v b st)=Fa d v b (Fa e u c st):=by
 unfold Fa
 rw [mq _ _ _ _ _ h,uu _ _ _ _ _ h]
theorem Ej.put {d:Nat} {st:St} {e:Nat} {u:AV} (h:Ej d st) (hde:e≠d) (hu:d∉u.refs):Ej d (st.put (some e) u):=
 ⟨by show (List.getD (Nm st.tmps e u) d .undef).refs= [];rw [aF _ _ _ _ _ hde];exact h.own,λv hv=>(qo hv).elim (h.tmps v) λe=>by rw [e];exact hu,h.heap⟩
theorem Ej.plus {d e:Nat} {u:AV} {c:OB} {st:St} (h:Ej d st) (hde:d≠e) (hu:d∉u.refs) (hc:d∉c.refs):Ej d (Fa e u c st):=
 ⟨by show (List.getD (Nm st.tmps e u) d .undef).refs= [];rw [aF _ _ _ _ _ (Ne.symm hde)];exact h.own,λv hv=>(qo hv).elim (h.tmps v) λe=>by rw [e];exact hu,λp hp=>(zL hp).elim (h.heap p) λe'=>by rw [e'];exact ⟨Ne.symm hde,hc⟩⟩
theorem Ej.Adp {d e:Nat} {u:AV} {c:OB} {st:St} (h:Ej d (Fa e u c st)): ∀p∈st.heap,p.1≠d/\d∉p.2.refs:= λp hp=>h.heap p (by
 show p∈Jt st.heap e c
 generalize st.heap=H at hp
 induction H with
 |nil=>cases hp
 |cons q r ih=>
  obtain ⟨k,a⟩:=q
  simp only [Jt]
  split
  ·exact List.mem_cons_of_mem _ hp
  ·rcases List.mem_cons.1 hp with hp|hp
   ·rw [hp];simp
   ·exact List.mem_cons_of_mem _ (ih hp))
theorem oB {st st':St} : ∀(τ:Ty) (cs:List AC),cs.all (·.settled)=true->Cu st' τ cs=Cu st τ cs:=by
 intro τ
 induction τ with
 |unit=>intro cs _;cases cs<;>rfl
 |pair a r jm fv=>
  intro cs h
  simp only [Cu]
  rw [List.all_eq_true] at h
  rw [jm _ (List.all_eq_true.2 λc hc=>h c (List.mem_of_mem_take hc)),fv _ (List.all_eq_true.2 λc hc=>h c (List.mem_of_mem_drop hc))]
 |_=>
  intro cs h
  rcases cs with _|⟨c,_|⟨c',cs⟩⟩
  ·rfl
  ·simp only [List.all_cons,List.all_nil,Bool.and_true] at h
   simp only [Cu]
   exact Wm h
  ·rfl
theorem cn {st st':St} {τ:Ty} {v:AV} (h:v.settled=true):Cv st' τ v=Cv st τ v:=by
 cases v with
 | «at»a=>
  have ha:a.settled=true:=h
  cases a<;>simp only [AC.settled,Bool.false_eq_true] at ha
  all_goals
   simp only [Cv]
   rw [Ll rfl,Ll rfl]
   rw [Wm (st:=st) (st':=st') rfl]
 |agg cs=>simp only [Cv];rw [oB _ _ h]
 |Xa _ _ _=>rfl
 |Ih _=>rfl
theorem eW {st st':St} : ∀(τ:Ty) (vs:List AV),vs.all (·.settled)=true->Bt st' τ vs=Bt st τ vs
 | .pair a r,v::vs,h=>by
  rw [List.all_cons,Bool.and_eq_true] at h
  simp only [Bt]
  rw [cn (st:=st) (st':=st') h.1,eW r vs h.2]
 | .pair _ _,[],_=>rfl
 | .unit,[],_=>rfl
 | .unit,_::_,_=>rfl
 | .int _,vs,_=>by cases vs<;>rfl
 | .bool,vs,_=>by cases vs<;>rfl
 | .str,vs,_=>by cases vs<;>rfl
 | .slice _,vs,_=>by cases vs<;>rfl
 | .oslice _,vs,_=>by cases vs<;>rfl
 | .ptr _,vs,_=>by cases vs<;>rfl
 | .optr _,vs,_=>by cases vs<;>rfl
 | .smap _,vs,_=>by cases vs<;>rfl
 | .clo _ _,vs,_=>by cases vs<;>rfl
def Rc:AV->Bool
 | .at (.data _ _ _)=>true
 |_=>false
def eU (o:Oper):List Operand:=match o.op with
 | .move x=> [x]
 | .load _ x=> [x]
 | .call {callee:= .value (.func _),args, .. } =>args.toList
 | .insert _ m k x=> [m,k,x]
 | .buildSlice _ _ parts=>parts.toList.map (·.2)
 |_=> []
def eb (d:Nat):Operand->Bool
 | .tmp t=>!Nat.beq t d
 |_=>true
theorem MV {d:Nat} {x:Operand} (h:eb d x=true):x≠ .tmp d:= λe=>by
 subst e
 simp [eb] at h
def Rf (Γ:Env) (st:St) (o:Oper):Bool:=match o.guard with
 |some _=>false
 |none=>match o.op with
  | .move _=>true
  | .load _ x=>(match st.ev x with
   | .at (.Dt _ _)=>true
   |_=>false)
  | .call {callee:= .value (.func f),args, .. } =>(match Γ f with
   |some (.q _)=>true
   |_=>false)&&args.toList.all λx=>(st.ev x).settled
  | .insert _ m k x=>(match st.ev m with
   | .at (.Gd _)=>true
   |_=>false)&&Rc (st.ev k)&&(st.ev x).settled
  | .buildSlice _ _ parts=>(parts.toList.all λp=>Rc (st.ev p.2))&&(match o.dst with
   |some e=>lW e st
   |none=>false)
  |_=>false
theorem Ej.ev {d:Nat} {st:St} (h:Ej d st) (x:Operand):d∉(st.ev x).refs:=by
 cases x with
 |tmp t=>
  simp only [St.ev,St.get]
  rw [List.getD_eq_getElem?_getD]
  by_cases hl:t<st.tmps.length
  ·rw [List.getElem?_eq_getElem hl];exact h.tmps _ (List.getElem_mem hl)
  ·rw [List.getElem?_eq_none (Nat.le_of_not_lt hl)];simp [AV.refs,AC.refs]
 |const c=>
  simp only [St.ev]
  unfold jB
  split<;>simp [AV.refs,AC.refs]
 |func f=>simp [St.ev,AV.refs,AC.refs]
 |_=>simp [St.ev,AV.refs,AC.refs]
theorem ze: ∀ {H:List (Nat×OB)} {l:Nat} {b:OB},Ad H l=some b->(l,b)∈H
 |(k,c)::r,l,b,h=>by
  simp only [Ad] at h
  split at h
  ·rename_i e;subst e;cases h;simp
  ·exact List.mem_cons_of_mem _ (ze h)
section
variable {T:Tab} {Γ:Env} {ops:Array Oper} {d:Nat} {v:AV} {b:OB} {t:St}
theorem uR {e:Option Tmp} (h:e≠some d) (hn:Ej d t) {y:AV} (hy:d∉y.refs):(Fa d v b t).put e y=Fa d v b (t.put e y)/\Ej d (t.put e y):=by
 cases e with
 |none=>exact ⟨rfl,hn⟩
 |some k=>exact ⟨QM (λe=>h (by rw [e])),hn.put (λe=>h (by rw [e])) hy⟩
theorem ej {o:Oper} (hg:o.guard=none) (aI:o.dst≠some d) (hn:Ej d t) {q:Option AV} (h1:evalOp T Γ (Fa d v b t) o=q.map λy=>(y,Fa d v b t)) (h2:evalOp T Γ t o=q.map λy=>(y,t)) (hq: ∀y,q=some y->d∉y.refs) {s':St}
  (he:Ch T Γ ops (Fa d v b t) o=some s'): ∃t',Ch T Γ ops t o=some t'/\s'=Fa d v b t'/\Ej d t':=by
 unfold Ch at he⊢
 rw [hg] at he⊢
 simp only at he⊢
 rw [h1] at he
 cases q with
 |none=>cases he
 |some y=>
  obtain ⟨p1,p2⟩:=uR (v:=v) (b:=b) aI hn (hq y rfl)
  refine ⟨_,by rw [h2];rfl,?_,p2⟩
  simp only [Option.map_some,Option.some.injEq] at he
  rw [<-he,p1]
theorem Uf {l:List Operand} (hu:l.all (eb d)=true): ∀x∈l,(Fa d v b t).ev x=t.ev x:= λx hx=>XA (MV (List.all_eq_true.1 hu x hx))
theorem FG {dst:Option Tmp} {x:Operand} {ty:TypeId} {pos:String} {after:Array Edge} (hn:Ej d t) (hx:(Fa d v b t).ev x=t.ev x) (aI:dst≠some d) {s':St}
  (he:Ch T Γ ops (Fa d v b t) {dst:=dst,op:= .move x,type:=ty,pos:=pos,after:=after,guard:=none} =some s'):
  ∃t',Ch T Γ ops t {dst:=dst,op:= .move x,type:=ty,pos:=pos,after:=after,guard:=none} =some t'/\s'=Fa d v b t'/\Ej d t':=
 ej rfl aI hn (q:=some (t.ev x)) (by simp only [evalOp,Cm,hx]) (by simp only [evalOp,Cm]) (λy hy=>by cases hy;exact hn.ev x) he
def loadVar (T:Tab) (o:Option OB) (t0:TypeId) (i:Nat):Option AV:=match T.ty t0 with
 |some τ=>(match o with
  |some (.var _ vs)=>if τ.Ac then (if i+τ.size<=vs.length then some (.agg ((vs.drop i).take τ.size)) else none) else vs[i]?.map .at
  |_=>none)
 |none=>none
theorem gB {st:St} {t0:TypeId} {l i:Nat} :Lg T st t0 (.at (.Dt l i))=loadVar T (st.at l) t0 i:=by
 unfold Lg loadVar
 cases T.ty t0<;>rfl
theorem FB {dst:Option Tmp} {t0:TypeId} {x:Operand} {ty:TypeId} {pos:String} {after:Array Edge} (hn:Ej d t) (hx:(Fa d v b t).ev x=t.ev x) (aI:dst≠some d) {l i:Nat} (hp:t.ev x= .at (.Dt l i)) {s':St}
  (he:Ch T Γ ops (Fa d v b t) {dst:=dst,op:= .load t0 x,type:=ty,pos:=pos,after:=after,guard:=none} =some s'):
  ∃t',Ch T Γ ops t {dst:=dst,op:= .load t0 x,type:=ty,pos:=pos,after:=after,guard:=none} =some t'/\s'=Fa d v b t'/\Ej d t':=by
 have hld:d≠l:= λe=>by
  have:=hn.ev x
  rw [hp,e] at this
  exact this (by simp [AV.refs,AC.refs])
 refine ej rfl aI hn (q:=loadVar T (t.at l) t0 i) ?_ ?_ (λy hy=>?_) he
 ·simp only [evalOp,Cm,hx,hp]
  rw [gB,IY hld]
 ·simp only [evalOp,Cm,hp]
  rw [gB]
 ·unfold loadVar at hy
  split at hy
  ·split at hy
   ·rename_i vs hb
    have hr:d∉vs.flatMap AC.refs:=(hn.heap _ (ze hb)).2
    have bk: ∀c∈vs,d∉c.refs:= λc hc hd=>hr (List.mem_flatMap.2 ⟨c,hc,hd⟩)
    split at hy
    ·split at hy
     ·cases hy
      intro hd
      obtain ⟨c,hc,hd⟩:=List.mem_flatMap.1 hd
      exact bk c (List.mem_of_mem_drop (List.mem_of_mem_take hc)) hd
     ·cases hy
    ·cases hv:vs[i]? with
     |none=>rw [hv] at hy;cases hy
     |some c=>
      rw [hv] at hy
      cases hy
      exact bk c (List.mem_of_getElem? hv)
   ·cases hy
  ·cases hy
theorem LI {l:List Operand} (hu:l.all (eb d)=true):l.map (Fa d v b t).ev=l.map t.ev:=List.map_congr_left λx hx=>Uf hu x hx
theorem DM {dst:Option Tmp} {f:FuncId} {args:Array Operand} {tys:Array TypeId} {ty:TypeId} {pos:String} {after:Array Edge} {sp:Spec} (Kn:Γ f=some (.q sp)) (hn:Ej d t) (hx:args.toList.map (Fa d v b t).ev=args.toList.map t.ev) (aI:dst≠some d)
  (hs:(args.toList.map t.ev).all (·.settled)=true) {s':St} (he:Ch T Γ ops (Fa d v b t) {dst:=dst,op:= .call {callee:= .value (.func f),args:=args,argTypes:=tys},type:=ty,pos:=pos,after:=after,guard:=none} =some s'):
  ∃t',Ch T Γ ops t {dst:=dst,op:= .call {callee:= .value (.func f),args:=args,argTypes:=tys},type:=ty,pos:=pos,after:=after,guard:=none} =some t'/\s'=Fa d v b t'/\Ej d t':=by
 have JU:bN sp (args.toList.map t.ev)=false:=by unfold bN;rw [hs];simp
 have EC: ∀st:St,Kc Γ st f (args.toList.map t.ev)=(match Bt t sp.arg (args.toList.map t.ev) with
   |none=>none
   |some (_,x)=>(sp.fn x).map λy=>if sp.Ct then .Xa (sp.fresh||sp.res.flat) sp.res y else .at (.data (sp.fresh||sp.res.flat) sp.res y)):= λst=>by
  unfold Kc
  rw [Kn]
  simp only
  rw [hs,eW (st:=t) _ _ hs]
  simp only [Bool.or_true,if_true]
  cases Bt t sp.arg (args.toList.map t.ev)<;>rfl
 refine ej rfl aI hn (q:=Kc Γ t f (args.toList.map t.ev)) ?_ ?_ (λy hy=>?_) he
 ·simp only [evalOp,Cm,Kn,hx,JU]
  rw [EC,EC t]
  simp
 ·simp only [evalOp,Cm,Kn,JU]
  simp
 ·rw [EC t] at hy
  split at hy
  ·cases hy
  ·rename_i x _
   cases hf:sp.fn x with
   |none=>rw [hf] at hy;cases hy
   |some z=>
    rw [hf] at hy
    simp only [Option.map_some,Option.some.injEq] at hy
    rw [<-hy]
    split<;>simp [AV.refs,AC.refs]
def km (T:Tab) (o:Option OB) (t0:TypeId) (s:ByteArray) (vw:(v:Ty)->Option (Bool×v.den)):Option OB:=match T.mapOf t0 with
 |some v=>(match o,vw v with
  |some (.Qi v' f),some (_,y)=>if h:v'=v/\v.flat=true/\v.Ac=false then some (.Qi v (eQ (h.1▸f:ByteArray->Option v.den) s y)) else none
  |_,_=>none)
 |none=>none
theorem gC {st:St} {t0:TypeId} {l:Nat} {fr:Bool} {s:ByteArray} {x:AV} :Ex T st t0 (.at (.Gd l)) (.at (.data fr .str s)) x=(km T (st.at l) t0 s λv=>Cv st v x).map λc=>st.Ft l c:=by
 unfold Ex km
 cases T.mapOf t0 with
 |none=>rfl
 |some v0=>
  simp only
  cases st.at l with
  |none=>rfl
  |some c=>
   cases c with
   |Qi v' f=>
    cases Cv st v0 x with
    |none=>rfl
    |some p=>
     simp only
     split<;>rfl
   |_=>rfl
theorem zJ {o:Option OB} {t0:TypeId} {s:ByteArray} {vw:(v:Ty)->Option (Bool×v.den)} {c:OB} (h:km T o t0 s vw=some c):c.refs= []:=by
 unfold km at h
 split at h
 ·split at h
  ·split at h
   ·cases h;rfl
   ·cases h
  ·cases h
 ·cases h
theorem pE {st:St} {t0:TypeId} {m k x:AV} {s':St} (h:Ex T st t0 m k x=some s'): ∃l fr s,m= .at (.Gd l)/\k= .at (.data fr .str s):=by
 unfold Ex at h
 split at h
 ·exact ⟨_,_,_,rfl,rfl⟩
 ·cases h
theorem zM: ∀ {H:List (Nat×OB)} {l:Nat} {c:OB} {p:Nat×OB},p∈Vi H l c->p∈H\/(p.2=c/\p.1=l/\ ∃c',(l,c')∈H)
 |(k,a)::r,l,c,p,h=>by
  simp only [Vi] at h
  split at h
  ·rename_i e
   rcases List.mem_cons.1 h with h|h
   ·subst h;exact .inr ⟨rfl,e,a,by rw [e];simp⟩
   ·exact .inl (List.mem_cons_of_mem _ h)
  ·rcases List.mem_cons.1 h with h|h
   ·exact .inl (by rw [h];simp)
   ·exact (zM h).imp (List.mem_cons_of_mem _) λ⟨h1,h2,c',h3⟩=>⟨h1,h2,c',List.mem_cons_of_mem _ h3⟩
theorem Ej.Ft {st:St} {l:Nat} {c:OB} (h:Ej d st) (hc:d∉c.refs):Ej d (st.Ft l c):=
 ⟨h.own,h.tmps,λp hp=>(zM hp).elim (h.heap p) λ⟨h1,h2,c',h3⟩=>⟨by rw [h2];exact (h.heap _ h3).1,by rw [h1];exact hc⟩⟩
theorem wu {dst:Option Tmp} {t0:TypeId} {m k x:Operand} {ty:TypeId} {pos:String} {after:Array Edge} (hn:Ej d t) (hm:(Fa d v b t).ev m=t.ev m) (hk:(Fa d v b t).ev k=t.ev k) (hx:(Fa d v b t).ev x=t.ev x) (aI:dst≠some d)
  (hs:(t.ev x).settled=true) {s':St} (he:Ch T Γ ops (Fa d v b t) {dst:=dst,op:= .insert t0 m k x,type:=ty,pos:=pos,after:=after,guard:=none} =some s'):
  ∃t',Ch T Γ ops t {dst:=dst,op:= .insert t0 m k x,type:=ty,pos:=pos,after:=after,guard:=none} =some t'/\s'=Fa d v b t'/\Ej d t':=by
 unfold Ch at he⊢
 simp only [evalOp,hm,hk,hx] at he⊢
 cases JR:Ex T (Fa d v b t) t0 (t.ev m) (t.ev k) (t.ev x) with
 |none=>rw [JR] at he;cases he
 |some s1=>
  rw [JR] at he
  simp only [Option.map_some,Option.some.injEq] at he
  obtain ⟨l,fr,s,e1,e2⟩:=pE JR
  have hld:d≠l:= λe=>by
   have:=hn.ev m
   rw [e1,e] at this
   exact this (by simp [AV.refs,AC.refs])
  rw [e1,e2,gC,IY hld] at JR
  have hvw:(λv0=>Cv (Fa d v b t) v0 (t.ev x))= λv0=>Cv t v0 (t.ev x):=funext λv0=>cn hs
  rw [hvw] at JR
  rw [e1,e2,gC]
  cases ho:km T (t.at l) t0 s λv0=>Cv t v0 (t.ev x) with
  |none=>rw [ho] at JR;cases JR
  |some c=>
   rw [ho] at JR
   simp only [Option.map_some,Option.some.injEq] at JR
   have hc:=zJ ho
   have oL:Ej d (t.Ft l c):=hn.Ft (by rw [hc];simp)
   obtain ⟨p1,p2⟩:=uR (v:=v) (b:=b) (y:= .undef) aI oL (by simp [AV.refs,AC.refs])
   refine ⟨_,rfl,?_,p2⟩
   rw [<-he,<-JR,LF hld,p1]
theorem Ej.back {e:Nat} (h:Ej e (Fa d v b t)) (hde:e≠d) (hn:Ej d t):Ej e t:=by
 have hg: ∀k,k≠d->(Fa d v b t).get k=t.get k:= λk hk=>aF _ _ _ _ _ (Ne.symm hk)
 refine ⟨by rw [<-hg e hde];exact h.own,λu hu hd=>?_,h.Adp⟩
 obtain ⟨k,hk,rfl⟩:=List.mem_iff_getElem.1 hu
 have e1:t.get k=t.tmps[k]:=by unfold St.get;rw [List.getD_eq_getElem?_getD,List.getElem?_eq_getElem hk];rfl
 by_cases hkd:k=d
 ·subst hkd
  have:=hn.own
  rw [e1] at this
  rw [this] at hd
  cases hd
 ·have h1:=h.ev (.tmp k)
  have h2:(Fa d v b t).ev (.tmp k)=t.tmps[k]:=by show (Fa d v b t).get k=_;rw [hg k hkd,e1]
  rw [h2] at h1
  exact h1 hd
def j5 (e:Ty):Nat->List (Nat×AV)->Option (Bool×Bool×List e.den)
 |_,[]=>some (true,true,[])
 |i,(j,x)::r=>if i=j then match Cv ⟨[],[]⟩ e x with
  |some (fr,y)=>match j5 e (i+1) r with
   |some (Qt,VS,ys)=>some (fr&&Qt,Oc ⟨[],[]⟩ x&&e.tree&&VS,y::ys)
   |none=>none
  |none=>none
  else none
theorem aq {st:St} {e:Ty} : ∀(l:List (Nat×Operand)) (i:Nat),(l.all λp=>Rc (st.ev p.2))=true->Gu e i l st=(j5 e i (l.map λp=>(p.1,st.ev p.2))).map λp=>(p.1,p.2.1,p.2.2,st)
 | [],i,_=>rfl
 |(j,x)::r,i,h=>by
  rw [List.all_cons,Bool.and_eq_true] at h
  have hx:Rc (st.ev x)=true:=h.1
  simp only [Gu,j5,List.map_cons]
  split
  ·generalize hxv:st.ev x=xv at hx
   unfold Rc at hx
   split at hx
   ·rename_i fr τ z
    have Ad5:settle st (.at (.data fr τ z))=some (.at (.data fr τ z),st):=rfl
    rw [Ad5]
    simp only
    rw [cn (st:=⟨[],[]⟩) (st':=st) (v:= .at (.data fr τ z)) rfl]
    cases Cv ⟨[],[]⟩ e (.at (.data fr τ z)) with
    |none=>rfl
    |some p=>
     simp only
     rw [aq r (i+1) h.2]
     cases j5 e (i+1) (r.map λp=>(p.1,st.ev p.2)) with
     |none=>rfl
     |some q=>rfl
   ·cases hx
  ·rfl
def rowOf (T:Tab) (t0:TypeId) (len:Nat) (parts:List (Nat×AV)) (dst:Nat):Option (AV×OB):=match aG T t0 with
 |some _=>none
 |none=>match T.elem t0 with
  |none=>none
  |some te=>match T.ty te with
   |none=>none
   |some e=>if parts.length=len/\len<=64/\e.size<=64/\dst<Am then (j5 e 0 parts).map λp=>(.at (.own dst 0 len), .arr ((T.pK||e.flat)&&p.1) (T.xK&&p.2.1) e te p.2.2) else none
theorem dj {st:St} {t0:TypeId} {len dst:Nat} {parts:Array (Nat×Operand)} (h:(parts.toList.all λp=>Rc (st.ev p.2))=true):
  Eu T st dst t0 len parts=(rowOf T t0 len (parts.toList.map λp=>(p.1,st.ev p.2)) dst).map λr=>(r.1,st.new dst r.2):=by
 unfold Eu rowOf
 cases aG T t0 with
 |some p=>
  obtain ⟨te,e⟩:=p
  simp only [Option.map_none]
  split
  ·rename_i x hp
   rw [hp,List.all_cons,Bool.and_eq_true] at h
   have hx:Rc (st.ev x)=true:=h.1
   unfold Rc at hx
   split at hx
   ·rename_i hv;simp only [hv]
   ·cases hx
  ·rfl
 |none=>
  simp only
  unfold Hv
  cases T.elem t0 with
  |none=>rfl
  |some te=>
   simp only
   cases T.ty te with
   |none=>rfl
   |some e=>
    simp only [List.length_map,Array.length_toList]
    split
    ·rw [aq _ 0 h]
     cases j5 e 0 (parts.toList.map λp=>(p.1,st.ev p.2))<;>rfl
    ·rfl
theorem nF {t0:TypeId} {len dst:Nat} {parts:List (Nat×AV)} {r:AV×OB} (h:rowOf T t0 len parts dst=some r):oY dst r.1 r.2:=by
 unfold rowOf at h
 split at h
 ·cases h
 ·split at h
  ·cases h
  ·split at h
   ·cases h
   ·split at h
    ·rename_i e _ _
     cases hp:j5 e 0 parts with
     |none=>rw [hp] at h;cases h
     |some p=>
      rw [hp] at h
      simp only [Option.map_some,Option.some.injEq] at h
      subst h
      exact ⟨λl hl=>by simpa [AV.refs,AC.refs] using hl,rfl,λl hl=>by simp only [AV.map,Bd];rw [if_neg (Ne.symm hl)],λl=>rfl⟩
    ·cases h
theorem yE {e:Nat} {t0:TypeId} {len:Nat} {parts:Array (Nat×Operand)} {ty:TypeId} {pos:String} {after:Array Edge} (_hl:oY d v b) (hn:Ej d t) (hx: ∀p∈parts.toList,(Fa d v b t).ev p.2=t.ev p.2) (aI:e≠d)
  (hp:(parts.toList.all λp=>Rc (t.ev p.2))=true) (Ek:Ej e (Fa d v b t)) {s':St} (he:Ch T Γ ops (Fa d v b t) {dst:=some e,op:= .buildSlice t0 len parts,type:=ty,pos:=pos,after:=after,guard:=none} =some s'):
  ∃t',Ch T Γ ops t {dst:=some e,op:= .buildSlice t0 len parts,type:=ty,pos:=pos,after:=after,guard:=none} =some t'/\s'=Fa d v b t'/\Ej d t':=by
 have Acs:=Ek.back aI hn
 have jX:(parts.toList.all λp=>Rc ((Fa d v b t).ev p.2))=true:=List.all_eq_true.2 λp wk=>by rw [hx p wk];exact List.all_eq_true.1 hp p wk
 have hm:(parts.toList.map λp=>(p.1,(Fa d v b t).ev p.2))=parts.toList.map λp=>(p.1,t.ev p.2):=List.map_congr_left λp wk=>by rw [hx p wk]
 unfold Ch at he⊢
 simp only [evalOp] at he⊢
 rw [dj jX,hm] at he
 rw [dj hp]
 cases hr:rowOf T t0 len (parts.toList.map λp=>(p.1,t.ev p.2)) e with
 |none=>rw [hr] at he;cases he
 |some r=>
  rw [hr] at he
  have hL:=nF hr
  simp only [Option.map_some,Option.some.injEq] at he
  rw [Ek.new] at he
  refine ⟨Fa e r.1 r.2 t,by simp only [Option.map_some];rw [Acs.new],?_,hn.plus (Ne.symm aI) (λh=>aI (hL.v1 _ h).symm) (by rw [hL.b1];simp)⟩
  rw [<-he,tV (Ne.symm aI)]
def evC:Operand->AV
 | .const c=>jB c
 |_=> .undef
theorem Abs {st:St} {x:Operand} (h:Rc (evC x)=true):st.ev x=evC x:=by
 cases x<;>first|rfl|cases h
def bq (T:Tab) (o:Oper):Option (Nat×AV×OB):=match o.guard with
 |some _=>none
 |none=>match o.dst with
  |none=>none
  |some d=>match o.op with
   | .buildSlice t0 len parts=>if (parts.toList.all λp=>Rc (evC p.2))=true then (rowOf T t0 len (parts.toList.map λp=>(p.1,evC p.2)) d).map λr=>(d,r.1,r.2) else none
   | .makeMap t0 none=>match T.mapOf t0 with
    |some τ=>if d<Am then some (d, .at (.Gd d), .Qi τ λ_=>none) else none
    |none=>none
   |_=>none
theorem br {o:Oper} {r:Nat×AV×OB} (h:bq T o=some r):o.dst=some r.1/\oY r.1 r.2.1 r.2.2/\ ∀st:St,Ej r.1 st->Ch T Γ ops st o=some (Fa r.1 r.2.1 r.2.2 st):=by
 obtain ⟨dst,op,ty,pos,after,guard⟩:=o
 unfold bq at h
 cases guard with
 |some g=>cases h
 |none=>
  cases dst with
  |none=>cases h
  |some d=>
   cases op with
   |buildSlice t0 len parts=>
    simp only at h
    split at h
    ·rename_i hp
     cases hr:rowOf T t0 len (parts.toList.map λp=>(p.1,evC p.2)) d with
     |none=>rw [hr] at h;cases h
     |some q=>
      rw [hr] at h
      simp only [Option.map_some,Option.some.injEq] at h
      subst h
      refine ⟨rfl,nF hr,λst Oq=>?_⟩
      have EC: ∀p∈parts.toList,st.ev p.2=evC p.2:= λp wk=>Abs (List.all_eq_true.1 hp p wk)
      have hm:(parts.toList.map λp=>(p.1,st.ev p.2))=parts.toList.map λp=>(p.1,evC p.2):=List.map_congr_left λp wk=>by rw [EC p wk]
      have jX:(parts.toList.all λp=>Rc (st.ev p.2))=true:=List.all_eq_true.2 λp wk=>by rw [EC p wk];exact List.all_eq_true.1 hp p wk
      unfold Ch
      simp only [evalOp]
      rw [dj jX,hm,hr]
      simp only [Option.map_some]
      rw [Oq.new]
    ·cases h
   |makeMap t0 hint=>
    cases hint with
    |some x=>cases h
    |none=>
     simp only at h
     split at h
     ·rename_i τ Oi
      split at h
      ·rename_i hd
       cases h
       refine ⟨rfl,⟨λl hl=>by simpa [AV.refs,AC.refs] using hl,rfl,λl hl=>by simp only [AV.map,Bd];rw [if_neg (Ne.symm hl)],λl=>rfl⟩,λst Oq=>?_⟩
       unfold Ch
       simp only [evalOp,Pq,Oi,if_pos hd,Option.map_some]
       rw [Oq.new]
      ·cases h
     ·cases h
   |_=>cases h
theorem xk {l:List Operand} (h: ∀x∈l,(Fa d v b t).ev x=t.ev x):(l.all λx=>((Fa d v b t).ev x).settled)=(l.map t.ev).all (·.settled):=by
 rw [List.all_map]
 induction l with
 |nil=>rfl
 |cons x r ih=>
  simp only [List.all_cons,Function.comp]
  rw [h x (by simp),ih λy hy=>h y (by simp [hy])]
theorem xl {o:Oper} (hl:oY d v b) (hn:Ej d t) (hs:Rf Γ (Fa d v b t) o=true) (hu:(eU o).all (eb d)=true) (aI:o.dst≠some d) {s':St} (he:Ch T Γ ops (Fa d v b t) o=some s'):
  ∃t',Ch T Γ ops t o=some t'/\s'=Fa d v b t'/\Ej d t'/\Rf Γ t o=true:=by
 obtain ⟨dst,op,ty,pos,after,guard⟩:=o
 unfold Rf at hs
 cases guard with
 |some g=>cases hs
 |none=>
  simp only at hs
  split at hs
  ·rename_i x
   have hx:=Uf (v:=v) (b:=b) (t:=t) hu x (by simp [eU])
   obtain ⟨t',h1,h2,h3⟩:=FG hn hx aI he
   exact ⟨t',h1,h2,h3,rfl⟩
  ·rename_i t0 x
   have hx:=Uf (v:=v) (b:=b) (t:=t) hu x (by simp [eU])
   rw [hx] at hs
   split at hs
   ·rename_i l i hp
    obtain ⟨t',h1,h2,h3⟩:=FB hn hx aI hp he
    exact ⟨t',h1,h2,h3,by simp only [Rf,hp]⟩
   ·cases hs
  ·rename_i f args tys
   rw [Bool.and_eq_true] at hs
   obtain ⟨bD,jl⟩:=hs
   split at bD
   ·rename_i sp Kn
    have EC:=Uf (v:=v) (b:=b) (t:=t) (l:=args.toList) hu
    rw [xk EC] at jl
    obtain ⟨t',h1,h2,h3⟩:=DM Kn hn (LI hu) aI jl he
    refine ⟨t',h1,h2,h3,?_⟩
    simp only [Rf,Kn,Bool.true_and]
    rw [List.all_map] at jl
    exact jl
   ·cases bD
  ·rename_i t0 m k x
   have hm:=Uf (v:=v) (b:=b) (t:=t) hu m (by simp [eU])
   have hk:=Uf (v:=v) (b:=b) (t:=t) hu k (by simp [eU])
   have hx:=Uf (v:=v) (b:=b) (t:=t) hu x (by simp [eU])
   rw [hm,hk,hx] at hs
   have hs0:=hs
   rw [Bool.and_eq_true] at hs
   obtain ⟨t',h1,h2,h3⟩:=wu hn hm hk hx aI hs.2 he
   exact ⟨t',h1,h2,h3,hs0⟩
  ·rename_i t0 len parts
   rw [Bool.and_eq_true] at hs
   obtain ⟨bD,jl⟩:=hs
   cases dst with
   |none=>cases jl
   |some e=>
    simp only at jl
    have hed:e≠d:= λh=>aI (by rw [h])
    have bE:(parts.toList.map (λp=>p.2)).all (eb d)=true:=hu
    have EC:=Uf (v:=v) (b:=b) (t:=t) bE
    have hx: ∀p∈parts.toList,(Fa d v b t).ev p.2=t.ev p.2:= λp hp=>EC p.2 (List.mem_map.2 ⟨p,hp,rfl⟩)
    have hp:(parts.toList.all λp=>Rc (t.ev p.2))=true:=List.all_eq_true.2 λp hp=>by rw [<-hx p hp];exact List.all_eq_true.1 bD p hp
    have Ek:=qv jl
    obtain ⟨t',h1,h2,h3⟩:=yE hl hn hx hed hp Ek he
    refine ⟨t',h1,h2,h3,?_⟩
    simp only [Rf,hp,Bool.true_and]
    exact MU (Ek.back hed hn)
  ·cases hs
def vD:List (Nat×AV×OB)->St->St->Prop
 | [],s,t=>s=t
 |q::Q,s,t=>Ej q.1 t/\vD Q s (Fa q.1 q.2.1 q.2.2 t)
theorem uM {o:Oper} : ∀(Q:List (Nat×AV×OB)) (s t s':St),vD Q s t->(∀q∈Q,oY q.1 q.2.1 q.2.2/\(eU o).all (eb q.1)=true/\o.dst≠some q.1)->Rf Γ s o=true->Ch T Γ ops s o=some s'->
  ∃t',Ch T Γ ops t o=some t'/\vD Q s' t'/\Rf Γ t o=true
 | [],s,t,s',h,_,hs,he=>by
  have h:s=t:=h
  subst h
  exact ⟨s',he,rfl,hs⟩
 |q::Q,s,t,s',⟨h1,h2⟩,hq,hs,he=>by
  obtain ⟨u',e1,e2,e3⟩:=uM Q s _ s' h2 (λp hp=>hq p (List.mem_cons_of_mem _ hp)) hs he
  obtain ⟨l1,l2,l3⟩:=hq q (by simp)
  obtain ⟨t',f1,f2,f3,f4⟩:=xl l1 h1 e3 l2 l3 e1
  exact ⟨t',f1,⟨f3,by rw [<-f2];exact e2⟩,f4⟩
theorem uN {q:Nat×AV×OB} : ∀(Q1:List (Nat×AV×OB)) {Q2:List (Nat×AV×OB)} {s t:St},vD (Q1++q::Q2) s t->(∀p∈Q1++q::Q2,oY p.1 p.2.1 p.2.2)->(∀p∈Q1,p.1≠q.1)->
  Ej q.1 t/\vD (Q1++Q2) s (Fa q.1 q.2.1 q.2.2 t)
 | [],Q2,s,t,h,_,_=>h
 |p::Q1,Q2,s,t,⟨h1,h2⟩,hL,Ek=>by
  have hpq:=Ek p (by simp)
  have hLp:=hL p (by simp)
  have hLq:=hL q (by simp)
  obtain ⟨g1,g2⟩:=uN Q1 h2 (λr hr=>hL r (List.mem_cons_of_mem _ hr)) λr hr=>Ek r (List.mem_cons_of_mem _ hr)
  refine ⟨g1.back (Ne.symm hpq) h1,h1.plus hpq (λh=>hpq (hLq.v1 _ h)) (by rw [hLq.b1];simp),?_⟩
  show vD (Q1++Q2) s (Fa p.1 p.2.1 p.2.2 (Fa q.1 q.2.1 q.2.2 t))
  rw [tV (Ne.symm hpq)]
  exact g2
def ji (ops:Array Oper):Nat->Nat->Nat->Bool
 |0,_,_=>false
 |f+1,i,a=>Region.waitsFor .any ops i a||(List.range ops.size).any λk=>Region.waitsFor .any ops i k&&ji ops f k a
theorem il {Aa:Array Bool} (hc:On ops Aa) {a:Nat} : ∀(f i:Nat),(∀x,Region.waitsFor .any ops i x=true->Aa.getD x false=true)->ji ops f i a=true->Aa.getD a false=true
 |0,_,_,h=>by cases h
 |f+1,i,hi,h=>by
  simp only [ji,Bool.or_eq_true,List.any_eq_true,Bool.and_eq_true] at h
  rcases h with h|⟨k,_,h1,h2⟩
  ·exact hi a h
  ·exact il hc f k (λx hx=>hc k x (hi k h1) hx) h2
def FM (P:List (Nat×Nat×AV×OB)) (Γ:Env) (ops:Array Oper) (st:St) (o:Oper) (i:Nat):Bool:=
 (P.all λa=>ji ops 5 i a.1)||(Rf Γ st o&&P.all λa=>ji ops 5 i a.1||((eU o).all (eb a.2.1)&&(match o.dst with
  |some e=>!Nat.beq e a.2.1
  |none=>true)))
def Abn (T:Tab) (Γ:Env) (ops:Array Oper) (P:List (Nat×Nat×AV×OB)) (K:St->Prop):Nat->Array Bool->St->Prop
 |0,Aa,st=>Region.ready .any ops Aa= []/\K st
 |f+1,Aa,st=>Region.ready .any ops Aa≠ []/\ ∀i∈Region.ready .any ops Aa,∃o st',ops[i]?=some o/\FM P Γ ops st o i=true/\Ch T Γ ops st o=some st'/\Abn T Γ ops P K f (Aa.setIfInBounds i true) st'
structure PR (lc la:Array Bool) (Q:List Nat):Prop where
 size:la.size=lc.size
 off: ∀k∈Q,k<la.size/\la.getD k false=false/\lc.getD k false=true
 same: ∀k,k∉Q->la.getD k false=lc.getD k false
theorem PR.ready {lc la:Array Bool} {Q:List Nat} (h:PR lc la Q) {i:Nat} (hi:i∈Region.ready .any ops la) (hn:i∉Q):i∈Region.ready .any ops lc:=by
 obtain ⟨h1,o,ho,Fh⟩:=mem_ready.1 hi
 have Ey:i<la.size:=by
  rcases Nat.lt_or_ge i la.size with h'|h'
  ·exact h'
  ·simp [Array.getElem?_eq_none h'] at h1
 have h2:=getD_both h1
 rw [h.same i hn] at h2
 refine mem_ready.2 ⟨getD_in (by rw [<-h.size];exact Ey) h2,o,ho,λe he hb=>?_⟩
 have h3:=Fh e he hb
 by_cases hq:e.on∈Q
 ·exact (h.off _ hq).2.2
 ·rw [<-h.same _ hq];exact h3
theorem PR.nil {lc la:Array Bool} (h:PR lc la []):la=lc:=by
 refine Array.ext h.size λk h1 h2=>?_
 have:=h.same k (by simp)
 simpa [h1,h2] using this
theorem PR.one {lc la:Array Bool} {Q Q':List Nat} {i:Nat} (h:PR lc la Q) (hi:i∈Q) (hs: ∀k,k∈Q'↔k∈Q/\k≠i):PR lc (la.setIfInBounds i true) Q':=by
 refine ⟨by simp [h.size],λk hk=>?_,λk hk=>?_⟩
 ·obtain ⟨h1,h2⟩:=(hs k).1 hk
  obtain ⟨g1,g2,g3⟩:=h.off k h1
  exact ⟨by simpa using g1,by rw [getD_set_ne false (Ne.symm h2)];exact g2,g3⟩
 ·by_cases e:i=k
  ·subst e
   obtain ⟨g1,g2,g3⟩:=h.off i hi
   rw [g3]
   simp [g1]
  ·rw [getD_set_ne false e]
   exact h.same k λhq=>hk ((hs k).2 ⟨hq,Ne.symm e⟩)
theorem PR.both {lc la:Array Bool} {Q:List Nat} {i:Nat} (h:PR lc la Q) (hi:i∉Q):PR (lc.setIfInBounds i true) (la.setIfInBounds i true) Q:=by
 refine ⟨by simp [h.size],λk hk=>?_,λk hk=>?_⟩
 ·obtain ⟨g1,g2,g3⟩:=h.off k hk
  have Ek:i≠k:= λe=>hi (by rw [e];exact hk)
  exact ⟨by simpa using g1,by rw [getD_set_ne false Ek];exact g2,by rw [getD_set_ne false Ek];exact g3⟩
 ·by_cases e:i=k
  ·subst e
   have hs:=h.same i hi
   have hz:=h.size
   by_cases hl:i<la.size
   ·simp [hl,hz▸hl]
   ·have Gt: ¬i<lc.size:=by omega
    simp [hl,Gt]
  ·rw [getD_set_ne false e,getD_set_ne false e];exact h.same k hk
theorem FK {dst:Option Tmp} {d:Nat} (h:(match dst with
  |some e=>!Nat.beq e d
  |none=>true)=true):dst≠some d:= λe=>by
 subst e
 simp at h
theorem LG {P:List (Nat×Nat×AV×OB)} {K:St->Prop} (hP: ∀a∈P,∃o,ops[a.1]?=some o/\bq T o=some a.2):
  ∀(n f:Nat) (Q:List (Nat×Nat×AV×OB)) (lc la:Array Bool) (s t:St),n=f+Q.length->Abn T Γ ops P K f lc s->vD (Q.map (·.2)) s t->PR lc la (Q.map (·.1))->(∀a∈Q,a∈P)->
   (Q.Pairwise λa c=>a.2.1≠c.2.1/\a.1≠c.1)->On ops la->(∀a∈Q,∀x,Region.waitsFor .any ops a.1 x=true->la.getD x false=true)->anyS T Γ ops K n la t:=by
 intro n
 induction n with
 |zero=>
  intro f Q lc la s t hn hC hp hb hQ hpw Ky hw
  have hf:f=0:=by omega
  have hq:Q= []:=List.eq_nil_of_length_eq_zero (by omega)
  subst hf hq
  have hp:s=t:=hp
  subst hp
  rw [hb.nil]
  exact hC
 |succ n ih=>
  intro f Q lc la s t hn hC hp hb hQ hpw Ky hw
  refine ⟨?_,λi hi=>?_⟩
  ·cases Q with
   |nil=>
    rw [hb.nil]
    cases f with
    |zero=>simp at hn
    |succ f=>exact hC.1
   |cons a Q=>
    obtain ⟨o,ho,_⟩:=hP a (hQ a (by simp))
    obtain ⟨g1,g2,_⟩:=hb.off a.1 (by simp)
    have:a.1∈Region.ready .any ops la:=mem_ready.2 ⟨getD_in g1 g2,o,ho,λe he hbd=>hw a (by simp) e.on (by
     unfold Region.waitsFor
     rw [ho]
     exact Array.any_eq_true'.2 ⟨e,he,by simp [hbd]⟩)⟩
    intro e
    rw [e] at this
    cases this
  ·by_cases hiQ:i∈Q.map (·.1)
   ·obtain ⟨a,ha,rfl⟩:=List.mem_map.1 hiQ
    obtain ⟨Q1,Q2,rfl⟩:=List.append_of_mem ha
    obtain ⟨o,ho,hal⟩:=hP a (hQ a ha)
    obtain ⟨_,_,Oq⟩:=br (Γ:=Γ) (ops:=ops) hal
    have SA:=List.pairwise_append.1 hpw
    have Ah7:=List.pairwise_cons.1 SA.2.1
    rw [List.map_append,List.map_cons] at hp
    have hL: ∀p∈Q1.map (·.2)++a.2::Q2.map (·.2),oY p.1 p.2.1 p.2.2:= λp wk=>by
     have:p∈(Q1++a::Q2).map (·.2):=by rw [List.map_append,List.map_cons];exact wk
     obtain ⟨c,hc,rfl⟩:=List.mem_map.1 this
     obtain ⟨o',_,All⟩:=hP c (hQ c hc)
     exact (br (Γ:=Γ) (ops:=ops) All).2.1
    obtain ⟨p1,p2⟩:=uN _ hp hL λp wk=>by
     obtain ⟨c,hc,rfl⟩:=List.mem_map.1 wk
     exact (SA.2.2 c hc a (by simp)).1
    refine ⟨o,_,ho,Oq t p1,ih f (Q1++Q2) lc _ s _ ?_ hC (by rw [List.map_append];exact p2) (hb.one hiQ λk=>?_) (λc hc=>hQ c ?_) ?_ (Ky.set hi) λc hc x hx=>getD_set_true (hw c ?_ x hx)⟩
    ·simp only [List.length_append,List.length_cons] at hn⊢;omega
    ·simp only [List.map_append,List.map_cons,List.mem_append,List.mem_cons]
     constructor
     ·intro h
      rcases h with h|h
      ·obtain ⟨c,hc,rfl⟩:=List.mem_map.1 h
       exact ⟨.inl h,(SA.2.2 c hc a (by simp)).2⟩
      ·obtain ⟨c,hc,rfl⟩:=List.mem_map.1 h
       exact ⟨.inr (.inr h),Ne.symm (Ah7.1 c hc).2⟩
     ·rintro ⟨h|h|h,Ek⟩
      ·exact .inl h
      ·exact absurd h Ek
      ·exact .inr h
    ·rcases List.mem_append.1 hc with hc|hc
     ·exact List.mem_append_left _ hc
     ·exact List.mem_append_right _ (List.mem_cons_of_mem _ hc)
    ·exact List.pairwise_append.2 ⟨SA.1,Ah7.2,λc hc e he=>SA.2.2 c hc e (List.mem_cons_of_mem _ he)⟩
    ·rcases List.mem_append.1 hc with hc|hc
     ·exact List.mem_append_left _ hc
     ·exact List.mem_append_right _ (List.mem_cons_of_mem _ hc)
   ·have hic:=hb.ready hi hiQ
    cases f with
    |zero=>
     rw [hC.1] at hic
     cases hic
    |succ f=>
     obtain ⟨o,s',ho,dP,he,cD⟩:=hC.2 i hic
     have XY: ∀a∈Q,ji ops 5 i a.1=false:= λa ha=>by
      cases hwt:ji ops 5 i a.1 with
      |false=>rfl
      |true=>
       have h1:=il Ky _ i (λx hx=>Zf hi hx) hwt
       rw [(hb.off a.1 (List.mem_map.2 ⟨a,ha,rfl⟩)).2.1] at h1
       cases h1
     have key: ∃t',Ch T Γ ops t o=some t'/\vD (Q.map (·.2)) s' t':=by
      unfold FM at dP
      rw [Bool.or_eq_true,Bool.and_eq_true] at dP
      rcases dP with dP|⟨h1,h2⟩
      ·cases Q with
       |nil=>
        have hp:s=t:=hp
        subst hp
        exact ⟨s',he,rfl⟩
       |cons a Q=>
        have:=List.all_eq_true.1 dP a (hQ a (by simp))
        rw [XY a (by simp)] at this
        cases this
      ·obtain ⟨t',g1,g2,_⟩:=uM (T:=T) (ops:=ops) _ s t s' hp (λq hq=>by
        obtain ⟨a,ha,rfl⟩:=List.mem_map.1 hq
        obtain ⟨o',_,hal⟩:=hP a (hQ a ha)
        have h3:=List.all_eq_true.1 h2 a (hQ a ha)
        rw [XY a ha,Bool.false_or,Bool.and_eq_true] at h3
        exact ⟨(br (Γ:=Γ) (ops:=ops) hal).2.1,h3.1,FK h3.2⟩) h1 he
       exact ⟨t',g1,g2⟩
     obtain ⟨t',g1,g2⟩:=key
     exact ⟨o,t',ho,g1,ih f Q _ _ s' t' (by omega) cD g2 (hb.both hiQ) hQ hpw (Ky.set hi) λc hc x hx=>getD_set_true (hw c hc x hx)⟩
def Ue (T:Tab) (ops:Array Oper) (Aa:Array Bool):List (Nat×Nat×AV×OB):=(Region.ready .any ops Aa).filterMap λi=>((ops[i]?).bind (bq T)).map λr=>(i,r)
theorem vK {Aa:Array Bool} {a:Nat×Nat×AV×OB} (h:a∈Ue T ops Aa):a.1∈Region.ready .any ops Aa/\ ∃o,ops[a.1]?=some o/\bq T o=some a.2:=by
 unfold Ue at h
 obtain ⟨i,hi,he⟩:=List.mem_filterMap.1 h
 cases ho:ops[i]? with
 |none=>rw [ho] at he;cases he
 |some o=>
  rw [ho] at he
  simp only [Option.bind_some,Option.map_eq_some_iff] at he
  obtain ⟨r,h1,rfl⟩:=he
  exact ⟨hi,o,ho,h1⟩
theorem XD {Aa:Array Bool} {Q:List Nat} (h: ∀i∈Q,i∈Region.ready .any ops Aa):PR (Cr Q Aa) Aa Q:=by
 have hr: ∀i∈Q,i<Aa.size/\Aa.getD i false=false:= λi hi=>by
  have h1:=(mem_ready.1 (h i hi)).1
  refine ⟨?_,getD_both h1⟩
  rcases Nat.lt_or_ge i Aa.size with h'|h'
  ·exact h'
  ·simp [Array.getElem?_eq_none h'] at h1
 exact ⟨(Qx Q Aa).symm,λk hk=>⟨(hr k hk).1,(hr k hk).2,bI Q Aa k hk (hr k hk).1⟩,λk hk=>(a8 Q Aa k hk).symm⟩
theorem AL: ∀(Q:List (Nat×Nat×AV×OB)) (t s:St),(∀a∈Q,∃o,ops[a.1]?=some o/\bq T o=some a.2)->(∀a∈Q,Ej a.2.1 t)->(Q.Pairwise λa c=>a.2.1≠c.2.1)->Ij T Γ ops (Q.map (·.1)) t=some s->vD (Q.map (·.2)) s t
 | [],t,s,_,_,_,h=>by
  have h:some t=some s:=h
  exact (Option.some.inj h).symm
 |a::Q,t,s,hQ,hn,hp,h=>by
  obtain ⟨o,ho,hal⟩:=hQ a (by simp)
  obtain ⟨_,hL,Oq⟩:=br (Γ:=Γ) (ops:=ops) hal
  obtain ⟨uk,JV⟩:=List.pairwise_cons.1 hp
  simp only [List.map_cons,Ij,ho] at h
  rw [Oq t (hn a (by simp))] at h
  refine ⟨hn a (by simp),AL Q _ s (λc hc=>hQ c (List.mem_cons_of_mem _ hc)) (λc hc=>?_) JV h⟩
  exact (hn c (List.mem_cons_of_mem _ hc)).plus (Ne.symm (uk c hc)) (λh=>uk c hc (hL.v1 _ h).symm) (by rw [hL.b1];simp)
end
end Go.Proofs.YtfolipnappekaaaGreat
