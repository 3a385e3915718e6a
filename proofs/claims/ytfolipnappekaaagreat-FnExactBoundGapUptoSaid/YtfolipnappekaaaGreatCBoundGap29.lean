/-
  Part 30 of the proof that the statement FnExactBoundGap holds.
-/
import Derived.Test.YtfolipnappekaaaGreatCBoundGap28
namespace Go.Proofs.YtfolipnappekaaaGreat
open Go.RowKit
def Fc (d:Nat) (v:AV) (b:OB) (st:St):St:= {tmps:=Pd st.tmps d v,heap:=Jl st.heap d b}
def kP (d:Nat) (st:St):Bool:=(st.get d).refs.isEmpty&&((st.tmps.all λv=>!v.refs.contains d)&&st.heap.all λp=>!Nat.beq p.1 d&&!p.2.refs.contains d)
structure Ep (d:Nat) (st:St):Prop where
 own:(st.get d).refs= []
 tmps: ∀v∈st.tmps,d∉v.refs
 heap: ∀p∈st.heap,p.1≠d/\d∉p.2.refs
theorem pe {d:Nat} {st:St} (h:kP d st=true):Ep d st:=by
 unfold kP at h
 rw [Bool.and_eq_true,Bool.and_eq_true,List.all_eq_true,List.all_eq_true] at h
 obtain ⟨h0,h⟩:=h
 refine ⟨List.isEmpty_iff.1 h0,λv hv=>?_,λp hp=>?_⟩
 ·have:=h.1 v hv
  intro hd
  rw [List.contains_iff_mem.2 hd] at this
  cases this
 ·have:=h.2 p hp
  rw [Bool.and_eq_true] at this
  refine ⟨λe=>?_,λhd=>?_⟩
  ·have h1:=this.1
   rw [e,Nat.beq_refl] at h1
   cases h1
  ·have h1:=this.2
   rw [List.contains_iff_mem.2 hd] at h1
   cases h1
theorem JS {d:Nat} {st:St} (h:Ep d st):kP d st=true:=by
 unfold kP
 rw [Bool.and_eq_true,Bool.and_eq_true,List.all_eq_true,List.all_eq_true]
 refine ⟨by rw [h.own];rfl,λv hv=>?_,λp hp=>?_⟩
 ·rw [Bool.not_eq_true',<-Bool.not_eq_true,List.contains_iff_mem];exact h.tmps v hv
 ·rw [Bool.and_eq_true]
  refine ⟨?_,?_⟩
  ·rw [Bool.not_eq_true',<-Bool.not_eq_true]
   exact λe=>(h.heap p hp).1 (Nat.eq_of_beq_eq_true e)
  ·rw [Bool.not_eq_true',<-Bool.not_eq_true,List.contains_iff_mem];exact (h.heap p hp).2
structure nL (d:Nat) (v:AV) (b:OB):Prop where
 v1: ∀l,l∈v.refs->l=d
 b1:b.refs= []
 v2: ∀l,l≠d->v.map (Ba l)=v
 b2: ∀l,b.map (Ba l)=b
theorem Zy {α:Type} : ∀(xs:List α) (d t:Nat) (v x:α),d≠t->(Pd xs d v).getD t x=xs.getD t x
 | [],_,_,_,_,_=>rfl
 |y::r,0,0,_,_,h=>absurd rfl h
 |y::r,0,t+1,_,_,_=>by simp [Pd]
 |y::r,d+1,0,_,_,_=>by simp [Pd]
 |y::r,d+1,t+1,v,x,h=>by simpa [Pd] using Zy r d t v x (by omega)
theorem lh {α:Type} : ∀(xs:List α) (d e:Nat) (v w:α),d≠e->Pd (Pd xs d v) e w=Pd (Pd xs e w) d v
 | [],_,_,_,_,_=>rfl
 |y::r,0,0,_,_,h=>absurd rfl h
 |y::r,0,e+1,_,_,_=>rfl
 |y::r,d+1,0,_,_,_=>rfl
 |y::r,d+1,e+1,v,w,h=>by simp only [Pd];rw [lh r d e v w (by omega)]
theorem ta: ∀(H:List (Nat×OB)) (d l:Nat) (b:OB),d≠l->Ad (Jl H d b) l=Ad H l
 | [],d,l,b,h=>by simp [Jl,Ad,h]
 |(k,c)::r,d,l,b,h=>by
  simp only [Jl]
  split
  ·simp only [Ad];rw [if_neg h]
  ·simp only [Ad]
   split
   ·rfl
   ·exact ta r d l b h
theorem tj: ∀(H:List (Nat×OB)) (d e:Nat) (b c:OB),d≠e->Jl (Jl H d b) e c=Jl (Jl H e c) d b
 | [],d,e,b,c,h=>by
  simp only [Jl]
  by_cases h1:e<d
  ·rw [if_pos h1,if_neg (by omega)]
  ·rw [if_neg h1,if_pos (by omega)]
 |(k,a)::r,d,e,b,c,h=>by
  simp only [Jl]
  by_cases h1:d<k<;>by_cases h2:e<k
  ·rw [if_pos h1,if_pos h2]
   simp only [Jl]
   by_cases h3:e<d
   ·rw [if_pos h3,if_neg (by omega),if_pos h1]
   ·rw [if_neg h3,if_pos h2,if_pos (by omega)]
  ·rw [if_pos h1,if_neg h2]
   simp only [Jl]
   rw [if_neg (by omega),if_neg h2,if_pos h1]
  ·rw [if_neg h1,if_pos h2]
   simp only [Jl]
   rw [if_pos h2,if_neg (by omega),if_neg h1]
  ·rw [if_neg h1,if_neg h2]
   simp only [Jl]
   rw [if_neg h1,if_neg h2,tj r d e b c h]
theorem u5: ∀(H:List (Nat×OB)) (d l:Nat) (b c:OB),d≠l->Ug (Jl H d b) l c=Jl (Ug H l c) d b
 | [],d,l,b,c,h=>by simp [Jl,Ug,h]
 |(k,a)::r,d,l,b,c,h=>by
  simp only [Jl,Ug]
  by_cases h1:d<k<;>by_cases h2:k=l
  ·rw [if_pos h1,if_pos h2]
   simp only [Ug,Jl]
   rw [if_neg h,if_pos h2,if_pos h1]
  ·rw [if_pos h1,if_neg h2]
   simp only [Ug,Jl]
   rw [if_neg h,if_neg h2,if_pos h1]
  ·rw [if_neg h1,if_pos h2]
   simp only [Ug,Jl]
   rw [if_pos h2,if_neg h1]
  ·rw [if_neg h1,if_neg h2]
   simp only [Ug,Jl]
   rw [if_neg h2,if_neg h1,u5 r d l b c h]
theorem lS {l:Nat} : ∀ {c:AC},l∉c.refs->Ba l c=c:=by
 intro c h
 cases c<;>simp only [Ba]<;>simp only [AC.refs,List.mem_singleton] at h
 case clo f Bz=>rw [if_neg (by simpa using h)]
 all_goals (first|rfl|rw [if_neg (Ne.symm h)])
theorem Ux {l:Nat} : ∀ {cs:List AC},l∉cs.flatMap AC.refs->cs.map (Ba l)=cs
 | [],_=>rfl
 |c::r,h=>by
  rw [List.flatMap_cons,List.mem_append] at h
  rw [List.map_cons,lS (λhh=>h (.inl hh)),Ux (λhh=>h (.inr hh))]
theorem xR {l:Nat} : ∀ {v:AV},l∉v.refs->v.map (Ba l)=v
 | .at a,h=>by simp only [AV.map];rw [lS h]
 | .agg cs,h=>by simp only [AV.map];rw [Ux h]
 | .Vu _ _ _,_=>rfl
 | .Il ps,h=>by
  simp only [AV.map]
  congr 1
  simp only [AV.refs] at h
  induction ps with
  |nil=>rfl
  |cons p r ih=>
   rw [List.flatMap_cons,List.mem_append] at h
   rw [List.map_cons,Ux (λhh=>h (.inl hh)),ih (λhh=>h (.inr hh))]
theorem xS {l:Nat} : ∀ {b:OB},l∉b.refs->b.map (Ba l)=b
 | .arr _ _ _ _ _,_=>rfl
 | .Dn _ _ _,_=>rfl
 | .var _ vs,h=>by simp only [OB.map];rw [Ux h]
 | .Ak _ _ _ _ _,_=>rfl
 | .Qc _ _,_=>rfl
theorem xG {l:Nat} : ∀ {H:List (Nat×OB)},(∀p∈H,p.1≠l)->Uk H l=H
 | [],_=>rfl
 |(k,b)::r,h=>by
  simp only [Uk]
  rw [if_neg (h (k,b) (by simp)),xG λp hp=>h p (by simp [hp])]
theorem Ep.forget {l:Nat} {st:St} (h:Ep l st):st.forget l=st:=by
 have e1:st.tmps.map (λv=>v.map (Ba l))=st.tmps:=(List.map_congr_left λv hv=>xR (h.tmps v hv)).trans (List.map_id _)
 have e2:st.heap.map (λp=>(p.1,p.2.map (Ba l)))=st.heap:=(List.map_congr_left λp hp=>by rw [xS (h.heap p hp).2];rfl).trans (List.map_id _)
 unfold St.forget St.Gv
 simp only [e1,e2]
 rw [xG λp hp=>(h.heap p hp).1]
theorem Ep.new {l:Nat} {st:St} (h:Ep l st) (b:OB) (v:AV):(st.new l b).put (some l) v=Fc l v b st:=by
 unfold St.new
 rw [h.forget]
 rfl
theorem pb {α:Type} : ∀ {xs:List α} {d:Nat} {v x:α},x∈Pd xs d v->x∈xs\/x=v
 | [],_,_,_,h=>by cases h
 |y::r,0,v,x,h=>by
  rcases List.mem_cons.1 h with h|h
  ·exact .inr h
  ·exact .inl (List.mem_cons_of_mem _ h)
 |y::r,d+1,v,x,h=>by
  rcases List.mem_cons.1 h with h|h
  ·exact .inl (by rw [h];simp)
  ·exact (pb h).imp (List.mem_cons_of_mem _) id
theorem yO: ∀ {H:List (Nat×OB)} {d:Nat} {b:OB} {p:Nat×OB},p∈Jl H d b->p∈H\/p=(d,b)
 | [],d,b,p,h=> .inr (by simpa [Jl] using h)
 |(k,c)::r,d,b,p,h=>by
  simp only [Jl] at h
  split at h
  ·rcases List.mem_cons.1 h with h|h
   ·exact .inr h
   ·exact .inl h
  ·rcases List.mem_cons.1 h with h|h
   ·exact .inl (by rw [h];simp)
   ·exact (yO h).imp (List.mem_cons_of_mem _) id
theorem UA {d:Nat} {v:AV} {b:OB} {st:St} {x:Operand} (h:x≠ .tmp d):(Fc d v b st).ev x=st.ev x:=by
 cases x with
 |tmp t=>exact Zy _ _ _ _ _ (λe=>h (by rw [e]))
 |_=>rfl
theorem GF {d l:Nat} {v:AV} {b:OB} {st:St} (h:d≠l):(Fc d v b st).at l=st.at l:=ta _ _ _ _ h
theorem NN {d e:Nat} {v u:AV} {b:OB} {st:St} (h:d≠e):(Fc d v b st).put (some e) u=Fc d v b (st.put (some e) u):=by
 unfold Fc St.put
 simp only
 rw [lh _ _ _ _ _ h]
theorem IC {d l:Nat} {v:AV} {b c:OB} {st:St} (h:d≠l):(Fc d v b st).Ge l c=Fc d v b (st.Ge l c):=by
 unfold Fc St.Ge
 simp only
 rw [u5 _ _ _ _ _ h]
theorem sD {d e:Nat} {v u:AV} {b c:OB} {st:St} (h:d≠e):Fc e u c (Fc d v b st)=Fc d v b (Fc e u c st):=by
 unfold Fc
 rw [lh _ _ _ _ _ h,tj _ _ _ _ _ h]
theorem Ep.put {d:Nat} {st:St} {e:Nat} {u:AV} (h:Ep d st) (UT:e≠d) (hu:d∉u.refs):Ep d (st.put (some e) u):=
 ⟨by show (List.getD (Pd st.tmps e u) d .undef).refs= [];rw [Zy _ _ _ _ _ UT];exact h.own,λv hv=>(pb hv).elim (h.tmps v) λe=>by rw [e];exact hu,h.heap⟩
theorem Ep.plus {d e:Nat} {u:AV} {c:OB} {st:St} (h:Ep d st) (UT:d≠e) (hu:d∉u.refs) (hc:d∉c.refs):Ep d (Fc e u c st):=
 ⟨by show (List.getD (Pd st.tmps e u) d .undef).refs= [];rw [Zy _ _ _ _ _ (Ne.symm UT)];exact h.own,λv hv=>(pb hv).elim (h.tmps v) λe=>by rw [e];exact hu,λp hp=>(yO hp).elim (h.heap p) λe'=>by rw [e'];exact ⟨Ne.symm UT,hc⟩⟩
theorem Ep.Abd {d e:Nat} {u:AV} {c:OB} {st:St} (h:Ep d (Fc e u c st)): ∀p∈st.heap,p.1≠d/\d∉p.2.refs:= λp hp=>h.heap p (by
 show p∈Jl st.heap e c
 generalize st.heap=H at hp
 induction H with
 |nil=>cases hp
 |cons q r ih=>
  obtain ⟨k,a⟩:=q
  simp only [Jl]
  split
  ·exact List.mem_cons_of_mem _ hp
  ·rcases List.mem_cons.1 hp with hp|hp
   ·rw [hp];simp
   ·exact List.mem_cons_of_mem _ (ih hp))
theorem nk {st st':St} : ∀(τ:Ty) (cs:List AC),cs.all (·.settled)=true->Cw st' τ cs=Cw st τ cs:=by
 intro τ
 induction τ with
 |unit=>intro cs _;cases cs<;>rfl
 |pair a r iw eK=>
  intro cs h
  simp only [Cw]
  rw [List.all_eq_true] at h
  rw [iw _ (List.all_eq_true.2 λc hc=>h c (List.mem_of_mem_take hc)),eK _ (List.all_eq_true.2 λc hc=>h c (List.mem_of_mem_drop hc))]
 |_=>
  intro cs h
  rcases cs with _|⟨c,_|⟨c',cs⟩⟩
  ·rfl
  ·simp only [List.all_cons,List.all_nil,Bool.and_true] at h
   simp only [Cw]
   exact Vd h
  ·rfl
theorem bL {st st':St} {τ:Ty} {v:AV} (h:v.settled=true):Cx st' τ v=Cx st τ v:=by
 cases v with
 | «at»a=>
  have ha:a.settled=true:=h
  cases a<;>simp only [AC.settled,Bool.false_eq_true] at ha
  all_goals
   simp only [Cx]
   rw [Ld rfl,Ld rfl]
   rw [Vd (st:=st) (st':=st') rfl]
 |agg cs=>simp only [Cx];rw [nk _ _ h]
 |Vu _ _ _=>rfl
 |Il _=>rfl
theorem ek {st st':St} : ∀(τ:Ty) (vs:List AV),vs.all (·.settled)=true->Bu st' τ vs=Bu st τ vs
 | .pair a r,v::vs,h=>by
  rw [List.all_cons,Bool.and_eq_true] at h
  simp only [Bu]
  rw [bL (st:=st) (st':=st') h.1,ek r vs h.2]
 | .pair _ _,[],_=>rfl
 | .unit,[],_=>rfl
 | .unit,_::_,_=>rfl
 | .int _,vs,_=>by cases vs<;>rfl
 | .bool,vs,_=>by cases vs<;>rfl
 | .str,vs,_=>by cases vs<;>rfl
 | .slice _,vs,_=>by cases vs<;>rfl
 | .oslice _,vs,_=>by cases vs<;>rfl
 | .ptr _,vs,_=>by cases vs<;>rfl
 | .optr _,vs,_=>by cases vs<;>rfl
 | .smap _,vs,_=>by cases vs<;>rfl
 | .clo _ _,vs,_=>by cases vs<;>rfl
def Qt:AV->Bool
 | .at (.data _ _ _)=>true
 |_=>false
def ei (o:Oper):List Operand:=match o.op with
 | .move x=> [x]
 | .load _ x=> [x]
 | .call {callee:= .value (.func _),args, .. } =>args.toList
 | .insert _ m k x=> [m,k,x]
 | .buildSlice _ _ parts=>parts.toList.map (·.2)
 |_=> []
def dE (d:Nat):Operand->Bool
 | .tmp t=>!Nat.beq t d
 |_=>true
theorem JT {d:Nat} {x:Operand} (h:dE d x=true):x≠ .tmp d:= λe=>by
 subst e
 simp [dE] at h
def Qx (Γ:Env) (st:St) (o:Oper):Bool:=match o.guard with
 |some _=>false
 |none=>match o.op with
  | .move _=>true
  | .load _ x=>(match st.ev x with
   | .at (.Ea _ _)=>true
   |_=>false)
  | .call {callee:= .value (.func f),args, .. } =>(match Γ f with
   |some (.q _)=>true
   |_=>false)&&args.toList.all λx=>(st.ev x).settled
  | .insert _ m k x=>(match st.ev m with
   | .at (.Gm _)=>true
   |_=>false)&&Qt (st.ev k)&&(st.ev x).settled
  | .buildSlice _ _ parts=>(parts.toList.all λp=>Qt (st.ev p.2))&&(match o.dst with
   |some e=>kP e st
   |none=>false)
  |_=>false
theorem Ep.ev {d:Nat} {st:St} (h:Ep d st) (x:Operand):d∉(st.ev x).refs:=by
 cases x with
 |tmp t=>
  simp only [St.ev,St.get]
  rw [List.getD_eq_getElem?_getD]
  by_cases hl:t<st.tmps.length
  ·rw [List.getElem?_eq_getElem hl];exact h.tmps _ (List.getElem_mem hl)
  ·rw [List.getElem?_eq_none (Nat.le_of_not_lt hl)];simp [AV.refs,AC.refs]
 |const c=>
  simp only [St.ev]
  unfold iI
  split<;>simp [AV.refs,AC.refs]
 |func f=>simp [St.ev,AV.refs,AC.refs]
 |_=>simp [St.ev,AV.refs,AC.refs]
theorem yd: ∀ {H:List (Nat×OB)} {l:Nat} {b:OB},Ad H l=some b->(l,b)∈H
 |(k,c)::r,l,b,h=>by
  simp only [Ad] at h
  split at h
  ·rename_i e;subst e;cases h;simp
  ·exact List.mem_cons_of_mem _ (yd h)
section
variable {T:Tab} {Γ:Env} {ops:Array Oper} {d:Nat} {v:AV} {b:OB} {t:St}
theorem tQ {e:Option Tmp} (h:e≠some d) (hn:Ep d t) {y:AV} (hy:d∉y.refs):(Fc d v b t).put e y=Fc d v b (t.put e y)/\Ep d (t.put e y):=by
 cases e with
 |none=>exact ⟨rfl,hn⟩
 |some k=>exact ⟨NN (λe=>h (by rw [e])),hn.put (λe=>h (by rw [e])) hy⟩
theorem dM {o:Oper} (hg:o.guard=none) (a6:o.dst≠some d) (hn:Ep d t) {q:Option AV} (h1:evalOp T Γ (Fc d v b t) o=q.map λy=>(y,Fc d v b t)) (h2:evalOp T Γ t o=q.map λy=>(y,t)) (hq: ∀y,q=some y->d∉y.refs) {s':St}
  (he:Cr T Γ ops (Fc d v b t) o=some s'): ∃t',Cr T Γ ops t o=some t'/\s'=Fc d v b t'/\Ep d t':=by
 unfold Cr at he⊢
 rw [hg] at he⊢
 simp only at he⊢
 rw [h1] at he
 cases q with
 |none=>cases he
 |some y=>
  obtain ⟨p1,p2⟩:=tQ (v:=v) (b:=b) a6 hn (hq y rfl)
  refine ⟨_,by rw [h2];rfl,?_,p2⟩
  simp only [Option.map_some,Option.some.injEq] at he
  rw [<-he,p1]
theorem Tg {l:List Operand} (hu:l.all (dE d)=true): ∀x∈l,(Fc d v b t).ev x=t.ev x:= λx hx=>UA (JT (List.all_eq_true.1 hu x hx))
theorem CY {dst:Option Tmp} {x:Operand} {ty:TypeId} {pos:String} {after:Array Edge} (hn:Ep d t) (hx:(Fc d v b t).ev x=t.ev x) (a6:dst≠some d) {s':St}
  (he:Cr T Γ ops (Fc d v b t) {dst:=dst,op:= .move x,type:=ty,pos:=pos,after:=after,guard:=none} =some s'):
  ∃t',Cr T Γ ops t {dst:=dst,op:= .move x,type:=ty,pos:=pos,after:=after,guard:=none} =some t'/\s'=Fc d v b t'/\Ep d t':=
 dM rfl a6 hn (q:=some (t.ev x)) (by simp only [evalOp,Cq,hx]) (by simp only [evalOp,Cq]) (λy hy=>by cases hy;exact hn.ev x) he
def loadVar (T:Tab) (o:Option OB) (t0:TypeId) (i:Nat):Option AV:=match T.ty t0 with
 |some τ=>(match o with
  |some (.var _ vs)=>if τ.Ab then (if i+τ.size<=vs.length then some (.agg ((vs.drop i).take τ.size)) else none) else vs[i]?.map .at
  |_=>none)
 |none=>none
theorem fC {st:St} {t0:TypeId} {l i:Nat} :Kz T st t0 (.at (.Ea l i))=loadVar T (st.at l) t0 i:=by
 unfold Kz loadVar
 cases T.ty t0<;>rfl
theorem CS {dst:Option Tmp} {t0:TypeId} {x:Operand} {ty:TypeId} {pos:String} {after:Array Edge} (hn:Ep d t) (hx:(Fc d v b t).ev x=t.ev x) (a6:dst≠some d) {l i:Nat} (hp:t.ev x= .at (.Ea l i)) {s':St}
  (he:Cr T Γ ops (Fc d v b t) {dst:=dst,op:= .load t0 x,type:=ty,pos:=pos,after:=after,guard:=none} =some s'):
  ∃t',Cr T Γ ops t {dst:=dst,op:= .load t0 x,type:=ty,pos:=pos,after:=after,guard:=none} =some t'/\s'=Fc d v b t'/\Ep d t':=by
 have hld:d≠l:= λe=>by
  have:=hn.ev x
  rw [hp,e] at this
  exact this (by simp [AV.refs,AC.refs])
 refine dM rfl a6 hn (q:=loadVar T (t.at l) t0 i) ?_ ?_ (λy hy=>?_) he
 ·simp only [evalOp,Cq,hx,hp]
  rw [fC,GF hld]
 ·simp only [evalOp,Cq,hp]
  rw [fC]
 ·unfold loadVar at hy
  split at hy
  ·split at hy
   ·rename_i vs hb
    have hr:d∉vs.flatMap AC.refs:=(hn.heap _ (yd hb)).2
    have aF: ∀c∈vs,d∉c.refs:= λc hc hd=>hr (List.mem_flatMap.2 ⟨c,hc,hd⟩)
    split at hy
    ·split at hy
     ·cases hy
      intro hd
      obtain ⟨c,hc,hd⟩:=List.mem_flatMap.1 hd
      exact aF c (List.mem_of_mem_drop (List.mem_of_mem_take hc)) hd
     ·cases hy
    ·cases hv:vs[i]? with
     |none=>rw [hv] at hy;cases hy
     |some c=>
      rw [hv] at hy
      cases hy
      exact aF c (List.mem_of_getElem? hv)
   ·cases hy
  ·cases hy
theorem IF {l:List Operand} (hu:l.all (dE d)=true):l.map (Fc d v b t).ev=l.map t.ev:=List.map_congr_left λx hx=>Tg hu x hx
theorem BA {dst:Option Tmp} {f:FuncId} {args:Array Operand} {tys:Array TypeId} {ty:TypeId} {pos:String} {after:Array Edge} {sp:Spec} (Ni:Γ f=some (.q sp)) (hn:Ep d t) (hx:args.toList.map (Fc d v b t).ev=args.toList.map t.ev) (a6:dst≠some d)
  (hs:(args.toList.map t.ev).all (·.settled)=true) {s':St} (he:Cr T Γ ops (Fc d v b t) {dst:=dst,op:= .call {callee:= .value (.func f),args:=args,argTypes:=tys},type:=ty,pos:=pos,after:=after,guard:=none} =some s'):
  ∃t',Cr T Γ ops t {dst:=dst,op:= .call {callee:= .value (.func f),args:=args,argTypes:=tys},type:=ty,pos:=pos,after:=after,guard:=none} =some t'/\s'=Fc d v b t'/\Ep d t':=by
 have HC:bl sp (args.toList.map t.ev)=false:=by unfold bl;rw [hs];simp
 have BU: ∀st:St,Ju Γ st f (args.toList.map t.ev)=(match Bu t sp.arg (args.toList.map t.ev) with
   |none=>none
   |some (_,x)=>(sp.fn x).map λy=>if sp.Dv then .Vu (sp.fresh||sp.res.flat) sp.res y else .at (.data (sp.fresh||sp.res.flat) sp.res y)):= λst=>by
  unfold Ju
  rw [Ni]
  simp only
  rw [hs,ek (st:=t) _ _ hs]
  simp only [Bool.or_true,if_true]
  cases Bu t sp.arg (args.toList.map t.ev)<;>rfl
 refine dM rfl a6 hn (q:=Ju Γ t f (args.toList.map t.ev)) ?_ ?_ (λy hy=>?_) he
 ·simp only [evalOp,Cq,Ni,hx,HC]
  rw [BU,BU t]
  simp
 ·simp only [evalOp,Cq,Ni,HC]
  simp
 ·rw [BU t] at hy
  split at hy
  ·cases hy
  ·rename_i x _
   cases hf:sp.fn x with
   |none=>rw [hf] at hy;cases hy
   |some z=>
    rw [hf] at hy
    simp only [Option.map_some,Option.some.injEq] at hy
    rw [<-hy]
    split<;>simp [AV.refs,AC.refs]
def jl (T:Tab) (o:Option OB) (t0:TypeId) (s:ByteArray) (vw:(v:Ty)->Option (Bool×v.den)):Option OB:=match T.mapOf t0 with
 |some v=>(match o,vw v with
  |some (.Qc v' f),some (_,y)=>if h:v'=v/\v.flat=true/\v.Ab=false then some (.Qc v (Tt (h.1▸f:ByteArray->Option v.den) s y)) else none
  |_,_=>none)
 |none=>none
theorem fD {st:St} {t0:TypeId} {l:Nat} {fr:Bool} {s:ByteArray} {x:AV} :Fa T st t0 (.at (.Gm l)) (.at (.data fr .str s)) x=(jl T (st.at l) t0 s λv=>Cx st v x).map λc=>st.Ge l c:=by
 unfold Fa jl
 cases T.mapOf t0 with
 |none=>rfl
 |some v0=>
  simp only
  cases st.at l with
  |none=>rfl
  |some c=>
   cases c with
   |Qc v' f=>
    cases Cx st v0 x with
    |none=>rfl
    |some p=>
     simp only
     split<;>rfl
   |_=>rfl
theorem yL {o:Option OB} {t0:TypeId} {s:ByteArray} {vw:(v:Ty)->Option (Bool×v.den)} {c:OB} (h:jl T o t0 s vw=some c):c.refs= []:=by
 unfold jl at h
 split at h
 ·split at h
  ·split at h
   ·cases h;rfl
   ·cases h
  ·cases h
 ·cases h
theorem od {st:St} {t0:TypeId} {m k x:AV} {s':St} (h:Fa T st t0 m k x=some s'): ∃l fr s,m= .at (.Gm l)/\k= .at (.data fr .str s):=by
 unfold Fa at h
 split at h
 ·exact ⟨_,_,_,rfl,rfl⟩
 ·cases h
theorem yP: ∀ {H:List (Nat×OB)} {l:Nat} {c:OB} {p:Nat×OB},p∈Ug H l c->p∈H\/(p.2=c/\p.1=l/\ ∃c',(l,c')∈H)
 |(k,a)::r,l,c,p,h=>by
  simp only [Ug] at h
  split at h
  ·rename_i e
   rcases List.mem_cons.1 h with h|h
   ·subst h;exact .inr ⟨rfl,e,a,by rw [e];simp⟩
   ·exact .inl (List.mem_cons_of_mem _ h)
  ·rcases List.mem_cons.1 h with h|h
   ·exact .inl (by rw [h];simp)
   ·exact (yP h).imp (List.mem_cons_of_mem _) λ⟨h1,h2,c',h3⟩=>⟨h1,h2,c',List.mem_cons_of_mem _ h3⟩
theorem Ep.Ge {st:St} {l:Nat} {c:OB} (h:Ep d st) (hc:d∉c.refs):Ep d (st.Ge l c):=
 ⟨h.own,h.tmps,λp hp=>(yP hp).elim (h.heap p) λ⟨h1,h2,c',h3⟩=>⟨by rw [h2];exact (h.heap _ h3).1,by rw [h1];exact hc⟩⟩
theorem vd {dst:Option Tmp} {t0:TypeId} {m k x:Operand} {ty:TypeId} {pos:String} {after:Array Edge} (hn:Ep d t) (hm:(Fc d v b t).ev m=t.ev m) (hk:(Fc d v b t).ev k=t.ev k) (hx:(Fc d v b t).ev x=t.ev x) (a6:dst≠some d)
  (hs:(t.ev x).settled=true) {s':St} (he:Cr T Γ ops (Fc d v b t) {dst:=dst,op:= .insert t0 m k x,type:=ty,pos:=pos,after:=after,guard:=none} =some s'):
  ∃t',Cr T Γ ops t {dst:=dst,op:= .insert t0 m k x,type:=ty,pos:=pos,after:=after,guard:=none} =some t'/\s'=Fc d v b t'/\Ep d t':=by
 unfold Cr at he⊢
 simp only [evalOp,hm,hk,hx] at he⊢
 cases GZ:Fa T (Fc d v b t) t0 (t.ev m) (t.ev k) (t.ev x) with
 |none=>rw [GZ] at he;cases he
 |some s1=>
  rw [GZ] at he
  simp only [Option.map_some,Option.some.injEq] at he
  obtain ⟨l,fr,s,e1,e2⟩:=od GZ
  have hld:d≠l:= λe=>by
   have:=hn.ev m
   rw [e1,e] at this
   exact this (by simp [AV.refs,AC.refs])
  rw [e1,e2,fD,GF hld] at GZ
  have hvw:(λv0=>Cx (Fc d v b t) v0 (t.ev x))= λv0=>Cx t v0 (t.ev x):=funext λv0=>bL hs
  rw [hvw] at GZ
  rw [e1,e2,fD]
  cases ho:jl T (t.at l) t0 s λv0=>Cx t v0 (t.ev x) with
  |none=>rw [ho] at GZ;cases GZ
  |some c=>
   rw [ho] at GZ
   simp only [Option.map_some,Option.some.injEq] at GZ
   have hc:=yL ho
   have nA:Ep d (t.Ge l c):=hn.Ge (by rw [hc];simp)
   obtain ⟨p1,p2⟩:=tQ (v:=v) (b:=b) (y:= .undef) a6 nA (by simp [AV.refs,AC.refs])
   refine ⟨_,rfl,?_,p2⟩
   rw [<-he,<-GZ,IC hld,p1]
theorem Ep.back {e:Nat} (h:Ep e (Fc d v b t)) (UT:e≠d) (hn:Ep d t):Ep e t:=by
 have hg: ∀k,k≠d->(Fc d v b t).get k=t.get k:= λk hk=>Zy _ _ _ _ _ (Ne.symm hk)
 refine ⟨by rw [<-hg e UT];exact h.own,λu hu hd=>?_,h.Abd⟩
 obtain ⟨k,hk,rfl⟩:=List.mem_iff_getElem.1 hu
 have e1:t.get k=t.tmps[k]:=by unfold St.get;rw [List.getD_eq_getElem?_getD,List.getElem?_eq_getElem hk];rfl
 by_cases XX:k=d
 ·subst XX
  have:=hn.own
  rw [e1] at this
  rw [this] at hd
  cases hd
 ·have h1:=h.ev (.tmp k)
  have h2:(Fc d v b t).ev (.tmp k)=t.tmps[k]:=by show (Fc d v b t).get k=_;rw [hg k XX,e1]
  rw [h2] at h1
  exact h1 hd
def hZ (e:Ty):Nat->List (Nat×AV)->Option (Bool×Bool×List e.den)
 |_,[]=>some (true,true,[])
 |i,(j,x)::r=>if i=j then match Cx ⟨[],[]⟩ e x with
  |some (fr,y)=>match hZ e (i+1) r with
   |some (Qk,SW,ys)=>some (fr&&Qk,Nw ⟨[],[]⟩ x&&e.tree&&SW,y::ys)
   |none=>none
  |none=>none
  else none
theorem Zn {st:St} {e:Ty} : ∀(l:List (Nat×Operand)) (i:Nat),(l.all λp=>Qt (st.ev p.2))=true->Ha e i l st=(hZ e i (l.map λp=>(p.1,st.ev p.2))).map λp=>(p.1,p.2.1,p.2.2,st)
 | [],i,_=>rfl
 |(j,x)::r,i,h=>by
  rw [List.all_cons,Bool.and_eq_true] at h
  have hx:Qt (st.ev x)=true:=h.1
  simp only [Ha,hZ,List.map_cons]
  split
  ·generalize hxv:st.ev x=xv at hx
   unfold Qt at hx
   split at hx
   ·rename_i fr τ z
    have Aat:settle st (.at (.data fr τ z))=some (.at (.data fr τ z),st):=rfl
    rw [Aat]
    simp only
    rw [bL (st:=⟨[],[]⟩) (st':=st) (v:= .at (.data fr τ z)) rfl]
    cases Cx ⟨[],[]⟩ e (.at (.data fr τ z)) with
    |none=>rfl
    |some p=>
     simp only
     rw [Zn r (i+1) h.2]
     cases hZ e (i+1) (r.map λp=>(p.1,st.ev p.2)) with
     |none=>rfl
     |some q=>rfl
   ·cases hx
  ·rfl
def rowOf (T:Tab) (t0:TypeId) (len:Nat) (parts:List (Nat×AV)) (dst:Nat):Option (AV×OB):=match Zz T t0 with
 |some _=>none
 |none=>match T.elem t0 with
  |none=>none
  |some te=>match T.ty te with
   |none=>none
   |some e=>if parts.length=len/\len<=64/\e.size<=64/\dst<Am then (hZ e 0 parts).map λp=>(.at (.own dst 0 len), .arr ((T.ou||e.flat)&&p.1) (T.wI&&p.2.1) e te p.2.2) else none
theorem cO {st:St} {t0:TypeId} {len dst:Nat} {parts:Array (Nat×Operand)} (h:(parts.toList.all λp=>Qt (st.ev p.2))=true):
  Ey T st dst t0 len parts=(rowOf T t0 len (parts.toList.map λp=>(p.1,st.ev p.2)) dst).map λr=>(r.1,st.new dst r.2):=by
 unfold Ey rowOf
 cases Zz T t0 with
 |some p=>
  obtain ⟨te,e⟩:=p
  simp only [Option.map_none]
  split
  ·rename_i x hp
   rw [hp,List.all_cons,Bool.and_eq_true] at h
   have hx:Qt (st.ev x)=true:=h.1
   unfold Qt at hx
   split at hx
   ·rename_i hv;simp only [hv]
   ·cases hx
  ·rfl
 |none=>
  simp only
  unfold Hz
  cases T.elem t0 with
  |none=>rfl
  |some te=>
   simp only
   cases T.ty te with
   |none=>rfl
   |some e=>
    simp only [List.length_map,Array.length_toList]
    split
    ·rw [Zn _ 0 h]
     cases hZ e 0 (parts.toList.map λp=>(p.1,st.ev p.2))<;>rfl
    ·rfl
theorem mn {t0:TypeId} {len dst:Nat} {parts:List (Nat×AV)} {r:AV×OB} (h:rowOf T t0 len parts dst=some r):nL dst r.1 r.2:=by
 unfold rowOf at h
 split at h
 ·cases h
 ·split at h
  ·cases h
  ·split at h
   ·cases h
   ·split at h
    ·rename_i e _ _
     cases hp:hZ e 0 parts with
     |none=>rw [hp] at h;cases h
     |some p=>
      rw [hp] at h
      simp only [Option.map_some,Option.some.injEq] at h
      subst h
      exact ⟨λl hl=>by simpa [AV.refs,AC.refs] using hl,rfl,λl hl=>by simp only [AV.map,Ba];rw [if_neg (Ne.symm hl)],λl=>rfl⟩
    ·cases h
theorem xy {e:Nat} {t0:TypeId} {len:Nat} {parts:Array (Nat×Operand)} {ty:TypeId} {pos:String} {after:Array Edge} (_hl:nL d v b) (hn:Ep d t) (hx: ∀p∈parts.toList,(Fc d v b t).ev p.2=t.ev p.2) (a6:e≠d)
  (hp:(parts.toList.all λp=>Qt (t.ev p.2))=true) (Ff:Ep e (Fc d v b t)) {s':St} (he:Cr T Γ ops (Fc d v b t) {dst:=some e,op:= .buildSlice t0 len parts,type:=ty,pos:=pos,after:=after,guard:=none} =some s'):
  ∃t',Cr T Γ ops t {dst:=some e,op:= .buildSlice t0 len parts,type:=ty,pos:=pos,after:=after,guard:=none} =some t'/\s'=Fc d v b t'/\Ep d t':=by
 have Aag:=Ff.back a6 hn
 have j7:(parts.toList.all λp=>Qt ((Fc d v b t).ev p.2))=true:=List.all_eq_true.2 λp uW=>by rw [hx p uW];exact List.all_eq_true.1 hp p uW
 have hm:(parts.toList.map λp=>(p.1,(Fc d v b t).ev p.2))=parts.toList.map λp=>(p.1,t.ev p.2):=List.map_congr_left λp uW=>by rw [hx p uW]
 unfold Cr at he⊢
 simp only [evalOp] at he⊢
 rw [cO j7,hm] at he
 rw [cO hp]
 cases hr:rowOf T t0 len (parts.toList.map λp=>(p.1,t.ev p.2)) e with
 |none=>rw [hr] at he;cases he
 |some r=>
  rw [hr] at he
  have hL:=mn hr
  simp only [Option.map_some,Option.some.injEq] at he
  rw [Ff.new] at he
  refine ⟨Fc e r.1 r.2 t,by simp only [Option.map_some];rw [Aag.new],?_,hn.plus (Ne.symm a6) (λh=>a6 (hL.v1 _ h).symm) (by rw [hL.b1];simp)⟩
  rw [<-he,sD (Ne.symm a6)]
def ZN:Operand->AV
 | .const c=>iI c
 |_=> .undef
theorem ZO {st:St} {x:Operand} (h:Qt (ZN x)=true):st.ev x=ZN x:=by
 cases x<;>first|rfl|cases h
def aM (T:Tab) (o:Oper):Option (Nat×AV×OB):=match o.guard with
 |some _=>none
 |none=>match o.dst with
  |none=>none
  |some d=>match o.op with
   | .buildSlice t0 len parts=>if (parts.toList.all λp=>Qt (ZN p.2))=true then (rowOf T t0 len (parts.toList.map λp=>(p.1,ZN p.2)) d).map λr=>(d,r.1,r.2) else none
   | .makeMap t0 none=>match T.mapOf t0 with
    |some τ=>if d<Am then some (d, .at (.Gm d), .Qc τ λ_=>none) else none
    |none=>none
   |_=>none
theorem aN {o:Oper} {r:Nat×AV×OB} (h:aM T o=some r):o.dst=some r.1/\nL r.1 r.2.1 r.2.2/\ ∀st:St,Ep r.1 st->Cr T Γ ops st o=some (Fc r.1 r.2.1 r.2.2 st):=by
 obtain ⟨dst,op,ty,pos,after,guard⟩:=o
 unfold aM at h
 cases guard with
 |some g=>cases h
 |none=>
  cases dst with
  |none=>cases h
  |some d=>
   cases op with
   |buildSlice t0 len parts=>
    simp only at h
    split at h
    ·rename_i hp
     cases hr:rowOf T t0 len (parts.toList.map λp=>(p.1,ZN p.2)) d with
     |none=>rw [hr] at h;cases h
     |some q=>
      rw [hr] at h
      simp only [Option.map_some,Option.some.injEq] at h
      subst h
      refine ⟨rfl,mn hr,λst Ul=>?_⟩
      have BU: ∀p∈parts.toList,st.ev p.2=ZN p.2:= λp uW=>ZO (List.all_eq_true.1 hp p uW)
      have hm:(parts.toList.map λp=>(p.1,st.ev p.2))=parts.toList.map λp=>(p.1,ZN p.2):=List.map_congr_left λp uW=>by rw [BU p uW]
      have j7:(parts.toList.all λp=>Qt (st.ev p.2))=true:=List.all_eq_true.2 λp uW=>by rw [BU p uW];exact List.all_eq_true.1 hp p uW
      unfold Cr
      simp only [evalOp]
      rw [cO j7,hm,hr]
      simp only [Option.map_some]
      rw [Ul.new]
    ·cases h
   |makeMap t0 hint=>
    cases hint with
    |some x=>cases h
    |none=>
     simp only at h
     split at h
     ·rename_i τ Od
      split at h
      ·rename_i hd
       cases h
       refine ⟨rfl,⟨λl hl=>by simpa [AV.refs,AC.refs] using hl,rfl,λl hl=>by simp only [AV.map,Ba];rw [if_neg (Ne.symm hl)],λl=>rfl⟩,λst Ul=>?_⟩
       unfold Cr
       simp only [evalOp,Pg,Od,if_pos hd,Option.map_some]
       rw [Ul.new]
      ·cases h
     ·cases h
   |_=>cases h
theorem wb {l:List Operand} (h: ∀x∈l,(Fc d v b t).ev x=t.ev x):(l.all λx=>((Fc d v b t).ev x).settled)=(l.map t.ev).all (·.settled):=by
 rw [List.all_map]
 induction l with
 |nil=>rfl
 |cons x r ih=>
  simp only [List.all_cons,Function.comp]
  rw [h x (by simp),ih λy hy=>h y (by simp [hy])]
theorem wc {o:Oper} (hl:nL d v b) (hn:Ep d t) (hs:Qx Γ (Fc d v b t) o=true) (hu:(ei o).all (dE d)=true) (a6:o.dst≠some d) {s':St} (he:Cr T Γ ops (Fc d v b t) o=some s'):
  ∃t',Cr T Γ ops t o=some t'/\s'=Fc d v b t'/\Ep d t'/\Qx Γ t o=true:=by
 obtain ⟨dst,op,ty,pos,after,guard⟩:=o
 unfold Qx at hs
 cases guard with
 |some g=>cases hs
 |none=>
  simp only at hs
  split at hs
  ·rename_i x
   have hx:=Tg (v:=v) (b:=b) (t:=t) hu x (by simp [ei])
   obtain ⟨t',h1,h2,h3⟩:=CY hn hx a6 he
   exact ⟨t',h1,h2,h3,rfl⟩
  ·rename_i t0 x
   have hx:=Tg (v:=v) (b:=b) (t:=t) hu x (by simp [ei])
   rw [hx] at hs
   split at hs
   ·rename_i l i hp
    obtain ⟨t',h1,h2,h3⟩:=CS hn hx a6 hp he
    exact ⟨t',h1,h2,h3,by simp only [Qx,hp]⟩
   ·cases hs
  ·rename_i f args tys
   rw [Bool.and_eq_true] at hs
   obtain ⟨iv,qK⟩:=hs
   split at iv
   ·rename_i sp Ni
    have BU:=Tg (v:=v) (b:=b) (t:=t) (l:=args.toList) hu
    rw [wb BU] at qK
    obtain ⟨t',h1,h2,h3⟩:=BA Ni hn (IF hu) a6 qK he
    refine ⟨t',h1,h2,h3,?_⟩
    simp only [Qx,Ni,Bool.true_and]
    rw [List.all_map] at qK
    exact qK
   ·cases iv
  ·rename_i t0 m k x
   have hm:=Tg (v:=v) (b:=b) (t:=t) hu m (by simp [ei])
   have hk:=Tg (v:=v) (b:=b) (t:=t) hu k (by simp [ei])
   have hx:=Tg (v:=v) (b:=b) (t:=t) hu x (by simp [ei])
   rw [hm,hk,hx] at hs
   have hs0:=hs
   rw [Bool.and_eq_true] at hs
   obtain ⟨t',h1,h2,h3⟩:=vd hn hm hk hx a6 hs.2 he
   exact ⟨t',h1,h2,h3,hs0⟩
  ·rename_i t0 len parts
   rw [Bool.and_eq_true] at hs
   obtain ⟨iv,qK⟩:=hs
   cases dst with
   |none=>cases qK
   |some e=>
    simp only at qK
    have hed:e≠d:= λh=>a6 (by rw [h])
    have cz:(parts.toList.map (λp=>p.2)).all (dE d)=true:=hu
    have BU:=Tg (v:=v) (b:=b) (t:=t) cz
    have hx: ∀p∈parts.toList,(Fc d v b t).ev p.2=t.ev p.2:= λp hp=>BU p.2 (List.mem_map.2 ⟨p,hp,rfl⟩)
    have hp:(parts.toList.all λp=>Qt (t.ev p.2))=true:=List.all_eq_true.2 λp hp=>by rw [<-hx p hp];exact List.all_eq_true.1 iv p hp
    have Ff:=pe qK
    obtain ⟨t',h1,h2,h3⟩:=xy hl hn hx hed hp Ff he
    refine ⟨t',h1,h2,h3,?_⟩
    simp only [Qx,hp,Bool.true_and]
    exact JS (Ff.back hed hn)
  ·cases hs
def ug:List (Nat×AV×OB)->St->St->Prop
 | [],s,t=>s=t
 |q::Q,s,t=>Ep q.1 t/\ug Q s (Fc q.1 q.2.1 q.2.2 t)
theorem tJ {o:Oper} : ∀(Q:List (Nat×AV×OB)) (s t s':St),ug Q s t->(∀q∈Q,nL q.1 q.2.1 q.2.2/\(ei o).all (dE q.1)=true/\o.dst≠some q.1)->Qx Γ s o=true->Cr T Γ ops s o=some s'->
  ∃t',Cr T Γ ops t o=some t'/\ug Q s' t'/\Qx Γ t o=true
 | [],s,t,s',h,_,hs,he=>by
  have h:s=t:=h
  subst h
  exact ⟨s',he,rfl,hs⟩
 |q::Q,s,t,s',⟨h1,h2⟩,hq,hs,he=>by
  obtain ⟨u',e1,e2,e3⟩:=tJ Q s _ s' h2 (λp hp=>hq p (List.mem_cons_of_mem _ hp)) hs he
  obtain ⟨l1,l2,l3⟩:=hq q (by simp)
  obtain ⟨t',f1,f2,f3,f4⟩:=wc l1 h1 e3 l2 l3 e1
  exact ⟨t',f1,⟨f3,by rw [<-f2];exact e2⟩,f4⟩
theorem tK {q:Nat×AV×OB} : ∀(Q1:List (Nat×AV×OB)) {Q2:List (Nat×AV×OB)} {s t:St},ug (Q1++q::Q2) s t->(∀p∈Q1++q::Q2,nL p.1 p.2.1 p.2.2)->(∀p∈Q1,p.1≠q.1)->
  Ep q.1 t/\ug (Q1++Q2) s (Fc q.1 q.2.1 q.2.2 t)
 | [],Q2,s,t,h,_,_=>h
 |p::Q1,Q2,s,t,⟨h1,h2⟩,hL,Ff=>by
  have hpq:=Ff p (by simp)
  have hLp:=hL p (by simp)
  have hLq:=hL q (by simp)
  obtain ⟨g1,g2⟩:=tK Q1 h2 (λr hr=>hL r (List.mem_cons_of_mem _ hr)) λr hr=>Ff r (List.mem_cons_of_mem _ hr)
  refine ⟨g1.back (Ne.symm hpq) h1,h1.plus hpq (λh=>hpq (hLq.v1 _ h)) (by rw [hLq.b1];simp),?_⟩
  show ug (Q1++Q2) s (Fc p.1 p.2.1 p.2.2 (Fc q.1 q.2.1 q.2.2 t))
  rw [sD (Ne.symm hpq)]
  exact g2
def iq (ops:Array Oper):Nat->Nat->Nat->Bool
 |0,_,_=>false
 |f+1,i,a=>Region.waitsFor .any ops i a||(List.range ops.size).any λk=>Region.waitsFor .any ops i k&&iq ops f k a
def Up (ops:Array Oper) (Ac:Array Bool):Prop:= ∀k a,Ac.getD k false=true->Region.waitsFor .any ops k a=true->Ac.getD a false=true
theorem dN {Ac:Array Bool} {i a:Nat} (h:i∈Region.ready .any ops Ac) (hw:Region.waitsFor .any ops i a=true):Ac.getD a false=true:=by
 obtain ⟨_,o,ho,Hm⟩:=mem_ready.1 h
 obtain ⟨o',ho',e,he,hb,rfl⟩:=Region.waitsFor_spec hw
 rw [ho] at ho'
 cases ho'
 exact Hm e he hb
theorem gu {Ac:Array Bool} (hc:Up ops Ac) {a:Nat} : ∀(f i:Nat),(∀x,Region.waitsFor .any ops i x=true->Ac.getD x false=true)->iq ops f i a=true->Ac.getD a false=true
 |0,_,_,h=>by cases h
 |f+1,i,hi,h=>by
  simp only [iq,Bool.or_eq_true,List.any_eq_true,Bool.and_eq_true] at h
  rcases h with h|⟨k,_,h1,h2⟩
  ·exact hi a h
  ·exact gu hc f k (λx hx=>hc k x (hi k h1) hx) h2
theorem Up.set {Ac:Array Bool} (hc:Up ops Ac) {i:Nat} (hi:i∈Region.ready .any ops Ac):Up ops (Ac.setIfInBounds i true):= λk a hk hw=>by
 by_cases hik:i=k
 ·subst hik
  exact getD_set_true (dN hi hw)
 ·rw [getD_set_ne false hik] at hk
  exact getD_set_true (hc k a hk hw)
def DE (P:List (Nat×Nat×AV×OB)) (Γ:Env) (ops:Array Oper) (st:St) (o:Oper) (i:Nat):Bool:=
 (P.all λa=>iq ops 5 i a.1)||(Qx Γ st o&&P.all λa=>iq ops 5 i a.1||((ei o).all (dE a.2.1)&&(match o.dst with
  |some e=>!Nat.beq e a.2.1
  |none=>true)))
def ZI (T:Tab) (Γ:Env) (ops:Array Oper) (P:List (Nat×Nat×AV×OB)) (K:St->Prop):Nat->Array Bool->St->Prop
 |0,Ac,st=>Region.ready .any ops Ac= []/\K st
 |f+1,Ac,st=>Region.ready .any ops Ac≠ []/\ ∀i∈Region.ready .any ops Ac,∃o st',ops[i]?=some o/\DE P Γ ops st o i=true/\Cr T Γ ops st o=some st'/\ZI T Γ ops P K f (Ac.setIfInBounds i true) st'
structure MV (lc la:Array Bool) (Q:List Nat):Prop where
 size:la.size=lc.size
 off: ∀k∈Q,k<la.size/\la.getD k false=false/\lc.getD k false=true
 same: ∀k,k∉Q->la.getD k false=lc.getD k false
theorem MV.ready {lc la:Array Bool} {Q:List Nat} (h:MV lc la Q) {i:Nat} (hi:i∈Region.ready .any ops la) (hn:i∉Q):i∈Region.ready .any ops lc:=by
 obtain ⟨h1,o,ho,Hm⟩:=mem_ready.1 hi
 have Gc:i<la.size:=by
  rcases Nat.lt_or_ge i la.size with h'|h'
  ·exact h'
  ·simp [Array.getElem?_eq_none h'] at h1
 have h2:=getD_both h1
 rw [h.same i hn] at h2
 refine mem_ready.2 ⟨getD_in (by rw [<-h.size];exact Gc) h2,o,ho,λe he hb=>?_⟩
 have h3:=Hm e he hb
 by_cases hq:e.on∈Q
 ·exact (h.off _ hq).2.2
 ·rw [<-h.same _ hq];exact h3
theorem MV.nil {lc la:Array Bool} (h:MV lc la []):la=lc:=by
 refine Array.ext h.size λk h1 h2=>?_
 have:=h.same k (by simp)
 simpa [h1,h2] using this
theorem MV.one {lc la:Array Bool} {Q Q':List Nat} {i:Nat} (h:MV lc la Q) (hi:i∈Q) (hs: ∀k,k∈Q'↔k∈Q/\k≠i):MV lc (la.setIfInBounds i true) Q':=by
 refine ⟨by simp [h.size],λk hk=>?_,λk hk=>?_⟩
 ·obtain ⟨h1,h2⟩:=(hs k).1 hk
  obtain ⟨g1,g2,g3⟩:=h.off k h1
  exact ⟨by simpa using g1,by rw [getD_set_ne false (Ne.symm h2)];exact g2,g3⟩
 ·by_cases e:i=k
  ·subst e
   obtain ⟨g1,g2,g3⟩:=h.off i hi
   rw [g3]
   simp [g1]
  ·rw [getD_set_ne false e]
   exact h.same k λhq=>hk ((hs k).2 ⟨hq,Ne.symm e⟩)
theorem MV.both {lc la:Array Bool} {Q:List Nat} {i:Nat} (h:MV lc la Q) (hi:i∉Q):MV (lc.setIfInBounds i true) (la.setIfInBounds i true) Q:=by
 refine ⟨by simp [h.size],λk hk=>?_,λk hk=>?_⟩
 ·obtain ⟨g1,g2,g3⟩:=h.off k hk
  have Ff:i≠k:= λe=>hi (by rw [e];exact hk)
  exact ⟨by simpa using g1,by rw [getD_set_ne false Ff];exact g2,by rw [getD_set_ne false Ff];exact g3⟩
 ·by_cases e:i=k
  ·subst e
   have hs:=h.same i hi
   have hz:=h.size
   by_cases hl:i<la.size
   ·simp [hl,hz▸hl]
   ·have Gd: ¬i<lc.size:=by omega
    simp [hl,Gd]
  ·rw [getD_set_ne false e,getD_set_ne false e];exact h.same k hk
theorem DC {dst:Option Tmp} {d:Nat} (h:(match dst with
  |some e=>!Nat.beq e d
  |none=>true)=true):dst≠some d:= λe=>by
 subst e
 simp at h
theorem ID {P:List (Nat×Nat×AV×OB)} {K:St->Prop} (hP: ∀a∈P,∃o,ops[a.1]?=some o/\aM T o=some a.2):
  ∀(n f:Nat) (Q:List (Nat×Nat×AV×OB)) (lc la:Array Bool) (s t:St),n=f+Q.length->ZI T Γ ops P K f lc s->ug (Q.map (·.2)) s t->MV lc la (Q.map (·.1))->(∀a∈Q,a∈P)->
   (Q.Pairwise λa c=>a.2.1≠c.2.1/\a.1≠c.1)->Up ops la->(∀a∈Q,∀x,Region.waitsFor .any ops a.1 x=true->la.getD x false=true)->anyS T Γ ops K n la t:=by
 intro n
 induction n with
 |zero=>
  intro f Q lc la s t hn hC hp hb hQ hpw Mu hw
  have hf:f=0:=by omega
  have hq:Q= []:=List.eq_nil_of_length_eq_zero (by omega)
  subst hf hq
  have hp:s=t:=hp
  subst hp
  rw [hb.nil]
  exact hC
 |succ n ih=>
  intro f Q lc la s t hn hC hp hb hQ hpw Mu hw
  refine ⟨?_,λi hi=>?_⟩
  ·cases Q with
   |nil=>
    rw [hb.nil]
    cases f with
    |zero=>simp at hn
    |succ f=>exact hC.1
   |cons a Q=>
    obtain ⟨o,ho,_⟩:=hP a (hQ a (by simp))
    obtain ⟨g1,g2,_⟩:=hb.off a.1 (by simp)
    have:a.1∈Region.ready .any ops la:=mem_ready.2 ⟨getD_in g1 g2,o,ho,λe he hbd=>hw a (by simp) e.on (by
     unfold Region.waitsFor
     rw [ho]
     exact Array.any_eq_true'.2 ⟨e,he,by simp [hbd]⟩)⟩
    intro e
    rw [e] at this
    cases this
  ·by_cases hiQ:i∈Q.map (·.1)
   ·obtain ⟨a,ha,rfl⟩:=List.mem_map.1 hiQ
    obtain ⟨Q1,Q2,rfl⟩:=List.append_of_mem ha
    obtain ⟨o,ho,hal⟩:=hP a (hQ a ha)
    obtain ⟨_,_,Ul⟩:=aN (Γ:=Γ) (ops:=ops) hal
    have OY:=List.pairwise_append.1 hpw
    have Aep:=List.pairwise_cons.1 OY.2.1
    rw [List.map_append,List.map_cons] at hp
    have hL: ∀p∈Q1.map (·.2)++a.2::Q2.map (·.2),nL p.1 p.2.1 p.2.2:= λp uW=>by
     have:p∈(Q1++a::Q2).map (·.2):=by rw [List.map_append,List.map_cons];exact uW
     obtain ⟨c,hc,rfl⟩:=List.mem_map.1 this
     obtain ⟨o',_,Aiv⟩:=hP c (hQ c hc)
     exact (aN (Γ:=Γ) (ops:=ops) Aiv).2.1
    obtain ⟨p1,p2⟩:=tK _ hp hL λp uW=>by
     obtain ⟨c,hc,rfl⟩:=List.mem_map.1 uW
     exact (OY.2.2 c hc a (by simp)).1
    refine ⟨o,_,ho,Ul t p1,ih f (Q1++Q2) lc _ s _ ?_ hC (by rw [List.map_append];exact p2) (hb.one hiQ λk=>?_) (λc hc=>hQ c ?_) ?_ (Mu.set hi) λc hc x hx=>getD_set_true (hw c ?_ x hx)⟩
    ·simp only [List.length_append,List.length_cons] at hn⊢;omega
    ·simp only [List.map_append,List.map_cons,List.mem_append,List.mem_cons]
     constructor
     ·intro h
      rcases h with h|h
      ·obtain ⟨c,hc,rfl⟩:=List.mem_map.1 h
       exact ⟨.inl h,(OY.2.2 c hc a (by simp)).2⟩
      ·obtain ⟨c,hc,rfl⟩:=List.mem_map.1 h
       exact ⟨.inr (.inr h),Ne.symm (Aep.1 c hc).2⟩
     ·rintro ⟨h|h|h,Ff⟩
      ·exact .inl h
      ·exact absurd h Ff
      ·exact .inr h
    ·rcases List.mem_append.1 hc with hc|hc
     ·exact List.mem_append_left _ hc
     ·exact List.mem_append_right _ (List.mem_cons_of_mem _ hc)
    ·exact List.pairwise_append.2 ⟨OY.1,Aep.2,λc hc e he=>OY.2.2 c hc e (List.mem_cons_of_mem _ he)⟩
    ·rcases List.mem_append.1 hc with hc|hc
     ·exact List.mem_append_left _ hc
     ·exact List.mem_append_right _ (List.mem_cons_of_mem _ hc)
   ·have hic:=hb.ready hi hiQ
    cases f with
    |zero=>
     rw [hC.1] at hic
     cases hic
    |succ f=>
     obtain ⟨o,s',ho,bY,he,fM⟩:=hC.2 i hic
     have VB: ∀a∈Q,iq ops 5 i a.1=false:= λa ha=>by
      cases hwt:iq ops 5 i a.1 with
      |false=>rfl
      |true=>
       have h1:=gu Mu _ i (λx hx=>dN hi hx) hwt
       rw [(hb.off a.1 (List.mem_map.2 ⟨a,ha,rfl⟩)).2.1] at h1
       cases h1
     have key: ∃t',Cr T Γ ops t o=some t'/\ug (Q.map (·.2)) s' t':=by
      unfold DE at bY
      rw [Bool.or_eq_true,Bool.and_eq_true] at bY
      rcases bY with bY|⟨h1,h2⟩
      ·cases Q with
       |nil=>
        have hp:s=t:=hp
        subst hp
        exact ⟨s',he,rfl⟩
       |cons a Q=>
        have:=List.all_eq_true.1 bY a (hQ a (by simp))
        rw [VB a (by simp)] at this
        cases this
      ·obtain ⟨t',g1,g2,_⟩:=tJ (T:=T) (ops:=ops) _ s t s' hp (λq hq=>by
        obtain ⟨a,ha,rfl⟩:=List.mem_map.1 hq
        obtain ⟨o',_,hal⟩:=hP a (hQ a ha)
        have h3:=List.all_eq_true.1 h2 a (hQ a ha)
        rw [VB a ha,Bool.false_or,Bool.and_eq_true] at h3
        exact ⟨(aN (Γ:=Γ) (ops:=ops) hal).2.1,h3.1,DC h3.2⟩) h1 he
       exact ⟨t',g1,g2⟩
     obtain ⟨t',g1,g2⟩:=key
     exact ⟨o,t',ho,g1,ih f Q _ _ s' t' (by omega) fM g2 (hb.both hiQ) hQ hpw (Mu.set hi) λc hc x hx=>getD_set_true (hw c hc x hx)⟩
def Te (T:Tab) (ops:Array Oper) (Ac:Array Bool):List (Nat×Nat×AV×OB):=(Region.ready .any ops Ac).filterMap λi=>((ops[i]?).bind (aM T)).map λr=>(i,r)
theorem uo {Ac:Array Bool} {a:Nat×Nat×AV×OB} (h:a∈Te T ops Ac):a.1∈Region.ready .any ops Ac/\ ∃o,ops[a.1]?=some o/\aM T o=some a.2:=by
 unfold Te at h
 obtain ⟨i,hi,he⟩:=List.mem_filterMap.1 h
 cases ho:ops[i]? with
 |none=>rw [ho] at he;cases he
 |some o=>
  rw [ho] at he
  simp only [Option.bind_some,Option.map_eq_some_iff] at he
  obtain ⟨r,h1,rfl⟩:=he
  exact ⟨hi,o,ho,h1⟩
theorem xB:Up ops (Array.replicate ops.size false):= λk a hk _=>by
 rw [getD_replicate_false] at hk
 cases hk
theorem aS (q:Bool): ∀(l:List Nat) (Ac:Array Bool),Up ops Ac->Up ops (Eo (Fh q ops l Ac) Ac)
 | [],Ac,h=>h
 |i::r,Ac,h=>by
  simp only [Fh]
  split
  ·rename_i hc
   rw [Bool.and_eq_true,Bool.and_eq_true] at hc
   have hi:i∈Region.ready .any ops Ac:=by simpa using hc.2.1
   exact aS q r _ (h.set hi)
  ·exact aS q r Ac h
theorem dy: ∀(l:List Nat) (Ac:Array Bool),(Eo l Ac).size=Ac.size
 | [],_=>rfl
 |i::r,Ac=>by simp only [Eo];rw [dy r];simp
theorem jh: ∀(l:List Nat) (Ac:Array Bool) (k:Nat),k∈l->k<Ac.size->(Eo l Ac).getD k false=true
 |i::r,Ac,k,h,hk=>by
  simp only [Eo]
  by_cases hr:k∈r
  ·exact jh r _ k hr (by simpa using hk)
  ·have:k=i:=(List.mem_cons.1 h).resolve_right hr
   subst this
   have hs: ∀(l:List Nat) (A:Array Bool),A.getD k false=true->(Eo l A).getD k false=true:=by
    intro l
    induction l with
    |nil=>exact λA h=>h
    |cons j l ih=>exact λA h=>ih _ (getD_set_true h)
   exact hs r _ (by simp [hk])
theorem fR: ∀(l:List Nat) (Ac:Array Bool) (k:Nat),k∉l->(Eo l Ac).getD k false=Ac.getD k false
 | [],_,_,_=>rfl
 |i::r,Ac,k,h=>by
  simp only [Eo]
  rw [fR r _ k λhk=>h (List.mem_cons_of_mem _ hk),getD_set_ne false (λe=>h (by rw [e];simp))]
theorem UE {Ac:Array Bool} {Q:List Nat} (h: ∀i∈Q,i∈Region.ready .any ops Ac):MV (Eo Q Ac) Ac Q:=by
 have hr: ∀i∈Q,i<Ac.size/\Ac.getD i false=false:= λi hi=>by
  have h1:=(mem_ready.1 (h i hi)).1
  refine ⟨?_,getD_both h1⟩
  rcases Nat.lt_or_ge i Ac.size with h'|h'
  ·exact h'
  ·simp [Array.getElem?_eq_none h'] at h1
 exact ⟨(dy Q Ac).symm,λk hk=>⟨(hr k hk).1,(hr k hk).2,jh Q Ac k hk (hr k hk).1⟩,λk hk=>(fR Q Ac k hk).symm⟩
theorem zg: ∀(Q:List (Nat×Nat×AV×OB)) (t s:St),(∀a∈Q,∃o,ops[a.1]?=some o/\aM T o=some a.2)->(∀a∈Q,Ep a.2.1 t)->(Q.Pairwise λa c=>a.2.1≠c.2.1)->Jm T Γ ops (Q.map (·.1)) t=some s->ug (Q.map (·.2)) s t
 | [],t,s,_,_,_,h=>by
  have h:some t=some s:=h
  exact (Option.some.inj h).symm
 |a::Q,t,s,hQ,hn,hp,h=>by
  obtain ⟨o,ho,hal⟩:=hQ a (by simp)
  obtain ⟨_,hL,Ul⟩:=aN (Γ:=Γ) (ops:=ops) hal
  obtain ⟨x7,IZ⟩:=List.pairwise_cons.1 hp
  simp only [List.map_cons,Jm,ho] at h
  rw [Ul t (hn a (by simp))] at h
  refine ⟨hn a (by simp),zg Q _ s (λc hc=>hQ c (List.mem_cons_of_mem _ hc)) (λc hc=>?_) IZ h⟩
  exact (hn c (List.mem_cons_of_mem _ hc)).plus (Ne.symm (x7 c hc)) (λh=>x7 c hc (hL.v1 _ h).symm) (by rw [hL.b1];simp)
end
end Go.Proofs.YtfolipnappekaaaGreat
