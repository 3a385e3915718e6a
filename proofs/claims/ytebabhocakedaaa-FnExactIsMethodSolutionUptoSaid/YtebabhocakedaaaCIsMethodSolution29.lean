/-
  Part 30 of the proof that the statement FnExactIsMethodSolution holds.
-/
import Derived.Test.YtebabhocakedaaaCIsMethodSolution28
namespace Go.Proofs.Ytebabhocakedaaa
open Go.RowKit
def Ed (d:Nat) (v:AV) (b:OB) (st:St):St:= {tmps:=Ln st.tmps d v,heap:=Hr st.heap d b}
def Afr (d:Nat) (st:St):Bool:=(st.get d).refs.isEmpty&&((st.tmps.all fun v=>!v.refs.contains d)&&st.heap.all fun p=>!Nat.beq p.1 d&&!p.2.refs.contains d)
structure Dn (d:Nat) (st:St):Prop where
 own:(st.get d).refs= []
 tmps: ∀v∈st.tmps,d∉v.refs
 heap: ∀p∈st.heap,p.1≠d∧d∉p.2.refs
theorem Ajl {d:Nat} {st:St} (h:Afr d st=true):Dn d st:=by
 unfold Afr at h
 rw [Bool.and_eq_true,Bool.and_eq_true,List.all_eq_true,List.all_eq_true] at h
 obtain ⟨h0,h⟩:=h
 refine ⟨List.isEmpty_iff.1 h0,fun v hv=>?_,fun p hp=>?_⟩
 ·have:=h.1 v hv
  intro hd
  rw [List.contains_iff_mem.2 hd] at this
  cases this
 ·have:=h.2 p hp
  rw [Bool.and_eq_true] at this
  refine ⟨fun e=>?_,fun hd=>?_⟩
  ·have h1:=this.1
   rw [e,Nat.beq_refl] at h1
   cases h1
  ·have h1:=this.2
   rw [List.contains_iff_mem.2 hd] at h1
   cases h1
theorem Az3 {d:Nat} {st:St} (h:Dn d st):Afr d st=true:=by
 unfold Afr
 rw [Bool.and_eq_true,Bool.and_eq_true,List.all_eq_true,List.all_eq_true]
 refine ⟨by rw [h.own];rfl,fun v hv=>?_,fun p hp=>?_⟩
 ·rw [Bool.not_eq_true',←Bool.not_eq_true,List.contains_iff_mem];exact h.tmps v hv
 ·rw [Bool.and_eq_true]
  refine ⟨?_,?_⟩
  ·rw [Bool.not_eq_true',←Bool.not_eq_true]
   exact fun e=>(h.heap p hp).1 (Nat.eq_of_beq_eq_true e)
  ·rw [Bool.not_eq_true',←Bool.not_eq_true,List.contains_iff_mem];exact (h.heap p hp).2
structure Ai7 (d:Nat) (v:AV) (b:OB):Prop where
 v1: ∀l,l∈v.refs→l=d
 b1:b.refs= []
 v2: ∀l,l≠d→v.map (Aw l)=v
 b2: ∀l,b.map (Aw l)=b
theorem Ub {α:Type} : ∀(xs:List α) (d t:Nat) (v x:α),d≠t→(Ln xs d v).getD t x=xs.getD t x
 | [],_,_,_,_,_=>rfl
 |y::r,0,0,_,_,h=>absurd rfl h
 |y::r,0,t+1,_,_,_=>by simp [Ln]
 |y::r,d+1,0,_,_,_=>by simp [Ln]
 |y::r,d+1,t+1,v,x,h=>by simpa [Ln] using Ub r d t v x (by omega)
theorem Ag2 {α:Type} : ∀(xs:List α) (d e:Nat) (v w:α),d≠e→Ln (Ln xs d v) e w=Ln (Ln xs e w) d v
 | [],_,_,_,_,_=>rfl
 |y::r,0,0,_,_,h=>absurd rfl h
 |y::r,0,e+1,_,_,_=>rfl
 |y::r,d+1,0,_,_,_=>rfl
 |y::r,d+1,e+1,v,w,h=>by simp only [Ln];rw [Ag2 r d e v w (by omega)]
theorem Amy: ∀(H:List (Nat×OB)) (d l:Nat) (b:OB),d≠l→Ac (Hr H d b) l=Ac H l
 | [],d,l,b,h=>by simp [Hr,Ac,h]
 |(k,c)::r,d,l,b,h=>by
  simp only [Hr]
  split
  ·simp only [Ac];rw [if_neg h]
  ·simp only [Ac]
   split
   ·rfl
   ·exact Amy r d l b h
theorem An0: ∀(H:List (Nat×OB)) (d e:Nat) (b c:OB),d≠e→Hr (Hr H d b) e c=Hr (Hr H e c) d b
 | [],d,e,b,c,h=>by
  simp only [Hr]
  by_cases h1:e<d
  ·rw [if_pos h1,if_neg (by omega)]
  ·rw [if_neg h1,if_pos (by omega)]
 |(k,a)::r,d,e,b,c,h=>by
  simp only [Hr]
  by_cases h1:d<k<;>by_cases h2:e<k
  ·rw [if_pos h1,if_pos h2]
   simp only [Hr]
   by_cases h3:e<d
   ·rw [if_pos h3,if_neg (by omega),if_pos h1]
   ·rw [if_neg h3,if_pos h2,if_pos (by omega)]
  ·rw [if_pos h1,if_neg h2]
   simp only [Hr]
   rw [if_neg (by omega),if_neg h2,if_pos h1]
  ·rw [if_neg h1,if_pos h2]
   simp only [Hr]
   rw [if_pos h2,if_neg (by omega),if_neg h1]
  ·rw [if_neg h1,if_neg h2]
   simp only [Hr]
   rw [if_neg h1,if_neg h2,An0 r d e b c h]
theorem Ao4: ∀(H:List (Nat×OB)) (d l:Nat) (b c:OB),d≠l→Tj (Hr H d b) l c=Hr (Tj H l c) d b
 | [],d,l,b,c,h=>by simp [Hr,Tj,h]
 |(k,a)::r,d,l,b,c,h=>by
  simp only [Hr,Tj]
  by_cases h1:d<k<;>by_cases h2:k=l
  ·rw [if_pos h1,if_pos h2]
   simp only [Tj,Hr]
   rw [if_neg h,if_pos h2,if_pos h1]
  ·rw [if_pos h1,if_neg h2]
   simp only [Tj,Hr]
   rw [if_neg h,if_neg h2,if_pos h1]
  ·rw [if_neg h1,if_pos h2]
   simp only [Tj,Hr]
   rw [if_pos h2,if_neg h1]
  ·rw [if_neg h1,if_neg h2]
   simp only [Tj,Hr]
   rw [if_neg h2,if_neg h1,Ao4 r d l b c h]
theorem Agn {l:Nat} : ∀ {c:AC},l∉c.refs→Aw l c=c:=by
 intro c h
 cases c<;>simp only [Aw]<;>simp only [AC.refs,List.mem_singleton] at h
 case clo f caps=>rw [if_neg (by simpa using h)]
 all_goals (first|rfl|rw [if_neg (Ne.symm h)])
theorem Pz {l:Nat} : ∀ {cs:List AC},l∉cs.flatMap AC.refs→cs.map (Aw l)=cs
 | [],_=>rfl
 |c::r,h=>by
  rw [List.flatMap_cons,List.mem_append] at h
  rw [List.map_cons,Agn (fun hh=>h (.inl hh)),Pz (fun hh=>h (.inr hh))]
theorem As8 {l:Nat} : ∀ {v:AV},l∉v.refs→v.map (Aw l)=v
 | .at a,h=>by simp only [AV.map];rw [Agn h]
 | .agg cs,h=>by simp only [AV.map];rw [Pz h]
 | .tup _ _ _,_=>rfl
 | .tupc ps,h=>by
  simp only [AV.map]
  congr 1
  simp only [AV.refs] at h
  induction ps with
  |nil=>rfl
  |cons p r ih=>
   rw [List.flatMap_cons,List.mem_append] at h
   rw [List.map_cons,Pz (fun hh=>h (.inl hh)),ih (fun hh=>h (.inr hh))]
theorem As9 {l:Nat} : ∀ {b:OB},l∉b.refs→b.map (Aw l)=b
 | .arr _ _ _ _ _,_=>rfl
 | .xarr _ _ _,_=>rfl
 | .var _ vs,h=>by simp only [OB.map];rw [Pz h]
 | .grid _ _ _ _ _,_=>rfl
 | .smp _ _,_=>rfl
theorem Arx {l:Nat} : ∀ {H:List (Nat×OB)},(∀p∈H,p.1≠l)→Pn H l=H
 | [],_=>rfl
 |(k,b)::r,h=>by
  simp only [Pn]
  rw [if_neg (h (k,b) (by simp)),Arx fun p hp=>h p (by simp [hp])]
theorem Dn.forget {l:Nat} {st:St} (h:Dn l st):st.forget l=st:=by
 have e1:st.tmps.map (fun v=>v.map (Aw l))=st.tmps:=(List.map_congr_left fun v hv=>As8 (h.tmps v hv)).trans (List.map_id _)
 have e2:st.heap.map (fun p=>(p.1,p.2.map (Aw l)))=st.heap:=(List.map_congr_left fun p hp=>by rw [As9 (h.heap p hp).2];rfl).trans (List.map_id _)
 unfold St.forget St.Fc
 simp only [e1,e2]
 rw [Arx fun p hp=>(h.heap p hp).1]
theorem Dn.new {l:Nat} {st:St} (h:Dn l st) (b:OB) (v:AV):(st.new l b).put (some l) v=Ed l v b st:=by
 unfold St.new
 rw [h.forget]
 rfl
theorem Aji {α:Type} : ∀ {xs:List α} {d:Nat} {v x:α},x∈Ln xs d v→x∈xs∨x=v
 | [],_,_,_,h=>by cases h
 |y::r,0,v,x,h=>by
  rcases List.mem_cons.1 h with h|h
  ·exact .inr h
  ·exact .inl (List.mem_cons_of_mem _ h)
 |y::r,d+1,v,x,h=>by
  rcases List.mem_cons.1 h with h|h
  ·exact .inl (by rw [h];simp)
  ·exact (Aji h).imp (List.mem_cons_of_mem _) id
theorem At2: ∀ {H:List (Nat×OB)} {d:Nat} {b:OB} {p:Nat×OB},p∈Hr H d b→p∈H∨p=(d,b)
 | [],d,b,p,h=> .inr (by simpa [Hr] using h)
 |(k,c)::r,d,b,p,h=>by
  simp only [Hr] at h
  split at h
  ·rcases List.mem_cons.1 h with h|h
   ·exact .inr h
   ·exact .inl h
  ·rcases List.mem_cons.1 h with h|h
   ·exact .inl (by rw [h];simp)
   ·exact (At2 h).imp (List.mem_cons_of_mem _) id
theorem Bd1 {d:Nat} {v:AV} {b:OB} {st:St} {x:Operand} (h:x≠ .tmp d):(Ed d v b st).ev x=st.ev x:=by
 cases x with
 |tmp t=>exact Ub _ _ _ _ _ (fun e=>h (by rw [e]))
 |_=>rfl
theorem Axn {d l:Nat} {v:AV} {b:OB} {st:St} (h:d≠l):(Ed d v b st).at l=st.at l:=Amy _ _ _ _ h
theorem Bax {d e:Nat} {v u:AV} {b:OB} {st:St} (h:d≠e):(Ed d v b st).put (some e) u=Ed d v b (st.put (some e) u):=by
 unfold Ed St.put
 simp only
 rw [Ag2 _ _ _ _ _ h]
theorem Ayh {d l:Nat} {v:AV} {b c:OB} {st:St} (h:d≠l):(Ed d v b st).Ew l c=Ed d v b (st.Ew l c):=by
 unfold Ed St.Ew
 simp only
 rw [Ao4 _ _ _ _ _ h]
theorem Ami {d e:Nat} {v u:AV} {b c:OB} {st:St} (h:d≠e):Ed e u c (Ed d v b st)=Ed d v b (Ed e u c st):=by
 unfold Ed
 rw [Ag2 _ _ _ _ _ h,An0 _ _ _ _ _ h]
theorem Dn.put {d:Nat} {st:St} {e:Nat} {u:AV} (h:Dn d st) (hde:e≠d) (hu:d∉u.refs):Dn d (st.put (some e) u):=
 ⟨by show (List.getD (Ln st.tmps e u) d .undef).refs= [];rw [Ub _ _ _ _ _ hde];exact h.own,fun v hv=>(Aji hv).elim (h.tmps v) fun e=>by rw [e];exact hu,h.heap⟩
theorem Dn.plus {d e:Nat} {u:AV} {c:OB} {st:St} (h:Dn d st) (hde:d≠e) (hu:d∉u.refs) (hc:d∉c.refs):Dn d (Ed e u c st):=
 ⟨by show (List.getD (Ln st.tmps e u) d .undef).refs= [];rw [Ub _ _ _ _ _ (Ne.symm hde)];exact h.own,fun v hv=>(Aji hv).elim (h.tmps v) fun e=>by rw [e];exact hu,fun p hp=>(At2 hp).elim (h.heap p) fun e'=>by rw [e'];exact ⟨Ne.symm hde,hc⟩⟩
theorem Dn.Bex {d e:Nat} {u:AV} {c:OB} {st:St} (h:Dn d (Ed e u c st)): ∀p∈st.heap,p.1≠d∧d∉p.2.refs:=fun p hp=>h.heap p (by
 show p∈Hr st.heap e c
 generalize st.heap=H at hp
 induction H with
 |nil=>cases hp
 |cons q r ih=>
  obtain ⟨k,a⟩:=q
  simp only [Hr]
  split
  ·exact List.mem_cons_of_mem _ hp
  ·rcases List.mem_cons.1 hp with hp|hp
   ·rw [hp];simp
   ·exact List.mem_cons_of_mem _ (ih hp))
theorem Ahu {st st':St} : ∀(τ:Ty) (cs:List AC),cs.all (·.settled)=true→Ce st' τ cs=Ce st τ cs:=by
 intro τ
 induction τ with
 |unit=>intro cs _;cases cs<;>rfl
 |pair a r iha ihr=>
  intro cs h
  simp only [Ce]
  rw [List.all_eq_true] at h
  rw [iha _ (List.all_eq_true.2 fun c hc=>h c (List.mem_of_mem_take hc)),ihr _ (List.all_eq_true.2 fun c hc=>h c (List.mem_of_mem_drop hc))]
 |_=>
  intro cs h
  rcases cs with _|⟨c,_|⟨c',cs⟩⟩
  ·rfl
  ·simp only [List.all_cons,List.all_nil,Bool.and_true] at h
   simp only [Ce]
   exact Qe h
  ·rfl
theorem Wt {st st':St} {τ:Ty} {v:AV} (h:v.settled=true):Ci st' τ v=Ci st τ v:=by
 cases v with
 | «at»a=>
  have ha:a.settled=true:=h
  cases a<;>simp only [AC.settled,Bool.false_eq_true] at ha
  all_goals
   simp only [Ci]
   rw [Jb rfl,Jb rfl]
   rw [Qe (st:=st) (st':=st') rfl]
 |agg cs=>simp only [Ci];rw [Ahu _ _ h]
 |tup _ _ _=>rfl
 |tupc _=>rfl
theorem Aa4 {st st':St} : ∀(τ:Ty) (vs:List AV),vs.all (·.settled)=true→Bm st' τ vs=Bm st τ vs
 | .pair a r,v::vs,h=>by
  rw [List.all_cons,Bool.and_eq_true] at h
  simp only [Bm]
  rw [Wt (st:=st) (st':=st') h.1,Aa4 r vs h.2]
 | .pair _ _,[],_=>rfl
 | .unit,[],_=>rfl
 | .unit,_::_,_=>rfl
 | .int _,vs,_=>by cases vs<;>rfl
 | .bool,vs,_=>by cases vs<;>rfl
 | .str,vs,_=>by cases vs<;>rfl
 | .slice _,vs,_=>by cases vs<;>rfl
 | .oslice _,vs,_=>by cases vs<;>rfl
 | .ptr _,vs,_=>by cases vs<;>rfl
 | .optr _,vs,_=>by cases vs<;>rfl
 | .smap _,vs,_=>by cases vs<;>rfl
 | .clo _ _,vs,_=>by cases vs<;>rfl
def Mk:AV→Bool
 | .at (.data _ _ _)=>true
 |_=>false
def Aa2 (o:Oper):List Operand:=match o.op with
 | .move x=> [x]
 | .load _ x=> [x]
 | .call {callee:= .value (.func _),args, .. } =>args.toList
 | .insert _ m k x=> [m,k,x]
 | .buildSlice _ _ parts=>parts.toList.map (·.2)
 |_=> []
def Zc (d:Nat):Operand→Bool
 | .tmp t=>!Nat.beq t d
 |_=>true
theorem Az5 {d:Nat} {x:Operand} (h:Zc d x=true):x≠ .tmp d:=fun e=>by
 subst e
 simp [Zc] at h
def Mp (Γ:Env) (st:St) (o:Oper):Bool:=match o.guard with
 |some _=>false
 |none=>match o.op with
  | .move _=>true
  | .load _ x=>(match st.ev x with
   | .at (.vptr _ _)=>true
   |_=>false)
  | .call {callee:= .value (.func f),args, .. } =>(match Γ f with
   |some (.q _)=>true
   |_=>false)&&args.toList.all fun x=>(st.ev x).settled
  | .insert _ m k x=>(match st.ev m with
   | .at (.mapr _)=>true
   |_=>false)&&Mk (st.ev k)&&(st.ev x).settled
  | .buildSlice _ _ parts=>(parts.toList.all fun p=>Mk (st.ev p.2))&&(match o.dst with
   |some e=>Afr e st
   |none=>false)
  |_=>false
theorem Dn.ev {d:Nat} {st:St} (h:Dn d st) (x:Operand):d∉(st.ev x).refs:=by
 cases x with
 |tmp t=>
  simp only [St.ev,St.get]
  rw [List.getD_eq_getElem?_getD]
  by_cases hl:t<st.tmps.length
  ·rw [List.getElem?_eq_getElem hl];exact h.tmps _ (List.getElem_mem hl)
  ·rw [List.getElem?_eq_none (Nat.le_of_not_lt hl)];simp [AV.refs,AC.refs]
 |const c=>
  simp only [St.ev]
  unfold Adi
  split<;>simp [AV.refs,AC.refs]
 |func f=>simp [St.ev,AV.refs,AC.refs]
 |_=>simp [St.ev,AV.refs,AC.refs]
theorem Asc: ∀ {H:List (Nat×OB)} {l:Nat} {b:OB},Ac H l=some b→(l,b)∈H
 |(k,c)::r,l,b,h=>by
  simp only [Ac] at h
  split at h
  ·rename_i e;subst e;cases h;simp
  ·exact List.mem_cons_of_mem _ (Asc h)
section
variable {T:Tab} {Γ:Env} {ops:Array Oper} {d:Nat} {v:AV} {b:OB} {t:St}
theorem Ano {e:Option Tmp} (h:e≠some d) (hn:Dn d t) {y:AV} (hy:d∉y.refs):(Ed d v b t).put e y=Ed d v b (t.put e y)∧Dn d (t.put e y):=by
 cases e with
 |none=>exact ⟨rfl,hn⟩
 |some k=>exact ⟨Bax (fun e=>h (by rw [e])),hn.put (fun e=>h (by rw [e])) hy⟩
theorem Zh {o:Oper} (hg:o.guard=none) (hdst:o.dst≠some d) (hn:Dn d t) {q:Option AV} (h1:evalOp T Γ (Ed d v b t) o=q.map fun y=>(y,Ed d v b t)) (h2:evalOp T Γ t o=q.map fun y=>(y,t)) (hq: ∀y,q=some y→d∉y.refs) {s':St}
  (he:Ca T Γ ops (Ed d v b t) o=some s'): ∃t',Ca T Γ ops t o=some t'∧s'=Ed d v b t'∧Dn d t':=by
 unfold Ca at he⊢
 rw [hg] at he⊢
 simp only at he⊢
 rw [h1] at he
 cases q with
 |none=>cases he
 |some y=>
  obtain ⟨p1,p2⟩:=Ano (v:=v) (b:=b) hdst hn (hq y rfl)
  refine ⟨_,by rw [h2];rfl,?_,p2⟩
  simp only [Option.map_some,Option.some.injEq] at he
  rw [←he,p1]
theorem Oj {l:List Operand} (hu:l.all (Zc d)=true): ∀x∈l,(Ed d v b t).ev x=t.ev x:=fun x hx=>Bd1 (Az5 (List.all_eq_true.1 hu x hx))
theorem Aw0 {dst:Option Tmp} {x:Operand} {ty:TypeId} {pos:String} {after:Array Edge} (hn:Dn d t) (hx:(Ed d v b t).ev x=t.ev x) (hdst:dst≠some d) {s':St}
  (he:Ca T Γ ops (Ed d v b t) {dst:=dst,op:= .move x,type:=ty,pos:=pos,after:=after,guard:=none} =some s'):
  ∃t',Ca T Γ ops t {dst:=dst,op:= .move x,type:=ty,pos:=pos,after:=after,guard:=none} =some t'∧s'=Ed d v b t'∧Dn d t':=
 Zh rfl hdst hn (q:=some (t.ev x)) (by simp only [evalOp,Bz,hx]) (by simp only [evalOp,Bz]) (fun y hy=>by cases hy;exact hn.ev x) he
def loadVar (T:Tab) (o:Option OB) (t0:TypeId) (i:Nat):Option AV:=match T.ty t0 with
 |some τ=>(match o with
  |some (.var _ vs)=>if τ.Ab then (if i+τ.size≤vs.length then some (.agg ((vs.drop i).take τ.size)) else none) else vs[i]?.map .at
  |_=>none)
 |none=>none
theorem Ab2 {st:St} {t0:TypeId} {l i:Nat} :Iv T st t0 (.at (.vptr l i))=loadVar T (st.at l) t0 i:=by
 unfold Iv loadVar
 cases T.ty t0<;>rfl
theorem Avw {dst:Option Tmp} {t0:TypeId} {x:Operand} {ty:TypeId} {pos:String} {after:Array Edge} (hn:Dn d t) (hx:(Ed d v b t).ev x=t.ev x) (hdst:dst≠some d) {l i:Nat} (hp:t.ev x= .at (.vptr l i)) {s':St}
  (he:Ca T Γ ops (Ed d v b t) {dst:=dst,op:= .load t0 x,type:=ty,pos:=pos,after:=after,guard:=none} =some s'):
  ∃t',Ca T Γ ops t {dst:=dst,op:= .load t0 x,type:=ty,pos:=pos,after:=after,guard:=none} =some t'∧s'=Ed d v b t'∧Dn d t':=by
 have hld:d≠l:=fun e=>by
  have:=hn.ev x
  rw [hp,e] at this
  exact this (by simp [AV.refs,AC.refs])
 refine Zh rfl hdst hn (q:=loadVar T (t.at l) t0 i) ?_ ?_ (fun y hy=>?_) he
 ·simp only [evalOp,Bz,hx,hp]
  rw [Ab2,Axn hld]
 ·simp only [evalOp,Bz,hp]
  rw [Ab2]
 ·unfold loadVar at hy
  split at hy
  ·split at hy
   ·rename_i vs hb
    have hr:d∉vs.flatMap AC.refs:=(hn.heap _ (Asc hb)).2
    have hr': ∀c∈vs,d∉c.refs:=fun c hc hd=>hr (List.mem_flatMap.2 ⟨c,hc,hd⟩)
    split at hy
    ·split at hy
     ·cases hy
      intro hd
      obtain ⟨c,hc,hd⟩:=List.mem_flatMap.1 hd
      exact hr' c (List.mem_of_mem_drop (List.mem_of_mem_take hc)) hd
     ·cases hy
    ·cases hv:vs[i]? with
     |none=>rw [hv] at hy;cases hy
     |some c=>
      rw [hv] at hy
      cases hy
      exact hr' c (List.mem_of_getElem? hv)
   ·cases hy
  ·cases hy
theorem Ayk {l:List Operand} (hu:l.all (Zc d)=true):l.map (Ed d v b t).ev=l.map t.ev:=List.map_congr_left fun x hx=>Oj hu x hx
theorem Ava {dst:Option Tmp} {f:FuncId} {args:Array Operand} {tys:Array TypeId} {ty:TypeId} {pos:String} {after:Array Edge} {sp:Spec} (hΓ:Γ f=some (.q sp)) (hn:Dn d t) (hx:args.toList.map (Ed d v b t).ev=args.toList.map t.ev) (hdst:dst≠some d)
  (hs:(args.toList.map t.ev).all (·.settled)=true) {s':St} (he:Ca T Γ ops (Ed d v b t) {dst:=dst,op:= .call {callee:= .value (.func f),args:=args,argTypes:=tys},type:=ty,pos:=pos,after:=after,guard:=none} =some s'):
  ∃t',Ca T Γ ops t {dst:=dst,op:= .call {callee:= .value (.func f),args:=args,argTypes:=tys},type:=ty,pos:=pos,after:=after,guard:=none} =some t'∧s'=Ed d v b t'∧Dn d t':=by
 have hns:Vw sp (args.toList.map t.ev)=false:=by unfold Vw;rw [hs];simp
 have hev: ∀st:St,Iu Γ st f (args.toList.map t.ev)=(match Bm t sp.arg (args.toList.map t.ev) with
   |none=>none
   |some (_,x)=>(sp.fn x).map fun y=>if sp.multi then .tup (sp.fresh||sp.res.flat) sp.res y else .at (.data (sp.fresh||sp.res.flat) sp.res y)):=fun st=>by
  unfold Iu
  rw [hΓ]
  simp only
  rw [hs,Aa4 (st:=t) _ _ hs]
  simp only [Bool.or_true,if_true]
  cases Bm t sp.arg (args.toList.map t.ev)<;>rfl
 refine Zh rfl hdst hn (q:=Iu Γ t f (args.toList.map t.ev)) ?_ ?_ (fun y hy=>?_) he
 ·simp only [evalOp,Bz,hΓ,hx,hns]
  rw [hev,hev t]
  simp
 ·simp only [evalOp,Bz,hΓ,hns]
  simp
 ·rw [hev t] at hy
  split at hy
  ·cases hy
  ·rename_i x _
   cases hf:sp.fn x with
   |none=>rw [hf] at hy;cases hy
   |some z=>
    rw [hf] at hy
    simp only [Option.map_some,Option.some.injEq] at hy
    rw [←hy]
    split<;>simp [AV.refs,AC.refs]
def Ae9 (T:Tab) (o:Option OB) (t0:TypeId) (s:ByteArray) (vw:(v:Ty)→Option (Bool×v.den)):Option OB:=match T.mapOf t0 with
 |some v=>(match o,vw v with
  |some (.smp v' f),some (_,y)=>if h:v'=v∧v.flat=true∧v.Ab=false then some (.smp v (Ex (h.1▸f:ByteArray→Option v.den) s y)) else none
  |_,_=>none)
 |none=>none
theorem Ab3 {st:St} {t0:TypeId} {l:Nat} {fr:Bool} {s:ByteArray} {x:AV} :Ea T st t0 (.at (.mapr l)) (.at (.data fr .str s)) x=(Ae9 T (st.at l) t0 s fun v=>Ci st v x).map fun c=>st.Ew l c:=by
 unfold Ea Ae9
 cases T.mapOf t0 with
 |none=>rfl
 |some v0=>
  simp only
  cases st.at l with
  |none=>rfl
  |some c=>
   cases c with
   |smp v' f=>
    cases Ci st v0 x with
    |none=>rfl
    |some p=>
     simp only
     split<;>rfl
   |_=>rfl
theorem Asz {o:Option OB} {t0:TypeId} {s:ByteArray} {vw:(v:Ty)→Option (Bool×v.den)} {c:OB} (h:Ae9 T o t0 s vw=some c):c.refs= []:=by
 unfold Ae9 at h
 split at h
 ·split at h
  ·split at h
   ·cases h;rfl
   ·cases h
  ·cases h
 ·cases h
theorem Aiv {st:St} {t0:TypeId} {m k x:AV} {s':St} (h:Ea T st t0 m k x=some s'): ∃l fr s,m= .at (.mapr l)∧k= .at (.data fr .str s):=by
 unfold Ea at h
 split at h
 ·exact ⟨_,_,_,rfl,rfl⟩
 ·cases h
theorem At3: ∀ {H:List (Nat×OB)} {l:Nat} {c:OB} {p:Nat×OB},p∈Tj H l c→p∈H∨(p.2=c∧p.1=l∧ ∃c',(l,c')∈H)
 |(k,a)::r,l,c,p,h=>by
  simp only [Tj] at h
  split at h
  ·rename_i e
   rcases List.mem_cons.1 h with h|h
   ·subst h;exact .inr ⟨rfl,e,a,by rw [e];simp⟩
   ·exact .inl (List.mem_cons_of_mem _ h)
  ·rcases List.mem_cons.1 h with h|h
   ·exact .inl (by rw [h];simp)
   ·exact (At3 h).imp (List.mem_cons_of_mem _) fun ⟨h1,h2,c',h3⟩=>⟨h1,h2,c',List.mem_cons_of_mem _ h3⟩
theorem Dn.Ew {st:St} {l:Nat} {c:OB} (h:Dn d st) (hc:d∉c.refs):Dn d (st.Ew l c):=
 ⟨h.own,h.tmps,fun p hp=>(At3 hp).elim (h.heap p) fun ⟨h1,h2,c',h3⟩=>⟨by rw [h2];exact (h.heap _ h3).1,by rw [h1];exact hc⟩⟩
theorem Ap1 {dst:Option Tmp} {t0:TypeId} {m k x:Operand} {ty:TypeId} {pos:String} {after:Array Edge} (hn:Dn d t) (hm:(Ed d v b t).ev m=t.ev m) (hk:(Ed d v b t).ev k=t.ev k) (hx:(Ed d v b t).ev x=t.ev x) (hdst:dst≠some d)
  (hs:(t.ev x).settled=true) {s':St} (he:Ca T Γ ops (Ed d v b t) {dst:=dst,op:= .insert t0 m k x,type:=ty,pos:=pos,after:=after,guard:=none} =some s'):
  ∃t',Ca T Γ ops t {dst:=dst,op:= .insert t0 m k x,type:=ty,pos:=pos,after:=after,guard:=none} =some t'∧s'=Ed d v b t'∧Dn d t':=by
 unfold Ca at he⊢
 simp only [evalOp,hm,hk,hx] at he⊢
 cases hms:Ea T (Ed d v b t) t0 (t.ev m) (t.ev k) (t.ev x) with
 |none=>rw [hms] at he;cases he
 |some s1=>
  rw [hms] at he
  simp only [Option.map_some,Option.some.injEq] at he
  obtain ⟨l,fr,s,e1,e2⟩:=Aiv hms
  have hld:d≠l:=fun e=>by
   have:=hn.ev m
   rw [e1,e] at this
   exact this (by simp [AV.refs,AC.refs])
  rw [e1,e2,Ab3,Axn hld] at hms
  have hvw:(fun v0=>Ci (Ed d v b t) v0 (t.ev x))=fun v0=>Ci t v0 (t.ev x):=funext fun v0=>Wt hs
  rw [hvw] at hms
  rw [e1,e2,Ab3]
  cases ho:Ae9 T (t.at l) t0 s fun v0=>Ci t v0 (t.ev x) with
  |none=>rw [ho] at hms;cases hms
  |some c=>
   rw [ho] at hms
   simp only [Option.map_some,Option.some.injEq] at hms
   have hc:=Asz ho
   have hn':Dn d (t.Ew l c):=hn.Ew (by rw [hc];simp)
   obtain ⟨p1,p2⟩:=Ano (v:=v) (b:=b) (y:= .undef) hdst hn' (by simp [AV.refs,AC.refs])
   refine ⟨_,rfl,?_,p2⟩
   rw [←he,←hms,Ayh hld,p1]
theorem Dn.back {e:Nat} (h:Dn e (Ed d v b t)) (hde:e≠d) (hn:Dn d t):Dn e t:=by
 have hg: ∀k,k≠d→(Ed d v b t).get k=t.get k:=fun k hk=>Ub _ _ _ _ _ (Ne.symm hk)
 refine ⟨by rw [←hg e hde];exact h.own,fun u hu hd=>?_,h.Bex⟩
 obtain ⟨k,hk,rfl⟩:=List.mem_iff_getElem.1 hu
 have e1:t.get k=t.tmps[k]:=by unfold St.get;rw [List.getD_eq_getElem?_getD,List.getElem?_eq_getElem hk];rfl
 by_cases hkd:k=d
 ·subst hkd
  have:=hn.own
  rw [e1] at this
  rw [this] at hd
  cases hd
 ·have h1:=h.ev (.tmp k)
  have h2:(Ed d v b t).ev (.tmp k)=t.tmps[k]:=by show (Ed d v b t).get k=_;rw [hg k hkd,e1]
  rw [h2] at h1
  exact h1 hd
def Acp (e:Ty):Nat→List (Nat×AV)→Option (Bool×Bool×List e.den)
 |_,[]=>some (true,true,[])
 |i,(j,x)::r=>if i=j then match Ci ⟨[],[]⟩ e x with
  |some (fr,y)=>match Acp e (i+1) r with
   |some (fr',tr',ys)=>some (fr&&fr',Ko ⟨[],[]⟩ x&&e.tree&&tr',y::ys)
   |none=>none
  |none=>none
  else none
theorem Tp {st:St} {e:Ty} : ∀(l:List (Nat×Operand)) (i:Nat),(l.all fun p=>Mk (st.ev p.2))=true→Fl e i l st=(Acp e i (l.map fun p=>(p.1,st.ev p.2))).map fun p=>(p.1,p.2.1,p.2.2,st)
 | [],i,_=>rfl
 |(j,x)::r,i,h=>by
  rw [List.all_cons,Bool.and_eq_true] at h
  have hx:Mk (st.ev x)=true:=h.1
  simp only [Fl,Acp,List.map_cons]
  split
  ·generalize hxv:st.ev x=xv at hx
   unfold Mk at hx
   split at hx
   ·rename_i fr τ z
    have hset:settle st (.at (.data fr τ z))=some (.at (.data fr τ z),st):=rfl
    rw [hset]
    simp only
    rw [Wt (st:=⟨[],[]⟩) (st':=st) (v:= .at (.data fr τ z)) rfl]
    cases Ci ⟨[],[]⟩ e (.at (.data fr τ z)) with
    |none=>rfl
    |some p=>
     simp only
     rw [Tp r (i+1) h.2]
     cases Acp e (i+1) (r.map fun p=>(p.1,st.ev p.2)) with
     |none=>rfl
     |some q=>rfl
   ·cases hx
  ·rfl
def rowOf (T:Tab) (t0:TypeId) (len:Nat) (parts:List (Nat×AV)) (dst:Nat):Option (AV×OB):=match Uc T t0 with
 |some _=>none
 |none=>match T.elem t0 with
  |none=>none
  |some te=>match T.ty te with
   |none=>none
   |some e=>if parts.length=len∧len≤64∧e.size≤64∧dst<Ag then (Acp e 0 parts).map fun p=>(.at (.own dst 0 len), .arr ((T.fr0||e.flat)&&p.1) (T.tr0&&p.2.1) e te p.2.2) else none
theorem Xy {st:St} {t0:TypeId} {len dst:Nat} {parts:Array (Nat×Operand)} (h:(parts.toList.all fun p=>Mk (st.ev p.2))=true):
  Dy T st dst t0 len parts=(rowOf T t0 len (parts.toList.map fun p=>(p.1,st.ev p.2)) dst).map fun r=>(r.1,st.new dst r.2):=by
 unfold Dy rowOf
 cases Uc T t0 with
 |some p=>
  obtain ⟨te,e⟩:=p
  simp only [Option.map_none]
  split
  ·rename_i x hp
   rw [hp,List.all_cons,Bool.and_eq_true] at h
   have hx:Mk (st.ev x)=true:=h.1
   unfold Mk at hx
   split at hx
   ·rename_i hv;simp only [hv]
   ·cases hx
  ·rfl
 |none=>
  simp only
  unfold Gc
  cases T.elem t0 with
  |none=>rfl
  |some te=>
   simp only
   cases T.ty te with
   |none=>rfl
   |some e=>
    simp only [List.length_map,Array.length_toList]
    split
    ·rw [Tp _ 0 h]
     cases Acp e 0 (parts.toList.map fun p=>(p.1,st.ev p.2))<;>rfl
    ·rfl
theorem Ah7 {t0:TypeId} {len dst:Nat} {parts:List (Nat×AV)} {r:AV×OB} (h:rowOf T t0 len parts dst=some r):Ai7 dst r.1 r.2:=by
 unfold rowOf at h
 split at h
 ·cases h
 ·split at h
  ·cases h
  ·split at h
   ·cases h
   ·split at h
    ·rename_i e _ _
     cases hp:Acp e 0 parts with
     |none=>rw [hp] at h;cases h
     |some p=>
      rw [hp] at h
      simp only [Option.map_some,Option.some.injEq] at h
      subst h
      exact ⟨fun l hl=>by simpa [AV.refs,AC.refs] using hl,rfl,fun l hl=>by simp only [AV.map,Aw];rw [if_neg (Ne.symm hl)],fun l=>rfl⟩
    ·cases h
theorem Aro {e:Nat} {t0:TypeId} {len:Nat} {parts:Array (Nat×Operand)} {ty:TypeId} {pos:String} {after:Array Edge} (_hl:Ai7 d v b) (hn:Dn d t) (hx: ∀p∈parts.toList,(Ed d v b t).ev p.2=t.ev p.2) (hdst:e≠d)
  (hp:(parts.toList.all fun p=>Mk (t.ev p.2))=true) (hne:Dn e (Ed d v b t)) {s':St} (he:Ca T Γ ops (Ed d v b t) {dst:=some e,op:= .buildSlice t0 len parts,type:=ty,pos:=pos,after:=after,guard:=none} =some s'):
  ∃t',Ca T Γ ops t {dst:=some e,op:= .buildSlice t0 len parts,type:=ty,pos:=pos,after:=after,guard:=none} =some t'∧s'=Ed d v b t'∧Dn d t':=by
 have hne':=hne.back hdst hn
 have hp':(parts.toList.all fun p=>Mk ((Ed d v b t).ev p.2))=true:=List.all_eq_true.2 fun p hp0=>by rw [hx p hp0];exact List.all_eq_true.1 hp p hp0
 have hm:(parts.toList.map fun p=>(p.1,(Ed d v b t).ev p.2))=parts.toList.map fun p=>(p.1,t.ev p.2):=List.map_congr_left fun p hp0=>by rw [hx p hp0]
 unfold Ca at he⊢
 simp only [evalOp] at he⊢
 rw [Xy hp',hm] at he
 rw [Xy hp]
 cases hr:rowOf T t0 len (parts.toList.map fun p=>(p.1,t.ev p.2)) e with
 |none=>rw [hr] at he;cases he
 |some r=>
  rw [hr] at he
  have hL:=Ah7 hr
  simp only [Option.map_some,Option.some.injEq] at he
  rw [hne.new] at he
  refine ⟨Ed e r.1 r.2 t,by simp only [Option.map_some];rw [hne'.new],?_,hn.plus (Ne.symm hdst) (fun h=>hdst (hL.v1 _ h).symm) (by rw [hL.b1];simp)⟩
  rw [←he,Ami (Ne.symm hdst)]
def evC:Operand→AV
 | .const c=>Adi c
 |_=> .undef
theorem Ber {st:St} {x:Operand} (h:Mk (evC x)=true):st.ev x=evC x:=by
 cases x<;>first|rfl|cases h
def Vb (T:Tab) (o:Oper):Option (Nat×AV×OB):=match o.guard with
 |some _=>none
 |none=>match o.dst with
  |none=>none
  |some d=>match o.op with
   | .buildSlice t0 len parts=>if (parts.toList.all fun p=>Mk (evC p.2))=true then (rowOf T t0 len (parts.toList.map fun p=>(p.1,evC p.2)) d).map fun r=>(d,r.1,r.2) else none
   | .makeMap t0 none=>match T.mapOf t0 with
    |some τ=>if d<Ag then some (d, .at (.mapr d), .smp τ fun _=>none) else none
    |none=>none
   |_=>none
theorem Vc {o:Oper} {r:Nat×AV×OB} (h:Vb T o=some r):o.dst=some r.1∧Ai7 r.1 r.2.1 r.2.2∧ ∀st:St,Dn r.1 st→Ca T Γ ops st o=some (Ed r.1 r.2.1 r.2.2 st):=by
 obtain ⟨dst,op,ty,pos,after,guard⟩:=o
 unfold Vb at h
 cases guard with
 |some g=>cases h
 |none=>
  cases dst with
  |none=>cases h
  |some d=>
   cases op with
   |buildSlice t0 len parts=>
    simp only at h
    split at h
    ·rename_i hp
     cases hr:rowOf T t0 len (parts.toList.map fun p=>(p.1,evC p.2)) d with
     |none=>rw [hr] at h;cases h
     |some q=>
      rw [hr] at h
      simp only [Option.map_some,Option.some.injEq] at h
      subst h
      refine ⟨rfl,Ah7 hr,fun st hst=>?_⟩
      have hev: ∀p∈parts.toList,st.ev p.2=evC p.2:=fun p hp0=>Ber (List.all_eq_true.1 hp p hp0)
      have hm:(parts.toList.map fun p=>(p.1,st.ev p.2))=parts.toList.map fun p=>(p.1,evC p.2):=List.map_congr_left fun p hp0=>by rw [hev p hp0]
      have hp':(parts.toList.all fun p=>Mk (st.ev p.2))=true:=List.all_eq_true.2 fun p hp0=>by rw [hev p hp0];exact List.all_eq_true.1 hp p hp0
      unfold Ca
      simp only [evalOp]
      rw [Xy hp',hm,hr]
      simp only [Option.map_some]
      rw [hst.new]
    ·cases h
   |makeMap t0 hint=>
    cases hint with
    |some x=>cases h
    |none=>
     simp only at h
     split at h
     ·rename_i τ hτ
      split at h
      ·rename_i hd
       cases h
       refine ⟨rfl,⟨fun l hl=>by simpa [AV.refs,AC.refs] using hl,rfl,fun l hl=>by simp only [AV.map,Aw];rw [if_neg (Ne.symm hl)],fun l=>rfl⟩,fun st hst=>?_⟩
       unfold Ca
       simp only [evalOp,Lo,hτ,if_pos hd,Option.map_some]
       rw [hst.new]
      ·cases h
     ·cases h
   |_=>cases h
theorem Aqa {l:List Operand} (h: ∀x∈l,(Ed d v b t).ev x=t.ev x):(l.all fun x=>((Ed d v b t).ev x).settled)=(l.map t.ev).all (·.settled):=by
 rw [List.all_map]
 induction l with
 |nil=>rfl
 |cons x r ih=>
  simp only [List.all_cons,Function.comp]
  rw [h x (by simp),ih fun y hy=>h y (by simp [hy])]
theorem Aqb {o:Oper} (hl:Ai7 d v b) (hn:Dn d t) (hs:Mp Γ (Ed d v b t) o=true) (hu:(Aa2 o).all (Zc d)=true) (hdst:o.dst≠some d) {s':St} (he:Ca T Γ ops (Ed d v b t) o=some s'):
  ∃t',Ca T Γ ops t o=some t'∧s'=Ed d v b t'∧Dn d t'∧Mp Γ t o=true:=by
 obtain ⟨dst,op,ty,pos,after,guard⟩:=o
 unfold Mp at hs
 cases guard with
 |some g=>cases hs
 |none=>
  simp only at hs
  split at hs
  ·rename_i x
   have hx:=Oj (v:=v) (b:=b) (t:=t) hu x (by simp [Aa2])
   obtain ⟨t',h1,h2,h3⟩:=Aw0 hn hx hdst he
   exact ⟨t',h1,h2,h3,rfl⟩
  ·rename_i t0 x
   have hx:=Oj (v:=v) (b:=b) (t:=t) hu x (by simp [Aa2])
   rw [hx] at hs
   split at hs
   ·rename_i l i hp
    obtain ⟨t',h1,h2,h3⟩:=Avw hn hx hdst hp he
    exact ⟨t',h1,h2,h3,by simp only [Mp,hp]⟩
   ·cases hs
  ·rename_i f args tys
   rw [Bool.and_eq_true] at hs
   obtain ⟨hs1,hs2⟩:=hs
   split at hs1
   ·rename_i sp hΓ
    have hev:=Oj (v:=v) (b:=b) (t:=t) (l:=args.toList) hu
    rw [Aqa hev] at hs2
    obtain ⟨t',h1,h2,h3⟩:=Ava hΓ hn (Ayk hu) hdst hs2 he
    refine ⟨t',h1,h2,h3,?_⟩
    simp only [Mp,hΓ,Bool.true_and]
    rw [List.all_map] at hs2
    exact hs2
   ·cases hs1
  ·rename_i t0 m k x
   have hm:=Oj (v:=v) (b:=b) (t:=t) hu m (by simp [Aa2])
   have hk:=Oj (v:=v) (b:=b) (t:=t) hu k (by simp [Aa2])
   have hx:=Oj (v:=v) (b:=b) (t:=t) hu x (by simp [Aa2])
   rw [hm,hk,hx] at hs
   have hs0:=hs
   rw [Bool.and_eq_true] at hs
   obtain ⟨t',h1,h2,h3⟩:=Ap1 hn hm hk hx hdst hs.2 he
   exact ⟨t',h1,h2,h3,hs0⟩
  ·rename_i t0 len parts
   rw [Bool.and_eq_true] at hs
   obtain ⟨hs1,hs2⟩:=hs
   cases dst with
   |none=>cases hs2
   |some e=>
    simp only at hs2
    have hed:e≠d:=fun h=>hdst (by rw [h])
    have hu':(parts.toList.map (fun p=>p.2)).all (Zc d)=true:=hu
    have hev:=Oj (v:=v) (b:=b) (t:=t) hu'
    have hx: ∀p∈parts.toList,(Ed d v b t).ev p.2=t.ev p.2:=fun p hp=>hev p.2 (List.mem_map.2 ⟨p,hp,rfl⟩)
    have hp:(parts.toList.all fun p=>Mk (t.ev p.2))=true:=List.all_eq_true.2 fun p hp=>by rw [←hx p hp];exact List.all_eq_true.1 hs1 p hp
    have hne:=Ajl hs2
    obtain ⟨t',h1,h2,h3⟩:=Aro hl hn hx hed hp hne he
    refine ⟨t',h1,h2,h3,?_⟩
    simp only [Mp,hp,Bool.true_and]
    exact Az3 (hne.back hed hn)
  ·cases hs
def Aoe:List (Nat×AV×OB)→St→St→Prop
 | [],s,t=>s=t
 |q::Q,s,t=>Dn q.1 t∧Aoe Q s (Ed q.1 q.2.1 q.2.2 t)
theorem Anj {o:Oper} : ∀(Q:List (Nat×AV×OB)) (s t s':St),Aoe Q s t→(∀q∈Q,Ai7 q.1 q.2.1 q.2.2∧(Aa2 o).all (Zc q.1)=true∧o.dst≠some q.1)→Mp Γ s o=true→Ca T Γ ops s o=some s'→
  ∃t',Ca T Γ ops t o=some t'∧Aoe Q s' t'∧Mp Γ t o=true
 | [],s,t,s',h,_,hs,he=>by
  have h:s=t:=h
  subst h
  exact ⟨s',he,rfl,hs⟩
 |q::Q,s,t,s',⟨h1,h2⟩,hq,hs,he=>by
  obtain ⟨u',e1,e2,e3⟩:=Anj Q s _ s' h2 (fun p hp=>hq p (List.mem_cons_of_mem _ hp)) hs he
  obtain ⟨l1,l2,l3⟩:=hq q (by simp)
  obtain ⟨t',f1,f2,f3,f4⟩:=Aqb l1 h1 e3 l2 l3 e1
  exact ⟨t',f1,⟨f3,by rw [←f2];exact e2⟩,f4⟩
theorem Ank {q:Nat×AV×OB} : ∀(Q1:List (Nat×AV×OB)) {Q2:List (Nat×AV×OB)} {s t:St},Aoe (Q1++q::Q2) s t→(∀p∈Q1++q::Q2,Ai7 p.1 p.2.1 p.2.2)→(∀p∈Q1,p.1≠q.1)→
  Dn q.1 t∧Aoe (Q1++Q2) s (Ed q.1 q.2.1 q.2.2 t)
 | [],Q2,s,t,h,_,_=>h
 |p::Q1,Q2,s,t,⟨h1,h2⟩,hL,hne=>by
  have hpq:=hne p (by simp)
  have hLp:=hL p (by simp)
  have hLq:=hL q (by simp)
  obtain ⟨g1,g2⟩:=Ank Q1 h2 (fun r hr=>hL r (List.mem_cons_of_mem _ hr)) fun r hr=>hne r (List.mem_cons_of_mem _ hr)
  refine ⟨g1.back (Ne.symm hpq) h1,h1.plus hpq (fun h=>hpq (hLq.v1 _ h)) (by rw [hLq.b1];simp),?_⟩
  show Aoe (Q1++Q2) s (Ed p.1 p.2.1 p.2.2 (Ed q.1 q.2.1 q.2.2 t))
  rw [Ami (Ne.symm hpq)]
  exact g2
def Ad2 (ops:Array Oper):Nat→Nat→Nat→Bool
 |0,_,_=>false
 |f+1,i,a=>Region.waitsFor .any ops i a||(List.range ops.size).any fun k=>Region.waitsFor .any ops i k&&Ad2 ops f k a
def Pr (ops:Array Oper) (listed:Array Bool):Prop:= ∀k a,listed.getD k false=true→Region.waitsFor .any ops k a=true→listed.getD a false=true
theorem Zi {listed:Array Bool} {i a:Nat} (h:i∈Region.ready .any ops listed) (hw:Region.waitsFor .any ops i a=true):listed.getD a false=true:=by
 obtain ⟨_,o,ho,hall⟩:=mem_ready.1 h
 obtain ⟨o',ho',e,he,hb,rfl⟩:=Region.waitsFor_spec hw
 rw [ho] at ho'
 cases ho'
 exact hall e he hb
theorem Abt {listed:Array Bool} (hc:Pr ops listed) {a:Nat} : ∀(f i:Nat),(∀x,Region.waitsFor .any ops i x=true→listed.getD x false=true)→Ad2 ops f i a=true→listed.getD a false=true
 |0,_,_,h=>by cases h
 |f+1,i,hi,h=>by
  simp only [Ad2,Bool.or_eq_true,List.any_eq_true,Bool.and_eq_true] at h
  rcases h with h|⟨k,_,h1,h2⟩
  ·exact hi a h
  ·exact Abt hc f k (fun x hx=>hc k x (hi k h1) hx) h2
theorem Pr.set {listed:Array Bool} (hc:Pr ops listed) {i:Nat} (hi:i∈Region.ready .any ops listed):Pr ops (listed.setIfInBounds i true):=fun k a hk hw=>by
 by_cases hik:i=k
 ·subst hik
  exact getD_set_true (Zi hi hw)
 ·rw [getD_set_ne false hik] at hk
  exact getD_set_true (hc k a hk hw)
def Aw4 (P:List (Nat×Nat×AV×OB)) (Γ:Env) (ops:Array Oper) (st:St) (o:Oper) (i:Nat):Bool:=
 (P.all fun a=>Ad2 ops 5 i a.1)||(Mp Γ st o&&P.all fun a=>Ad2 ops 5 i a.1||((Aa2 o).all (Zc a.2.1)&&(match o.dst with
  |some e=>!Nat.beq e a.2.1
  |none=>true)))
def Ben (T:Tab) (Γ:Env) (ops:Array Oper) (P:List (Nat×Nat×AV×OB)) (K:St→Prop):Nat→Array Bool→St→Prop
 |0,listed,st=>Region.ready .any ops listed= []∧K st
 |f+1,listed,st=>Region.ready .any ops listed≠ []∧ ∀i∈Region.ready .any ops listed,∃o st',ops[i]?=some o∧Aw4 P Γ ops st o i=true∧Ca T Γ ops st o=some st'∧Ben T Γ ops P K f (listed.setIfInBounds i true) st'
structure But (lc la:Array Bool) (Q:List Nat):Prop where
 size:la.size=lc.size
 off: ∀k∈Q,k<la.size∧la.getD k false=false∧lc.getD k false=true
 same: ∀k,k∉Q→la.getD k false=lc.getD k false
theorem But.ready {lc la:Array Bool} {Q:List Nat} (h:But lc la Q) {i:Nat} (hi:i∈Region.ready .any ops la) (hn:i∉Q):i∈Region.ready .any ops lc:=by
 obtain ⟨h1,o,ho,hall⟩:=mem_ready.1 hi
 have hlt:i<la.size:=by
  rcases Nat.lt_or_ge i la.size with h'|h'
  ·exact h'
  ·simp [Array.getElem?_eq_none h'] at h1
 have h2:=getD_both h1
 rw [h.same i hn] at h2
 refine mem_ready.2 ⟨getD_in (by rw [←h.size];exact hlt) h2,o,ho,fun e he hb=>?_⟩
 have h3:=hall e he hb
 by_cases hq:e.on∈Q
 ·exact (h.off _ hq).2.2
 ·rw [←h.same _ hq];exact h3
theorem But.nil {lc la:Array Bool} (h:But lc la []):la=lc:=by
 refine Array.ext h.size fun k h1 h2=>?_
 have:=h.same k (by simp)
 simpa [h1,h2] using this
theorem But.one {lc la:Array Bool} {Q Q':List Nat} {i:Nat} (h:But lc la Q) (hi:i∈Q) (hs: ∀k,k∈Q'↔k∈Q∧k≠i):But lc (la.setIfInBounds i true) Q':=by
 refine ⟨by simp [h.size],fun k hk=>?_,fun k hk=>?_⟩
 ·obtain ⟨h1,h2⟩:=(hs k).1 hk
  obtain ⟨g1,g2,g3⟩:=h.off k h1
  exact ⟨by simpa using g1,by rw [getD_set_ne false (Ne.symm h2)];exact g2,g3⟩
 ·by_cases e:i=k
  ·subst e
   obtain ⟨g1,g2,g3⟩:=h.off i hi
   rw [g3]
   simp [g1]
  ·rw [getD_set_ne false e]
   exact h.same k fun hq=>hk ((hs k).2 ⟨hq,Ne.symm e⟩)
theorem But.both {lc la:Array Bool} {Q:List Nat} {i:Nat} (h:But lc la Q) (hi:i∉Q):But (lc.setIfInBounds i true) (la.setIfInBounds i true) Q:=by
 refine ⟨by simp [h.size],fun k hk=>?_,fun k hk=>?_⟩
 ·obtain ⟨g1,g2,g3⟩:=h.off k hk
  have hne:i≠k:=fun e=>hi (by rw [e];exact hk)
  exact ⟨by simpa using g1,by rw [getD_set_ne false hne];exact g2,by rw [getD_set_ne false hne];exact g3⟩
 ·by_cases e:i=k
  ·subst e
   have hs:=h.same i hi
   have hz:=h.size
   by_cases hl:i<la.size
   ·simp [hl,hz▸hl]
   ·have hl': ¬i<lc.size:=by omega
    simp [hl,hl']
  ·rw [getD_set_ne false e,getD_set_ne false e];exact h.same k hk
theorem Aw2 {dst:Option Tmp} {d:Nat} (h:(match dst with
  |some e=>!Nat.beq e d
  |none=>true)=true):dst≠some d:=fun e=>by
 subst e
 simp at h
theorem Ayi {P:List (Nat×Nat×AV×OB)} {K:St→Prop} (hP: ∀a∈P,∃o,ops[a.1]?=some o∧Vb T o=some a.2):
  ∀(n f:Nat) (Q:List (Nat×Nat×AV×OB)) (lc la:Array Bool) (s t:St),n=f+Q.length→Ben T Γ ops P K f lc s→Aoe (Q.map (·.2)) s t→But lc la (Q.map (·.1))→(∀a∈Q,a∈P)→
   (Q.Pairwise fun a c=>a.2.1≠c.2.1∧a.1≠c.1)→Pr ops la→(∀a∈Q,∀x,Region.waitsFor .any ops a.1 x=true→la.getD x false=true)→anyS T Γ ops K n la t:=by
 intro n
 induction n with
 |zero=>
  intro f Q lc la s t hn hC hp hb hQ hpw hcl hw
  have hf:f=0:=by omega
  have hq:Q= []:=List.eq_nil_of_length_eq_zero (by omega)
  subst hf hq
  have hp:s=t:=hp
  subst hp
  rw [hb.nil]
  exact hC
 |succ n ih=>
  intro f Q lc la s t hn hC hp hb hQ hpw hcl hw
  refine ⟨?_,fun i hi=>?_⟩
  ·cases Q with
   |nil=>
    rw [hb.nil]
    cases f with
    |zero=>simp at hn
    |succ f=>exact hC.1
   |cons a Q=>
    obtain ⟨o,ho,_⟩:=hP a (hQ a (by simp))
    obtain ⟨g1,g2,_⟩:=hb.off a.1 (by simp)
    have:a.1∈Region.ready .any ops la:=mem_ready.2 ⟨getD_in g1 g2,o,ho,fun e he hbd=>hw a (by simp) e.on (by
     unfold Region.waitsFor
     rw [ho]
     exact Array.any_eq_true'.2 ⟨e,he,by simp [hbd]⟩)⟩
    intro e
    rw [e] at this
    cases this
  ·by_cases hiQ:i∈Q.map (·.1)
   ·obtain ⟨a,ha,rfl⟩:=List.mem_map.1 hiQ
    obtain ⟨Q1,Q2,rfl⟩:=List.append_of_mem ha
    obtain ⟨o,ho,hal⟩:=hP a (hQ a ha)
    obtain ⟨_,_,hst⟩:=Vc (Γ:=Γ) (ops:=ops) hal
    have hpw':=List.pairwise_append.1 hpw
    have hpw2:=List.pairwise_cons.1 hpw'.2.1
    rw [List.map_append,List.map_cons] at hp
    have hL: ∀p∈Q1.map (·.2)++a.2::Q2.map (·.2),Ai7 p.1 p.2.1 p.2.2:=fun p hp0=>by
     have:p∈(Q1++a::Q2).map (·.2):=by rw [List.map_append,List.map_cons];exact hp0
     obtain ⟨c,hc,rfl⟩:=List.mem_map.1 this
     obtain ⟨o',_,hal'⟩:=hP c (hQ c hc)
     exact (Vc (Γ:=Γ) (ops:=ops) hal').2.1
    obtain ⟨p1,p2⟩:=Ank _ hp hL fun p hp0=>by
     obtain ⟨c,hc,rfl⟩:=List.mem_map.1 hp0
     exact (hpw'.2.2 c hc a (by simp)).1
    refine ⟨o,_,ho,hst t p1,ih f (Q1++Q2) lc _ s _ ?_ hC (by rw [List.map_append];exact p2) (hb.one hiQ fun k=>?_) (fun c hc=>hQ c ?_) ?_ (hcl.set hi) fun c hc x hx=>getD_set_true (hw c ?_ x hx)⟩
    ·simp only [List.length_append,List.length_cons] at hn⊢;omega
    ·simp only [List.map_append,List.map_cons,List.mem_append,List.mem_cons]
     constructor
     ·intro h
      rcases h with h|h
      ·obtain ⟨c,hc,rfl⟩:=List.mem_map.1 h
       exact ⟨.inl h,(hpw'.2.2 c hc a (by simp)).2⟩
      ·obtain ⟨c,hc,rfl⟩:=List.mem_map.1 h
       exact ⟨.inr (.inr h),Ne.symm (hpw2.1 c hc).2⟩
     ·rintro ⟨h|h|h,hne⟩
      ·exact .inl h
      ·exact absurd h hne
      ·exact .inr h
    ·rcases List.mem_append.1 hc with hc|hc
     ·exact List.mem_append_left _ hc
     ·exact List.mem_append_right _ (List.mem_cons_of_mem _ hc)
    ·exact List.pairwise_append.2 ⟨hpw'.1,hpw2.2,fun c hc e he=>hpw'.2.2 c hc e (List.mem_cons_of_mem _ he)⟩
    ·rcases List.mem_append.1 hc with hc|hc
     ·exact List.mem_append_left _ hc
     ·exact List.mem_append_right _ (List.mem_cons_of_mem _ hc)
   ·have hic:=hb.ready hi hiQ
    cases f with
    |zero=>
     rw [hC.1] at hic
     cases hic
    |succ f=>
     obtain ⟨o,s',ho,hok,he,hrest⟩:=hC.2 i hic
     have hoff: ∀a∈Q,Ad2 ops 5 i a.1=false:=fun a ha=>by
      cases hwt:Ad2 ops 5 i a.1 with
      |false=>rfl
      |true=>
       have h1:=Abt hcl _ i (fun x hx=>Zi hi hx) hwt
       rw [(hb.off a.1 (List.mem_map.2 ⟨a,ha,rfl⟩)).2.1] at h1
       cases h1
     have key: ∃t',Ca T Γ ops t o=some t'∧Aoe (Q.map (·.2)) s' t':=by
      unfold Aw4 at hok
      rw [Bool.or_eq_true,Bool.and_eq_true] at hok
      rcases hok with hok|⟨h1,h2⟩
      ·cases Q with
       |nil=>
        have hp:s=t:=hp
        subst hp
        exact ⟨s',he,rfl⟩
       |cons a Q=>
        have:=List.all_eq_true.1 hok a (hQ a (by simp))
        rw [hoff a (by simp)] at this
        cases this
      ·obtain ⟨t',g1,g2,_⟩:=Anj (T:=T) (ops:=ops) _ s t s' hp (fun q hq=>by
        obtain ⟨a,ha,rfl⟩:=List.mem_map.1 hq
        obtain ⟨o',_,hal⟩:=hP a (hQ a ha)
        have h3:=List.all_eq_true.1 h2 a (hQ a ha)
        rw [hoff a ha,Bool.false_or,Bool.and_eq_true] at h3
        exact ⟨(Vc (Γ:=Γ) (ops:=ops) hal).2.1,h3.1,Aw2 h3.2⟩) h1 he
       exact ⟨t',g1,g2⟩
     obtain ⟨t',g1,g2⟩:=key
     exact ⟨o,t',ho,g1,ih f Q _ _ s' t' (by omega) hrest g2 (hb.both hiQ) hQ hpw (hcl.set hi) fun c hc x hx=>getD_set_true (hw c hc x hx)⟩
def Oh (T:Tab) (ops:Array Oper) (listed:Array Bool):List (Nat×Nat×AV×OB):=(Region.ready .any ops listed).filterMap fun i=>((ops[i]?).bind (Vb T)).map fun r=>(i,r)
theorem Aoj {listed:Array Bool} {a:Nat×Nat×AV×OB} (h:a∈Oh T ops listed):a.1∈Region.ready .any ops listed∧ ∃o,ops[a.1]?=some o∧Vb T o=some a.2:=by
 unfold Oh at h
 obtain ⟨i,hi,he⟩:=List.mem_filterMap.1 h
 cases ho:ops[i]? with
 |none=>rw [ho] at he;cases he
 |some o=>
  rw [ho] at he
  simp only [Option.bind_some,Option.map_eq_some_iff] at he
  obtain ⟨r,h1,rfl⟩:=he
  exact ⟨hi,o,ho,h1⟩
theorem Ars:Pr ops (Array.replicate ops.size false):=fun k a hk _=>by
 rw [getD_replicate_false] at hk
 cases hk
theorem Vh (q:Bool): ∀(l:List Nat) (listed:Array Bool),Pr ops listed→Pr ops (Dm (Eg q ops l listed) listed)
 | [],listed,h=>h
 |i::r,listed,h=>by
  simp only [Eg]
  split
  ·rename_i hc
   rw [Bool.and_eq_true,Bool.and_eq_true] at hc
   have hi:i∈Region.ready .any ops listed:=by simpa using hc.2.1
   exact Vh q r _ (h.set hi)
  ·exact Vh q r listed h
theorem Yy: ∀(l:List Nat) (listed:Array Bool),(Dm l listed).size=listed.size
 | [],_=>rfl
 |i::r,listed=>by simp only [Dm];rw [Yy r];simp
theorem Ae5: ∀(l:List Nat) (listed:Array Bool) (k:Nat),k∈l→k<listed.size→(Dm l listed).getD k false=true
 |i::r,listed,k,h,hk=>by
  simp only [Dm]
  by_cases hr:k∈r
  ·exact Ae5 r _ k hr (by simpa using hk)
  ·have:k=i:=(List.mem_cons.1 h).resolve_right hr
   subst this
   have hs: ∀(l:List Nat) (A:Array Bool),A.getD k false=true→(Dm l A).getD k false=true:=by
    intro l
    induction l with
    |nil=>exact fun A h=>h
    |cons j l ih=>exact fun A h=>ih _ (getD_set_true h)
   exact hs r _ (by simp [hk])
theorem Abd: ∀(l:List Nat) (listed:Array Bool) (k:Nat),k∉l→(Dm l listed).getD k false=listed.getD k false
 | [],_,_,_=>rfl
 |i::r,listed,k,h=>by
  simp only [Dm]
  rw [Abd r _ k fun hk=>h (List.mem_cons_of_mem _ hk),getD_set_ne false (fun e=>h (by rw [e];simp))]
theorem Bd5 {listed:Array Bool} {Q:List Nat} (h: ∀i∈Q,i∈Region.ready .any ops listed):But (Dm Q listed) listed Q:=by
 have hr: ∀i∈Q,i<listed.size∧listed.getD i false=false:=fun i hi=>by
  have h1:=(mem_ready.1 (h i hi)).1
  refine ⟨?_,getD_both h1⟩
  rcases Nat.lt_or_ge i listed.size with h'|h'
  ·exact h'
  ·simp [Array.getElem?_eq_none h'] at h1
 exact ⟨(Yy Q listed).symm,fun k hk=>⟨(hr k hk).1,(hr k hk).2,Ae5 Q listed k hk (hr k hk).1⟩,fun k hk=>(Abd Q listed k hk).symm⟩
theorem Atm: ∀(Q:List (Nat×Nat×AV×OB)) (t s:St),(∀a∈Q,∃o,ops[a.1]?=some o∧Vb T o=some a.2)→(∀a∈Q,Dn a.2.1 t)→(Q.Pairwise fun a c=>a.2.1≠c.2.1)→Hs T Γ ops (Q.map (·.1)) t=some s→Aoe (Q.map (·.2)) s t
 | [],t,s,_,_,_,h=>by
  have h:some t=some s:=h
  exact (Option.some.inj h).symm
 |a::Q,t,s,hQ,hn,hp,h=>by
  obtain ⟨o,ho,hal⟩:=hQ a (by simp)
  obtain ⟨_,hL,hst⟩:=Vc (Γ:=Γ) (ops:=ops) hal
  obtain ⟨hp1,hp2⟩:=List.pairwise_cons.1 hp
  simp only [List.map_cons,Hs,ho] at h
  rw [hst t (hn a (by simp))] at h
  refine ⟨hn a (by simp),Atm Q _ s (fun c hc=>hQ c (List.mem_cons_of_mem _ hc)) (fun c hc=>?_) hp2 h⟩
  exact (hn c (List.mem_cons_of_mem _ hc)).plus (Ne.symm (hp1 c hc)) (fun h=>hp1 c hc (hL.v1 _ h).symm) (by rw [hL.b1];simp)
end
end Go.Proofs.Ytebabhocakedaaa
