/-
  Part 30 of the proof that the statement FnExactInSubgroup holds.
-/
import Derived.Test.YtjbdmibbbpdnnaaCInSubgroup28
namespace Go.Proofs.Ytjbdmibbbpdnnaa
open Go.RowKit
def Em (d:Nat) (v:AV) (b:OB) (st:St):St:= {tmps:=Mo st.tmps d v,heap:=Ih st.heap d b}
def gM (d:Nat) (st:St):Bool:=(st.get d).refs.isEmpty&&((st.tmps.all λv=>!v.refs.contains d)&&st.heap.all λp=>!Nat.beq p.1 d&&!p.2.refs.contains d)
structure Dx (d:Nat) (st:St):Prop where
 own:(st.get d).refs= []
 tmps: ∀v∈st.tmps,d∉v.refs
 heap: ∀p∈st.heap,p.1≠d/\d∉p.2.refs
theorem lb {d:Nat} {st:St} (h:gM d st=true):Dx d st:=by
 unfold gM at h
 rw [Bool.and_eq_true,Bool.and_eq_true,List.all_eq_true,List.all_eq_true] at h
 obtain ⟨h0,h⟩:=h
 refine ⟨List.isEmpty_iff.1 h0,λv hv=>?_,λp hp=>?_⟩
 ·have:=h.1 v hv
  intro hd
  rw [List.contains_iff_mem.2 hd] at this
  cases this
 ·have:=h.2 p hp
  rw [Bool.and_eq_true] at this
  refine ⟨λe=>?_,λhd=>?_⟩
  ·have h1:=this.1
   rw [e,Nat.beq_refl] at h1
   cases h1
  ·have h1:=this.2
   rw [List.contains_iff_mem.2 hd] at h1
   cases h1
theorem yO {d:Nat} {st:St} (h:Dx d st):gM d st=true:=by
 unfold gM
 rw [Bool.and_eq_true,Bool.and_eq_true,List.all_eq_true,List.all_eq_true]
 refine ⟨by rw [h.own];rfl,λv hv=>?_,λp hp=>?_⟩
 ·rw [Bool.not_eq_true',<-Bool.not_eq_true,List.contains_iff_mem];exact h.tmps v hv
 ·rw [Bool.and_eq_true]
  refine ⟨?_,?_⟩
  ·rw [Bool.not_eq_true',<-Bool.not_eq_true]
   exact λe=>(h.heap p hp).1 (Nat.eq_of_beq_eq_true e)
  ·rw [Bool.not_eq_true',<-Bool.not_eq_true,List.contains_iff_mem];exact (h.heap p hp).2
structure jT (d:Nat) (v:AV) (b:OB):Prop where
 v1: ∀l,l∈v.refs->l=d
 b1:b.refs= []
 v2: ∀l,l≠d->v.map (As l)=v
 b2: ∀l,b.map (As l)=b
theorem We {α:Type} : ∀(xs:List α) (d t:Nat) (v x:α),d≠t->(Mo xs d v).getD t x=xs.getD t x
 | [],_,_,_,_,_=>rfl
 |y::r,0,0,_,_,h=>absurd rfl h
 |y::r,0,t+1,_,_,_=>by simp [Mo]
 |y::r,d+1,0,_,_,_=>by simp [Mo]
 |y::r,d+1,t+1,v,x,h=>by simpa [Mo] using We r d t v x (by omega)
theorem ic {α:Type} : ∀(xs:List α) (d e:Nat) (v w:α),d≠e->Mo (Mo xs d v) e w=Mo (Mo xs e w) d v
 | [],_,_,_,_,_=>rfl
 |y::r,0,0,_,_,h=>absurd rfl h
 |y::r,0,e+1,_,_,_=>rfl
 |y::r,d+1,0,_,_,_=>rfl
 |y::r,d+1,e+1,v,w,h=>by simp only [Mo];rw [ic r d e v w (by omega)]
theorem nY: ∀(H:List (Nat×OB)) (d l:Nat) (b:OB),d≠l->Ad (Ih H d b) l=Ad H l
 | [],d,l,b,h=>by simp [Ih,Ad,h]
 |(k,c)::r,d,l,b,h=>by
  simp only [Ih]
  split
  ·simp only [Ad];rw [if_neg h]
  ·simp only [Ad]
   split
   ·rfl
   ·exact nY r d l b h
theorem o4: ∀(H:List (Nat×OB)) (d e:Nat) (b c:OB),d≠e->Ih (Ih H d b) e c=Ih (Ih H e c) d b
 | [],d,e,b,c,h=>by
  simp only [Ih]
  by_cases h1:e<d
  ·rw [if_pos h1,if_neg (by omega)]
  ·rw [if_neg h1,if_pos (by omega)]
 |(k,a)::r,d,e,b,c,h=>by
  simp only [Ih]
  by_cases h1:d<k<;>by_cases h2:e<k
  ·rw [if_pos h1,if_pos h2]
   simp only [Ih]
   by_cases h3:e<d
   ·rw [if_pos h3,if_neg (by omega),if_pos h1]
   ·rw [if_neg h3,if_pos h2,if_pos (by omega)]
  ·rw [if_pos h1,if_neg h2]
   simp only [Ih]
   rw [if_neg (by omega),if_neg h2,if_pos h1]
  ·rw [if_neg h1,if_pos h2]
   simp only [Ih]
   rw [if_pos h2,if_neg (by omega),if_neg h1]
  ·rw [if_neg h1,if_neg h2]
   simp only [Ih]
   rw [if_neg h1,if_neg h2,o4 r d e b c h]
theorem oM: ∀(H:List (Nat×OB)) (d l:Nat) (b c:OB),d≠l->Vm (Ih H d b) l c=Ih (Vm H l c) d b
 | [],d,l,b,c,h=>by simp [Ih,Vm,h]
 |(k,a)::r,d,l,b,c,h=>by
  simp only [Ih,Vm]
  by_cases h1:d<k<;>by_cases h2:k=l
  ·rw [if_pos h1,if_pos h2]
   simp only [Vm,Ih]
   rw [if_neg h,if_pos h2,if_pos h1]
  ·rw [if_pos h1,if_neg h2]
   simp only [Vm,Ih]
   rw [if_neg h,if_neg h2,if_pos h1]
  ·rw [if_neg h1,if_pos h2]
   simp only [Vm,Ih]
   rw [if_pos h2,if_neg h1]
  ·rw [if_neg h1,if_neg h2]
   simp only [Vm,Ih]
   rw [if_neg h2,if_neg h1,oM r d l b c h]
theorem iF {l:Nat} : ∀ {c:AC},l∉c.refs->As l c=c:=by
 intro c h
 cases c<;>simp only [As]<;>simp only [AC.refs,List.mem_singleton] at h
 case clo f Bp=>rw [if_neg (by simpa using h)]
 all_goals (first|rfl|rw [if_neg (Ne.symm h)])
theorem Rz {l:Nat} : ∀ {cs:List AC},l∉cs.flatMap AC.refs->cs.map (As l)=cs
 | [],_=>rfl
 |c::r,h=>by
  rw [List.flatMap_cons,List.mem_append] at h
  rw [List.map_cons,iF (λhh=>h (.inl hh)),Rz (λhh=>h (.inr hh))]
theorem sj {l:Nat} : ∀ {v:AV},l∉v.refs->v.map (As l)=v
 | .at a,h=>by simp only [AV.map];rw [iF h]
 | .agg cs,h=>by simp only [AV.map];rw [Rz h]
 | .Sv _ _ _,_=>rfl
 | .Hz ps,h=>by
  simp only [AV.map]
  congr 1
  simp only [AV.refs] at h
  induction ps with
  |nil=>rfl
  |cons p r ih=>
   rw [List.flatMap_cons,List.mem_append] at h
   rw [List.map_cons,Rz (λhh=>h (.inl hh)),ih (λhh=>h (.inr hh))]
theorem sk {l:Nat} : ∀ {b:OB},l∉b.refs->b.map (As l)=b
 | .arr _ _ _ _ _,_=>rfl
 | .Cu _ _ _,_=>rfl
 | .var _ vs,h=>by simp only [OB.map];rw [Rz h]
 | .Ai _ _ _ _ _,_=>rfl
 | .Nd _ _,_=>rfl
theorem rZ {l:Nat} : ∀ {H:List (Nat×OB)},(∀p∈H,p.1≠l)->Rj H l=H
 | [],_=>rfl
 |(k,b)::r,h=>by
  simp only [Rj]
  rw [if_neg (h (k,b) (by simp)),rZ λp hp=>h p (by simp [hp])]
theorem Dx.forget {l:Nat} {st:St} (h:Dx l st):st.forget l=st:=by
 have e1:st.tmps.map (λv=>v.map (As l))=st.tmps:=(List.map_congr_left λv hv=>sj (h.tmps v hv)).trans (List.map_id _)
 have e2:st.heap.map (λp=>(p.1,p.2.map (As l)))=st.heap:=(List.map_congr_left λp hp=>by rw [sk (h.heap p hp).2];rfl).trans (List.map_id _)
 unfold St.forget St.Fp
 simp only [e1,e2]
 rw [rZ λp hp=>(h.heap p hp).1]
theorem Dx.new {l:Nat} {st:St} (h:Dx l st) (b:OB) (v:AV):(st.new l b).put (some l) v=Em l v b st:=by
 unfold St.new
 rw [h.forget]
 rfl
theorem l7 {α:Type} : ∀ {xs:List α} {d:Nat} {v x:α},x∈Mo xs d v->x∈xs\/x=v
 | [],_,_,_,h=>by cases h
 |y::r,0,v,x,h=>by
  rcases List.mem_cons.1 h with h|h
  ·exact .inr h
  ·exact .inl (List.mem_cons_of_mem _ h)
 |y::r,d+1,v,x,h=>by
  rcases List.mem_cons.1 h with h|h
  ·exact .inl (by rw [h];simp)
  ·exact (l7 h).imp (List.mem_cons_of_mem _) id
theorem sX: ∀ {H:List (Nat×OB)} {d:Nat} {b:OB} {p:Nat×OB},p∈Ih H d b->p∈H\/p=(d,b)
 | [],d,b,p,h=> .inr (by simpa [Ih] using h)
 |(k,c)::r,d,b,p,h=>by
  simp only [Ih] at h
  split at h
  ·rcases List.mem_cons.1 h with h|h
   ·exact .inr h
   ·exact .inl h
  ·rcases List.mem_cons.1 h with h|h
   ·exact .inl (by rw [h];simp)
   ·exact (sX h).imp (List.mem_cons_of_mem _) id
theorem FE {d:Nat} {v:AV} {b:OB} {st:St} {x:Operand} (h:x≠ .tmp d):(Em d v b st).ev x=st.ev x:=by
 cases x with
 |tmp t=>exact We _ _ _ _ _ (λe=>h (by rw [e]))
 |_=>rfl
theorem xc {d l:Nat} {v:AV} {b:OB} {st:St} (h:d≠l):(Em d v b st).at l=st.at l:=nY _ _ _ _ h
theorem AI {d e:Nat} {v u:AV} {b:OB} {st:St} (h:d≠e):(Em d v b st).put (some e) u=Em d v b (st.put (some e) u):=by
 unfold Em St.put
 simp only
 rw [ic _ _ _ _ _ h]
theorem y0 {d l:Nat} {v:AV} {b c:OB} {st:St} (h:d≠l):(Em d v b st).Ff l c=Em d v b (st.Ff l c):=by
 unfold Em St.Ff
 simp only
 rw [oM _ _ _ _ _ h]
theorem nH {d e:Nat} {v u:AV} {b c:OB} {st:St} (h:d≠e):Em e u c (Em d v b st)=Em d v b (Em e u c st):=by
 unfold Em
 rw [ic _ _ _ _ _ h,o4 _ _ _ _ _ h]
theorem Dx.put {d:Nat} {st:St} {e:Nat} {u:AV} (h:Dx d st) (FW:e≠d) (hu:d∉u.refs):Dx d (st.put (some e) u):=
 ⟨by show (List.getD (Mo st.tmps e u) d .undef).refs= [];rw [We _ _ _ _ _ FW];exact h.own,λv hv=>(l7 hv).elim (h.tmps v) λe=>by rw [e];exact hu,h.heap⟩
theorem Dx.plus {d e:Nat} {u:AV} {c:OB} {st:St} (h:Dx d st) (FW:d≠e) (hu:d∉u.refs) (hc:d∉c.refs):Dx d (Em e u c st):=
 ⟨by show (List.getD (Mo st.tmps e u) d .undef).refs= [];rw [We _ _ _ _ _ (Ne.symm FW)];exact h.own,λv hv=>(l7 hv).elim (h.tmps v) λe=>by rw [e];exact hu,λp hp=>(sX hp).elim (h.heap p) λe'=>by rw [e'];exact ⟨Ne.symm FW,hc⟩⟩
theorem Dx.MO {d e:Nat} {u:AV} {c:OB} {st:St} (h:Dx d (Em e u c st)): ∀p∈st.heap,p.1≠d/\d∉p.2.refs:= λp hp=>h.heap p (by
 show p∈Ih st.heap e c
 generalize st.heap=H at hp
 induction H with
 |nil=>cases hp
 |cons q r ih=>
  obtain ⟨k,a⟩:=q
  simp only [Ih]
  split
  ·exact List.mem_cons_of_mem _ hp
  ·rcases List.mem_cons.1 hp with hp|hp
   ·rw [hp];simp
   ·exact List.mem_cons_of_mem _ (ih hp))
theorem jD {st st':St} : ∀(τ:Ty) (cs:List AC),cs.all (·.settled)=true->Cg st' τ cs=Cg st τ cs:=by
 intro τ
 induction τ with
 |unit=>intro cs _;cases cs<;>rfl
 |pair a r ey cf=>
  intro cs h
  simp only [Cg]
  rw [List.all_eq_true] at h
  rw [ey _ (List.all_eq_true.2 λc hc=>h c (List.mem_of_mem_take hc)),cf _ (List.all_eq_true.2 λc hc=>h c (List.mem_of_mem_drop hc))]
 |_=>
  intro cs h
  rcases cs with _|⟨c,_|⟨c',cs⟩⟩
  ·rfl
  ·simp only [List.all_cons,List.all_nil,Bool.and_true] at h
   simp only [Cg]
   exact Sk h
  ·rfl
theorem Zg {st st':St} {τ:Ty} {v:AV} (h:v.settled=true):Ci st' τ v=Ci st τ v:=by
 cases v with
 | «at»a=>
  have ha:a.settled=true:=h
  cases a<;>simp only [AC.settled,Bool.false_eq_true] at ha
  all_goals
   simp only [Ci]
   rw [Jo rfl,Jo rfl]
   rw [Sk (st:=st) (st':=st') rfl]
 |agg cs=>simp only [Ci];rw [jD _ _ h]
 |Sv _ _ _=>rfl
 |Hz _=>rfl
theorem bT {st st':St} : ∀(τ:Ty) (vs:List AV),vs.all (·.settled)=true->Bl st' τ vs=Bl st τ vs
 | .pair a r,v::vs,h=>by
  rw [List.all_cons,Bool.and_eq_true] at h
  simp only [Bl]
  rw [Zg (st:=st) (st':=st') h.1,bT r vs h.2]
 | .pair _ _,[],_=>rfl
 | .unit,[],_=>rfl
 | .unit,_::_,_=>rfl
 | .int _,vs,_=>by cases vs<;>rfl
 | .bool,vs,_=>by cases vs<;>rfl
 | .str,vs,_=>by cases vs<;>rfl
 | .slice _,vs,_=>by cases vs<;>rfl
 | .oslice _,vs,_=>by cases vs<;>rfl
 | .ptr _,vs,_=>by cases vs<;>rfl
 | .optr _,vs,_=>by cases vs<;>rfl
 | .smap _,vs,_=>by cases vs<;>rfl
 | .clo _ _,vs,_=>by cases vs<;>rfl
def Nv:AV->Bool
 | .at (.data _ _ _)=>true
 |_=>false
def bR (o:Oper):List Operand:=match o.op with
 | .move x=> [x]
 | .load _ x=> [x]
 | .call {callee:= .value (.func _),args, .. } =>args.toList
 | .insert _ m k x=> [m,k,x]
 | .buildSlice _ _ parts=>parts.toList.map (·.2)
 |_=> []
def bj (d:Nat):Operand->Bool
 | .tmp t=>!Nat.beq t d
 |_=>true
theorem yQ {d:Nat} {x:Operand} (h:bj d x=true):x≠ .tmp d:= λe=>by
 subst e
 simp [bj] at h
def Ny (Γ:Env) (st:St) (o:Oper):Bool:=match o.guard with
 |some _=>false
 |none=>match o.op with
  | .move _=>true
  | .load _ x=>(match st.ev x with
   | .at (.Dj _ _)=>true
   |_=>false)
  | .call {callee:= .value (.func f),args, .. } =>(match Γ f with
   |some (.q _)=>true
   |_=>false)&&args.toList.all λx=>(st.ev x).settled
  | .insert _ m k x=>(match st.ev m with
   | .at (.Fq _)=>true
   |_=>false)&&Nv (st.ev k)&&(st.ev x).settled
  | .buildSlice _ _ parts=>(parts.toList.all λp=>Nv (st.ev p.2))&&(match o.dst with
   |some e=>gM e st
   |none=>false)
  |_=>false
theorem Dx.ev {d:Nat} {st:St} (h:Dx d st) (x:Operand):d∉(st.ev x).refs:=by
 cases x with
 |tmp t=>
  simp only [St.ev,St.get]
  rw [List.getD_eq_getElem?_getD]
  by_cases hl:t<st.tmps.length
  ·rw [List.getElem?_eq_getElem hl];exact h.tmps _ (List.getElem_mem hl)
  ·rw [List.getElem?_eq_none (Nat.le_of_not_lt hl)];simp [AV.refs,AC.refs]
 |const c=>
  simp only [St.ev]
  unfold eL
  split<;>simp [AV.refs,AC.refs]
 |func f=>simp [St.ev,AV.refs,AC.refs]
 |_=>simp [St.ev,AV.refs,AC.refs]
theorem su: ∀ {H:List (Nat×OB)} {l:Nat} {b:OB},Ad H l=some b->(l,b)∈H
 |(k,c)::r,l,b,h=>by
  simp only [Ad] at h
  split at h
  ·rename_i e;subst e;cases h;simp
  ·exact List.mem_cons_of_mem _ (su h)
section
variable {T:Tab} {Γ:Env} {ops:Array Oper} {d:Nat} {v:AV} {b:OB} {t:St}
theorem oD {e:Option Tmp} (h:e≠some d) (hn:Dx d t) {y:AV} (hy:d∉y.refs):(Em d v b t).put e y=Em d v b (t.put e y)/\Dx d (t.put e y):=by
 cases e with
 |none=>exact ⟨rfl,hn⟩
 |some k=>exact ⟨AI (λe=>h (by rw [e])),hn.put (λe=>h (by rw [e])) hy⟩
theorem bq {o:Oper} (hg:o.guard=none) (Wh:o.dst≠some d) (hn:Dx d t) {q:Option AV} (h1:evalOp T Γ (Em d v b t) o=q.map λy=>(y,Em d v b t)) (h2:evalOp T Γ t o=q.map λy=>(y,t)) (hq: ∀y,q=some y->d∉y.refs) {s':St}
  (he:Cb T Γ ops (Em d v b t) o=some s'): ∃t',Cb T Γ ops t o=some t'/\s'=Em d v b t'/\Dx d t':=by
 unfold Cb at he⊢
 rw [hg] at he⊢
 simp only at he⊢
 rw [h1] at he
 cases q with
 |none=>cases he
 |some y=>
  obtain ⟨p1,p2⟩:=oD (v:=v) (b:=b) Wh hn (hq y rfl)
  refine ⟨_,by rw [h2];rfl,?_,p2⟩
  simp only [Option.map_some,Option.some.injEq] at he
  rw [<-he,p1]
theorem Qk {l:List Operand} (hu:l.all (bj d)=true): ∀x∈l,(Em d v b t).ev x=t.ev x:= λx hx=>FE (yQ (List.all_eq_true.1 hu x hx))
theorem vR {dst:Option Tmp} {x:Operand} {ty:TypeId} {pos:String} {after:Array Edge} (hn:Dx d t) (hx:(Em d v b t).ev x=t.ev x) (Wh:dst≠some d) {s':St}
  (he:Cb T Γ ops (Em d v b t) {dst:=dst,op:= .move x,type:=ty,pos:=pos,after:=after,guard:=none} =some s'):
  ∃t',Cb T Γ ops t {dst:=dst,op:= .move x,type:=ty,pos:=pos,after:=after,guard:=none} =some t'/\s'=Em d v b t'/\Dx d t':=
 bq rfl Wh hn (q:=some (t.ev x)) (by simp only [evalOp,Ca,hx]) (by simp only [evalOp,Ca]) (λy hy=>by cases hy;exact hn.ev x) he
def loadVar (T:Tab) (o:Option OB) (t0:TypeId) (i:Nat):Option AV:=match T.ty t0 with
 |some τ=>(match o with
  |some (.var _ vs)=>if τ.Ab then (if i+τ.size<=vs.length then some (.agg ((vs.drop i).take τ.size)) else none) else vs[i]?.map .at
  |_=>none)
 |none=>none
theorem cF {st:St} {t0:TypeId} {l i:Nat} :Ji T st t0 (.at (.Dj l i))=loadVar T (st.at l) t0 i:=by
 unfold Ji loadVar
 cases T.ty t0<;>rfl
theorem vN {dst:Option Tmp} {t0:TypeId} {x:Operand} {ty:TypeId} {pos:String} {after:Array Edge} (hn:Dx d t) (hx:(Em d v b t).ev x=t.ev x) (Wh:dst≠some d) {l i:Nat} (hp:t.ev x= .at (.Dj l i)) {s':St}
  (he:Cb T Γ ops (Em d v b t) {dst:=dst,op:= .load t0 x,type:=ty,pos:=pos,after:=after,guard:=none} =some s'):
  ∃t',Cb T Γ ops t {dst:=dst,op:= .load t0 x,type:=ty,pos:=pos,after:=after,guard:=none} =some t'/\s'=Em d v b t'/\Dx d t':=by
 have UU:d≠l:= λe=>by
  have:=hn.ev x
  rw [hp,e] at this
  exact this (by simp [AV.refs,AC.refs])
 refine bq rfl Wh hn (q:=loadVar T (t.at l) t0 i) ?_ ?_ (λy hy=>?_) he
 ·simp only [evalOp,Ca,hx,hp]
  rw [cF,xc UU]
 ·simp only [evalOp,Ca,hp]
  rw [cF]
 ·unfold loadVar at hy
  split at hy
  ·split at hy
   ·rename_i vs hb
    have hr:d∉vs.flatMap AC.refs:=(hn.heap _ (su hb)).2
    have dT: ∀c∈vs,d∉c.refs:= λc hc hd=>hr (List.mem_flatMap.2 ⟨c,hc,hd⟩)
    split at hy
    ·split at hy
     ·cases hy
      intro hd
      obtain ⟨c,hc,hd⟩:=List.mem_flatMap.1 hd
      exact dT c (List.mem_of_mem_drop (List.mem_of_mem_take hc)) hd
     ·cases hy
    ·cases hv:vs[i]? with
     |none=>rw [hv] at hy;cases hy
     |some c=>
      rw [hv] at hy
      cases hy
      exact dT c (List.mem_of_getElem? hv)
   ·cases hy
  ·cases hy
theorem yc {l:List Operand} (hu:l.all (bj d)=true):l.map (Em d v b t).ev=l.map t.ev:=List.map_congr_left λx hx=>Qk hu x hx
theorem uQ {dst:Option Tmp} {f:FuncId} {args:Array Operand} {ZY:Array TypeId} {ty:TypeId} {pos:String} {after:Array Edge} {sp:Spec} (Lb:Γ f=some (.q sp)) (hn:Dx d t) (hx:args.toList.map (Em d v b t).ev=args.toList.map t.ev) (Wh:dst≠some d)
  (hs:(args.toList.map t.ev).all (·.settled)=true) {s':St} (he:Cb T Γ ops (Em d v b t) {dst:=dst,op:= .call {callee:= .value (.func f),args:=args,argTypes:=ZY},type:=ty,pos:=pos,after:=after,guard:=none} =some s'):
  ∃t',Cb T Γ ops t {dst:=dst,op:= .call {callee:= .value (.func f),args:=args,argTypes:=ZY},type:=ty,pos:=pos,after:=after,guard:=none} =some t'/\s'=Em d v b t'/\Dx d t':=by
 have xB:Yi sp (args.toList.map t.ev)=false:=by unfold Yi;rw [hs];simp
 have vh: ∀st:St,Im Γ st f (args.toList.map t.ev)=(match Bl t sp.arg (args.toList.map t.ev) with
   |none=>none
   |some (_,x)=>(sp.fn x).map λy=>if sp.Dt then .Sv (sp.fresh||sp.res.flat) sp.res y else .at (.data (sp.fresh||sp.res.flat) sp.res y)):= λst=>by
  unfold Im
  rw [Lb]
  simp only
  rw [hs,bT (st:=t) _ _ hs]
  simp only [Bool.or_true,if_true]
  cases Bl t sp.arg (args.toList.map t.ev)<;>rfl
 refine bq rfl Wh hn (q:=Im Γ t f (args.toList.map t.ev)) ?_ ?_ (λy hy=>?_) he
 ·simp only [evalOp,Ca,Lb,hx,xB]
  rw [vh,vh t]
  simp
 ·simp only [evalOp,Ca,Lb,xB]
  simp
 ·rw [vh t] at hy
  split at hy
  ·cases hy
  ·rename_i x _
   cases hf:sp.fn x with
   |none=>rw [hf] at hy;cases hy
   |some z=>
    rw [hf] at hy
    simp only [Option.map_some,Option.some.injEq] at hy
    rw [<-hy]
    split<;>simp [AV.refs,AC.refs]
def fy (T:Tab) (o:Option OB) (t0:TypeId) (s:ByteArray) (vw:(v:Ty)->Option (Bool×v.den)):Option OB:=match T.mapOf t0 with
 |some v=>(match o,vw v with
  |some (.Nd v' f),some (_,y)=>if h:v'=v/\v.flat=true/\v.Ab=false then some (.Nd v (Zf (h.1▸f:ByteArray->Option v.den) s y)) else none
  |_,_=>none)
 |none=>none
theorem cG {st:St} {t0:TypeId} {l:Nat} {fr:Bool} {s:ByteArray} {x:AV} :Ej T st t0 (.at (.Fq l)) (.at (.data fr .str s)) x=(fy T (st.at l) t0 s λv=>Ci st v x).map λc=>st.Ff l c:=by
 unfold Ej fy
 cases T.mapOf t0 with
 |none=>rfl
 |some v0=>
  simp only
  cases st.at l with
  |none=>rfl
  |some c=>
   cases c with
   |Nd v' f=>
    cases Ci st v0 x with
    |none=>rfl
    |some p=>
     simp only
     split<;>rfl
   |_=>rfl
theorem sU {o:Option OB} {t0:TypeId} {s:ByteArray} {vw:(v:Ty)->Option (Bool×v.den)} {c:OB} (h:fy T o t0 s vw=some c):c.refs= []:=by
 unfold fy at h
 split at h
 ·split at h
  ·split at h
   ·cases h;rfl
   ·cases h
  ·cases h
 ·cases h
theorem ky {st:St} {t0:TypeId} {m k x:AV} {s':St} (h:Ej T st t0 m k x=some s'): ∃l fr s,m= .at (.Fq l)/\k= .at (.data fr .str s):=by
 unfold Ej at h
 split at h
 ·exact ⟨_,_,_,rfl,rfl⟩
 ·cases h
theorem sY: ∀ {H:List (Nat×OB)} {l:Nat} {c:OB} {p:Nat×OB},p∈Vm H l c->p∈H\/(p.2=c/\p.1=l/\ ∃c',(l,c')∈H)
 |(k,a)::r,l,c,p,h=>by
  simp only [Vm] at h
  split at h
  ·rename_i e
   rcases List.mem_cons.1 h with h|h
   ·subst h;exact .inr ⟨rfl,e,a,by rw [e];simp⟩
   ·exact .inl (List.mem_cons_of_mem _ h)
  ·rcases List.mem_cons.1 h with h|h
   ·exact .inl (by rw [h];simp)
   ·exact (sY h).imp (List.mem_cons_of_mem _) λ⟨h1,h2,c',h3⟩=>⟨h1,h2,c',List.mem_cons_of_mem _ h3⟩
theorem Dx.Ff {st:St} {l:Nat} {c:OB} (h:Dx d st) (hc:d∉c.refs):Dx d (st.Ff l c):=
 ⟨h.own,h.tmps,λp hp=>(sY hp).elim (h.heap p) λ⟨h1,h2,c',h3⟩=>⟨by rw [h2];exact (h.heap _ h3).1,by rw [h1];exact hc⟩⟩
theorem pH {dst:Option Tmp} {t0:TypeId} {m k x:Operand} {ty:TypeId} {pos:String} {after:Array Edge} (hn:Dx d t) (hm:(Em d v b t).ev m=t.ev m) (hk:(Em d v b t).ev k=t.ev k) (hx:(Em d v b t).ev x=t.ev x) (Wh:dst≠some d)
  (hs:(t.ev x).settled=true) {s':St} (he:Cb T Γ ops (Em d v b t) {dst:=dst,op:= .insert t0 m k x,type:=ty,pos:=pos,after:=after,guard:=none} =some s'):
  ∃t',Cb T Γ ops t {dst:=dst,op:= .insert t0 m k x,type:=ty,pos:=pos,after:=after,guard:=none} =some t'/\s'=Em d v b t'/\Dx d t':=by
 unfold Cb at he⊢
 simp only [evalOp,hm,hk,hx] at he⊢
 cases EZ:Ej T (Em d v b t) t0 (t.ev m) (t.ev k) (t.ev x) with
 |none=>rw [EZ] at he;cases he
 |some s1=>
  rw [EZ] at he
  simp only [Option.map_some,Option.some.injEq] at he
  obtain ⟨l,fr,s,e1,e2⟩:=ky EZ
  have UU:d≠l:= λe=>by
   have:=hn.ev m
   rw [e1,e] at this
   exact this (by simp [AV.refs,AC.refs])
  rw [e1,e2,cG,xc UU] at EZ
  have hvw:(λv0=>Ci (Em d v b t) v0 (t.ev x))= λv0=>Ci t v0 (t.ev x):=funext λv0=>Zg hs
  rw [hvw] at EZ
  rw [e1,e2,cG]
  cases ho:fy T (t.at l) t0 s λv0=>Ci t v0 (t.ev x) with
  |none=>rw [ho] at EZ;cases EZ
  |some c=>
   rw [ho] at EZ
   simp only [Option.map_some,Option.some.injEq] at EZ
   have hc:=sU ho
   have jM:Dx d (t.Ff l c):=hn.Ff (by rw [hc];simp)
   obtain ⟨p1,p2⟩:=oD (v:=v) (b:=b) (y:= .undef) Wh jM (by simp [AV.refs,AC.refs])
   refine ⟨_,rfl,?_,p2⟩
   rw [<-he,<-EZ,y0 UU,p1]
theorem Dx.back {e:Nat} (h:Dx e (Em d v b t)) (FW:e≠d) (hn:Dx d t):Dx e t:=by
 have hg: ∀k,k≠d->(Em d v b t).get k=t.get k:= λk hk=>We _ _ _ _ _ (Ne.symm hk)
 refine ⟨by rw [<-hg e FW];exact h.own,λu hu hd=>?_,h.MO⟩
 obtain ⟨k,hk,rfl⟩:=List.mem_iff_getElem.1 hu
 have e1:t.get k=t.tmps[k]:=by unfold St.get;rw [List.getD_eq_getElem?_getD,List.getElem?_eq_getElem hk];rfl
 by_cases IY:k=d
 ·subst IY
  have:=hn.own
  rw [e1] at this
  rw [this] at hd
  cases hd
 ·have h1:=h.ev (.tmp k)
  have h2:(Em d v b t).ev (.tmp k)=t.tmps[k]:=by show (Em d v b t).get k=_;rw [hg k IY,e1]
  rw [h2] at h1
  exact h1 hd
def ec (e:Ty):Nat->List (Nat×AV)->Option (Bool×Bool×List e.den)
 |_,[]=>some (true,true,[])
 |i,(j,x)::r=>if i=j then match Ci ⟨[],[]⟩ e x with
  |some (fr,y)=>match ec e (i+1) r with
   |some (Nj,EE,ys)=>some (fr&&Nj,Lo ⟨[],[]⟩ x&&e.tree&&EE,y::ys)
   |none=>none
  |none=>none
  else none
theorem Vt {st:St} {e:Ty} : ∀(l:List (Nat×Operand)) (i:Nat),(l.all λp=>Nv (st.ev p.2))=true->Fz e i l st=(ec e i (l.map λp=>(p.1,st.ev p.2))).map λp=>(p.1,p.2.1,p.2.2,st)
 | [],i,_=>rfl
 |(j,x)::r,i,h=>by
  rw [List.all_cons,Bool.and_eq_true] at h
  have hx:Nv (st.ev x)=true:=h.1
  simp only [Fz,ec,List.map_cons]
  split
  ·generalize VD:st.ev x=xv at hx
   unfold Nv at hx
   split at hx
   ·rename_i fr τ z
    have LY:settle st (.at (.data fr τ z))=some (.at (.data fr τ z),st):=rfl
    rw [LY]
    simp only
    rw [Zg (st:=⟨[],[]⟩) (st':=st) (v:= .at (.data fr τ z)) rfl]
    cases Ci ⟨[],[]⟩ e (.at (.data fr τ z)) with
    |none=>rfl
    |some p=>
     simp only
     rw [Vt r (i+1) h.2]
     cases ec e (i+1) (r.map λp=>(p.1,st.ev p.2)) with
     |none=>rfl
     |some q=>rfl
   ·cases hx
  ·rfl
def rowOf (T:Tab) (t0:TypeId) (len:Nat) (parts:List (Nat×AV)) (dst:Nat):Option (AV×OB):=match Wf T t0 with
 |some _=>none
 |none=>match T.elem t0 with
  |none=>none
  |some te=>match T.ty te with
   |none=>none
   |some e=>if parts.length=len/\len<=64/\e.size<=64/\dst<Ah then (ec e 0 parts).map λp=>(.at (.own dst 0 len), .arr ((T.mi||e.flat)&&p.1) (T.rm&&p.2.1) e te p.2.2) else none
theorem aw {st:St} {t0:TypeId} {len dst:Nat} {parts:Array (Nat×Operand)} (h:(parts.toList.all λp=>Nv (st.ev p.2))=true):
  Eh T st dst t0 len parts=(rowOf T t0 len (parts.toList.map λp=>(p.1,st.ev p.2)) dst).map λr=>(r.1,st.new dst r.2):=by
 unfold Eh rowOf
 cases Wf T t0 with
 |some p=>
  obtain ⟨te,e⟩:=p
  simp only [Option.map_none]
  split
  ·rename_i x hp
   rw [hp,List.all_cons,Bool.and_eq_true] at h
   have hx:Nv (st.ev x)=true:=h.1
   unfold Nv at hx
   split at hx
   ·rename_i hv;simp only [hv]
   ·cases hx
  ·rfl
 |none=>
  simp only
  unfold Gr
  cases T.elem t0 with
  |none=>rfl
  |some te=>
   simp only
   cases T.ty te with
   |none=>rfl
   |some e=>
    simp only [List.length_map,Array.length_toList]
    split
    ·rw [Vt _ 0 h]
     cases ec e 0 (parts.toList.map λp=>(p.1,st.ev p.2))<;>rfl
    ·rfl
theorem iZ {t0:TypeId} {len dst:Nat} {parts:List (Nat×AV)} {r:AV×OB} (h:rowOf T t0 len parts dst=some r):jT dst r.1 r.2:=by
 unfold rowOf at h
 split at h
 ·cases h
 ·split at h
  ·cases h
  ·split at h
   ·cases h
   ·split at h
    ·rename_i e _ _
     cases hp:ec e 0 parts with
     |none=>rw [hp] at h;cases h
     |some p=>
      rw [hp] at h
      simp only [Option.map_some,Option.some.injEq] at h
      subst h
      exact ⟨λl hl=>by simpa [AV.refs,AC.refs] using hl,rfl,λl hl=>by simp only [AV.map,As];rw [if_neg (Ne.symm hl)],λl=>rfl⟩
    ·cases h
theorem rQ {e:Nat} {t0:TypeId} {len:Nat} {parts:Array (Nat×Operand)} {ty:TypeId} {pos:String} {after:Array Edge} (_hl:jT d v b) (hn:Dx d t) (hx: ∀p∈parts.toList,(Em d v b t).ev p.2=t.ev p.2) (Wh:e≠d)
  (hp:(parts.toList.all λp=>Nv (t.ev p.2))=true) (Ev:Dx e (Em d v b t)) {s':St} (he:Cb T Γ ops (Em d v b t) {dst:=some e,op:= .buildSlice t0 len parts,type:=ty,pos:=pos,after:=after,guard:=none} =some s'):
  ∃t',Cb T Γ ops t {dst:=some e,op:= .buildSlice t0 len parts,type:=ty,pos:=pos,after:=after,guard:=none} =some t'/\s'=Em d v b t'/\Dx d t':=by
 have LO:=Ev.back Wh hn
 have xC:(parts.toList.all λp=>Nv ((Em d v b t).ev p.2))=true:=List.all_eq_true.2 λp pE=>by rw [hx p pE];exact List.all_eq_true.1 hp p pE
 have hm:(parts.toList.map λp=>(p.1,(Em d v b t).ev p.2))=parts.toList.map λp=>(p.1,t.ev p.2):=List.map_congr_left λp pE=>by rw [hx p pE]
 unfold Cb at he⊢
 simp only [evalOp] at he⊢
 rw [aw xC,hm] at he
 rw [aw hp]
 cases hr:rowOf T t0 len (parts.toList.map λp=>(p.1,t.ev p.2)) e with
 |none=>rw [hr] at he;cases he
 |some r=>
  rw [hr] at he
  have hL:=iZ hr
  simp only [Option.map_some,Option.some.injEq] at he
  rw [Ev.new] at he
  refine ⟨Em e r.1 r.2 t,by simp only [Option.map_some];rw [LO.new],?_,hn.plus (Ne.symm Wh) (λh=>Wh (hL.v1 _ h).symm) (by rw [hL.b1];simp)⟩
  rw [<-he,nH (Ne.symm Wh)]
def KH:Operand->AV
 | .const c=>eL c
 |_=> .undef
theorem KI {st:St} {x:Operand} (h:Nv (KH x)=true):st.ev x=KH x:=by
 cases x<;>first|rfl|cases h
def Xm (T:Tab) (o:Oper):Option (Nat×AV×OB):=match o.guard with
 |some _=>none
 |none=>match o.dst with
  |none=>none
  |some d=>match o.op with
   | .buildSlice t0 len parts=>if (parts.toList.all λp=>Nv (KH p.2))=true then (rowOf T t0 len (parts.toList.map λp=>(p.1,KH p.2)) d).map λr=>(d,r.1,r.2) else none
   | .makeMap t0 none=>match T.mapOf t0 with
    |some τ=>if d<Ah then some (d, .at (.Fq d), .Nd τ λ_=>none) else none
    |none=>none
   |_=>none
theorem Xn {o:Oper} {r:Nat×AV×OB} (h:Xm T o=some r):o.dst=some r.1/\jT r.1 r.2.1 r.2.2/\ ∀st:St,Dx r.1 st->Cb T Γ ops st o=some (Em r.1 r.2.1 r.2.2 st):=by
 obtain ⟨dst,op,ty,pos,after,guard⟩:=o
 unfold Xm at h
 cases guard with
 |some g=>cases h
 |none=>
  cases dst with
  |none=>cases h
  |some d=>
   cases op with
   |buildSlice t0 len parts=>
    simp only at h
    split at h
    ·rename_i hp
     cases hr:rowOf T t0 len (parts.toList.map λp=>(p.1,KH p.2)) d with
     |none=>rw [hr] at h;cases h
     |some q=>
      rw [hr] at h
      simp only [Option.map_some,Option.some.injEq] at h
      subst h
      refine ⟨rfl,iZ hr,λst Qy=>?_⟩
      have vh: ∀p∈parts.toList,st.ev p.2=KH p.2:= λp pE=>KI (List.all_eq_true.1 hp p pE)
      have hm:(parts.toList.map λp=>(p.1,st.ev p.2))=parts.toList.map λp=>(p.1,KH p.2):=List.map_congr_left λp pE=>by rw [vh p pE]
      have xC:(parts.toList.all λp=>Nv (st.ev p.2))=true:=List.all_eq_true.2 λp pE=>by rw [vh p pE];exact List.all_eq_true.1 hp p pE
      unfold Cb
      simp only [evalOp]
      rw [aw xC,hm,hr]
      simp only [Option.map_some]
      rw [Qy.new]
    ·cases h
   |makeMap t0 hint=>
    cases hint with
    |some x=>cases h
    |none=>
     simp only at h
     split at h
     ·rename_i τ Lu
      split at h
      ·rename_i hd
       cases h
       refine ⟨rfl,⟨λl hl=>by simpa [AV.refs,AC.refs] using hl,rfl,λl hl=>by simp only [AV.map,As];rw [if_neg (Ne.symm hl)],λl=>rfl⟩,λst Qy=>?_⟩
       unfold Cb
       simp only [evalOp,Mq,Lu,if_pos hd,Option.map_some]
       rw [Qy.new]
      ·cases h
     ·cases h
   |_=>cases h
theorem qx {l:List Operand} (h: ∀x∈l,(Em d v b t).ev x=t.ev x):(l.all λx=>((Em d v b t).ev x).settled)=(l.map t.ev).all (·.settled):=by
 rw [List.all_map]
 induction l with
 |nil=>rfl
 |cons x r ih=>
  simp only [List.all_cons,Function.comp]
  rw [h x (by simp),ih λy hy=>h y (by simp [hy])]
theorem qy {o:Oper} (hl:jT d v b) (hn:Dx d t) (hs:Ny Γ (Em d v b t) o=true) (hu:(bR o).all (bj d)=true) (Wh:o.dst≠some d) {s':St} (he:Cb T Γ ops (Em d v b t) o=some s'):
  ∃t',Cb T Γ ops t o=some t'/\s'=Em d v b t'/\Dx d t'/\Ny Γ t o=true:=by
 obtain ⟨dst,op,ty,pos,after,guard⟩:=o
 unfold Ny at hs
 cases guard with
 |some g=>cases hs
 |none=>
  simp only at hs
  split at hs
  ·rename_i x
   have hx:=Qk (v:=v) (b:=b) (t:=t) hu x (by simp [bR])
   obtain ⟨t',h1,h2,h3⟩:=vR hn hx Wh he
   exact ⟨t',h1,h2,h3,rfl⟩
  ·rename_i t0 x
   have hx:=Qk (v:=v) (b:=b) (t:=t) hu x (by simp [bR])
   rw [hx] at hs
   split at hs
   ·rename_i l i hp
    obtain ⟨t',h1,h2,h3⟩:=vN hn hx Wh hp he
    exact ⟨t',h1,h2,h3,by simp only [Ny,hp]⟩
   ·cases hs
  ·rename_i f args ZY
   rw [Bool.and_eq_true] at hs
   obtain ⟨jN,xE⟩:=hs
   split at jN
   ·rename_i sp Lb
    have vh:=Qk (v:=v) (b:=b) (t:=t) (l:=args.toList) hu
    rw [qx vh] at xE
    obtain ⟨t',h1,h2,h3⟩:=uQ Lb hn (yc hu) Wh xE he
    refine ⟨t',h1,h2,h3,?_⟩
    simp only [Ny,Lb,Bool.true_and]
    rw [List.all_map] at xE
    exact xE
   ·cases jN
  ·rename_i t0 m k x
   have hm:=Qk (v:=v) (b:=b) (t:=t) hu m (by simp [bR])
   have hk:=Qk (v:=v) (b:=b) (t:=t) hu k (by simp [bR])
   have hx:=Qk (v:=v) (b:=b) (t:=t) hu x (by simp [bR])
   rw [hm,hk,hx] at hs
   have hs0:=hs
   rw [Bool.and_eq_true] at hs
   obtain ⟨t',h1,h2,h3⟩:=pH hn hm hk hx Wh hs.2 he
   exact ⟨t',h1,h2,h3,hs0⟩
  ·rename_i t0 len parts
   rw [Bool.and_eq_true] at hs
   obtain ⟨jN,xE⟩:=hs
   cases dst with
   |none=>cases xE
   |some e=>
    simp only at xE
    have hed:e≠d:= λh=>Wh (by rw [h])
    have ah:(parts.toList.map (λp=>p.2)).all (bj d)=true:=hu
    have vh:=Qk (v:=v) (b:=b) (t:=t) ah
    have hx: ∀p∈parts.toList,(Em d v b t).ev p.2=t.ev p.2:= λp hp=>vh p.2 (List.mem_map.2 ⟨p,hp,rfl⟩)
    have hp:(parts.toList.all λp=>Nv (t.ev p.2))=true:=List.all_eq_true.2 λp hp=>by rw [<-hx p hp];exact List.all_eq_true.1 jN p hp
    have Ev:=lb xE
    obtain ⟨t',h1,h2,h3⟩:=rQ hl hn hx hed hp Ev he
    refine ⟨t',h1,h2,h3,?_⟩
    simp only [Ny,hp,Bool.true_and]
    exact yO (Ev.back hed hn)
  ·cases hs
def oW:List (Nat×AV×OB)->St->St->Prop
 | [],s,t=>s=t
 |q::Q,s,t=>Dx q.1 t/\oW Q s (Em q.1 q.2.1 q.2.2 t)
theorem ow {o:Oper} : ∀(Q:List (Nat×AV×OB)) (s t s':St),oW Q s t->(∀q∈Q,jT q.1 q.2.1 q.2.2/\(bR o).all (bj q.1)=true/\o.dst≠some q.1)->Ny Γ s o=true->Cb T Γ ops s o=some s'->
  ∃t',Cb T Γ ops t o=some t'/\oW Q s' t'/\Ny Γ t o=true
 | [],s,t,s',h,_,hs,he=>by
  have h:s=t:=h
  subst h
  exact ⟨s',he,rfl,hs⟩
 |q::Q,s,t,s',⟨h1,h2⟩,hq,hs,he=>by
  obtain ⟨u',e1,e2,e3⟩:=ow Q s _ s' h2 (λp hp=>hq p (List.mem_cons_of_mem _ hp)) hs he
  obtain ⟨l1,l2,l3⟩:=hq q (by simp)
  obtain ⟨t',f1,f2,f3,f4⟩:=qy l1 h1 e3 l2 l3 e1
  exact ⟨t',f1,⟨f3,by rw [<-f2];exact e2⟩,f4⟩
theorem oz {q:Nat×AV×OB} : ∀(Q1:List (Nat×AV×OB)) {Q2:List (Nat×AV×OB)} {s t:St},oW (Q1++q::Q2) s t->(∀p∈Q1++q::Q2,jT p.1 p.2.1 p.2.2)->(∀p∈Q1,p.1≠q.1)->
  Dx q.1 t/\oW (Q1++Q2) s (Em q.1 q.2.1 q.2.2 t)
 | [],Q2,s,t,h,_,_=>h
 |p::Q1,Q2,s,t,⟨h1,h2⟩,hL,Ev=>by
  have OP:=Ev p (by simp)
  have hLp:=hL p (by simp)
  have hLq:=hL q (by simp)
  obtain ⟨g1,g2⟩:=oz Q1 h2 (λr hr=>hL r (List.mem_cons_of_mem _ hr)) λr hr=>Ev r (List.mem_cons_of_mem _ hr)
  refine ⟨g1.back (Ne.symm OP) h1,h1.plus OP (λh=>OP (hLq.v1 _ h)) (by rw [hLq.b1];simp),?_⟩
  show oW (Q1++Q2) s (Em p.1 p.2.1 p.2.2 (Em q.1 q.2.1 q.2.2 t))
  rw [nH (Ne.symm OP)]
  exact g2
def eo (ops:Array Oper):Nat->Nat->Nat->Bool
 |0,_,_=>false
 |f+1,i,a=>Region.waitsFor .any ops i a||(List.range ops.size).any λk=>Region.waitsFor .any ops i k&&eo ops f k a
def Rp (ops:Array Oper) (Aa:Array Bool):Prop:= ∀k a,Aa.getD k false=true->Region.waitsFor .any ops k a=true->Aa.getD a false=true
theorem bt {Aa:Array Bool} {i a:Nat} (h:i∈Region.ready .any ops Aa) (hw:Region.waitsFor .any ops i a=true):Aa.getD a false=true:=by
 obtain ⟨_,o,ho,Hf⟩:=mem_ready.1 h
 obtain ⟨o',ON,e,he,hb,rfl⟩:=Region.waitsFor_spec hw
 rw [ho] at ON
 cases ON
 exact Hf e he hb
theorem dr {Aa:Array Bool} (hc:Rp ops Aa) {a:Nat} : ∀(f i:Nat),(∀x,Region.waitsFor .any ops i x=true->Aa.getD x false=true)->eo ops f i a=true->Aa.getD a false=true
 |0,_,_,h=>by cases h
 |f+1,i,hi,h=>by
  simp only [eo,Bool.or_eq_true,List.any_eq_true,Bool.and_eq_true] at h
  rcases h with h|⟨k,_,h1,h2⟩
  ·exact hi a h
  ·exact dr hc f k (λx hx=>hc k x (hi k h1) hx) h2
theorem Rp.set {Aa:Array Bool} (hc:Rp ops Aa) {i:Nat} (hi:i∈Region.ready .any ops Aa):Rp ops (Aa.setIfInBounds i true):= λk a hk hw=>by
 by_cases UR:i=k
 ·subst UR
  exact getD_set_true (bt hi hw)
 ·rw [getD_set_ne false UR] at hk
  exact getD_set_true (hc k a hk hw)
def vV (P:List (Nat×Nat×AV×OB)) (Γ:Env) (ops:Array Oper) (st:St) (o:Oper) (i:Nat):Bool:=
 (P.all λa=>eo ops 5 i a.1)||(Ny Γ st o&&P.all λa=>eo ops 5 i a.1||((bR o).all (bj a.2.1)&&(match o.dst with
  |some e=>!Nat.beq e a.2.1
  |none=>true)))
def KC (T:Tab) (Γ:Env) (ops:Array Oper) (P:List (Nat×Nat×AV×OB)) (K:St->Prop):Nat->Array Bool->St->Prop
 |0,Aa,st=>Region.ready .any ops Aa= []/\K st
 |f+1,Aa,st=>Region.ready .any ops Aa≠ []/\ ∀i∈Region.ready .any ops Aa,∃o st',ops[i]?=some o/\vV P Γ ops st o i=true/\Cb T Γ ops st o=some st'/\KC T Γ ops P K f (Aa.setIfInBounds i true) st'
structure zN (lc la:Array Bool) (Q:List Nat):Prop where
 size:la.size=lc.size
 off: ∀k∈Q,k<la.size/\la.getD k false=false/\lc.getD k false=true
 same: ∀k,k∉Q->la.getD k false=lc.getD k false
theorem zN.ready {lc la:Array Bool} {Q:List Nat} (h:zN lc la Q) {i:Nat} (hi:i∈Region.ready .any ops la) (hn:i∉Q):i∈Region.ready .any ops lc:=by
 obtain ⟨h1,o,ho,Hf⟩:=mem_ready.1 hi
 have Gu:i<la.size:=by
  rcases Nat.lt_or_ge i la.size with h'|h'
  ·exact h'
  ·simp [Array.getElem?_eq_none h'] at h1
 have h2:=getD_both h1
 rw [h.same i hn] at h2
 refine mem_ready.2 ⟨getD_in (by rw [<-h.size];exact Gu) h2,o,ho,λe he hb=>?_⟩
 have h3:=Hf e he hb
 by_cases hq:e.on∈Q
 ·exact (h.off _ hq).2.2
 ·rw [<-h.same _ hq];exact h3
theorem zN.nil {lc la:Array Bool} (h:zN lc la []):la=lc:=by
 refine Array.ext h.size λk h1 h2=>?_
 have:=h.same k (by simp)
 simpa [h1,h2] using this
theorem zN.one {lc la:Array Bool} {Q Q':List Nat} {i:Nat} (h:zN lc la Q) (hi:i∈Q) (hs: ∀k,k∈Q'↔k∈Q/\k≠i):zN lc (la.setIfInBounds i true) Q':=by
 refine ⟨by simp [h.size],λk hk=>?_,λk hk=>?_⟩
 ·obtain ⟨h1,h2⟩:=(hs k).1 hk
  obtain ⟨g1,g2,g3⟩:=h.off k h1
  exact ⟨by simpa using g1,by rw [getD_set_ne false (Ne.symm h2)];exact g2,g3⟩
 ·by_cases e:i=k
  ·subst e
   obtain ⟨g1,g2,g3⟩:=h.off i hi
   rw [g3]
   simp [g1]
  ·rw [getD_set_ne false e]
   exact h.same k λhq=>hk ((hs k).2 ⟨hq,Ne.symm e⟩)
theorem zN.both {lc la:Array Bool} {Q:List Nat} {i:Nat} (h:zN lc la Q) (hi:i∉Q):zN (lc.setIfInBounds i true) (la.setIfInBounds i true) Q:=by
 refine ⟨by simp [h.size],λk hk=>?_,λk hk=>?_⟩
 ·obtain ⟨g1,g2,g3⟩:=h.off k hk
  have Ev:i≠k:= λe=>hi (by rw [e];exact hk)
  exact ⟨by simpa using g1,by rw [getD_set_ne false Ev];exact g2,by rw [getD_set_ne false Ev];exact g3⟩
 ·by_cases e:i=k
  ·subst e
   have hs:=h.same i hi
   have hz:=h.size
   by_cases hl:i<la.size
   ·simp [hl,hz▸hl]
   ·have Ic: ¬i<lc.size:=by omega
    simp [hl,Ic]
  ·rw [getD_set_ne false e,getD_set_ne false e];exact h.same k hk
theorem vT {dst:Option Tmp} {d:Nat} (h:(match dst with
  |some e=>!Nat.beq e d
  |none=>true)=true):dst≠some d:= λe=>by
 subst e
 simp at h
theorem ya {P:List (Nat×Nat×AV×OB)} {K:St->Prop} (hP: ∀a∈P,∃o,ops[a.1]?=some o/\Xm T o=some a.2):
  ∀(n f:Nat) (Q:List (Nat×Nat×AV×OB)) (lc la:Array Bool) (s t:St),n=f+Q.length->KC T Γ ops P K f lc s->oW (Q.map (·.2)) s t->zN lc la (Q.map (·.1))->(∀a∈Q,a∈P)->
   (Q.Pairwise λa c=>a.2.1≠c.2.1/\a.1≠c.1)->Rp ops la->(∀a∈Q,∀x,Region.waitsFor .any ops a.1 x=true->la.getD x false=true)->anyS T Γ ops K n la t:=by
 intro n
 induction n with
 |zero=>
  intro f Q lc la s t hn hC hp hb hQ YR Of hw
  have hf:f=0:=by omega
  have hq:Q= []:=List.eq_nil_of_length_eq_zero (by omega)
  subst hf hq
  have hp:s=t:=hp
  subst hp
  rw [hb.nil]
  exact hC
 |succ n ih=>
  intro f Q lc la s t hn hC hp hb hQ YR Of hw
  refine ⟨?_,λi hi=>?_⟩
  ·cases Q with
   |nil=>
    rw [hb.nil]
    cases f with
    |zero=>simp at hn
    |succ f=>exact hC.1
   |cons a Q=>
    obtain ⟨o,ho,_⟩:=hP a (hQ a (by simp))
    obtain ⟨g1,g2,_⟩:=hb.off a.1 (by simp)
    have:a.1∈Region.ready .any ops la:=mem_ready.2 ⟨getD_in g1 g2,o,ho,λe he hbd=>hw a (by simp) e.on (by
     unfold Region.waitsFor
     rw [ho]
     exact Array.any_eq_true'.2 ⟨e,he,by simp [hbd]⟩)⟩
    intro e
    rw [e] at this
    cases this
  ·by_cases UP:i∈Q.map (·.1)
   ·obtain ⟨a,ha,rfl⟩:=List.mem_map.1 UP
    obtain ⟨Q1,Q2,rfl⟩:=List.append_of_mem ha
    obtain ⟨o,ho,PW⟩:=hP a (hQ a ha)
    obtain ⟨_,_,Qy⟩:=Xn (Γ:=Γ) (ops:=ops) PW
    have BJ:=List.pairwise_append.1 YR
    have RE:=List.pairwise_cons.1 BJ.2.1
    rw [List.map_append,List.map_cons] at hp
    have hL: ∀p∈Q1.map (·.2)++a.2::Q2.map (·.2),jT p.1 p.2.1 p.2.2:= λp pE=>by
     have:p∈(Q1++a::Q2).map (·.2):=by rw [List.map_append,List.map_cons];exact pE
     obtain ⟨c,hc,rfl⟩:=List.mem_map.1 this
     obtain ⟨o',_,WV⟩:=hP c (hQ c hc)
     exact (Xn (Γ:=Γ) (ops:=ops) WV).2.1
    obtain ⟨p1,p2⟩:=oz _ hp hL λp pE=>by
     obtain ⟨c,hc,rfl⟩:=List.mem_map.1 pE
     exact (BJ.2.2 c hc a (by simp)).1
    refine ⟨o,_,ho,Qy t p1,ih f (Q1++Q2) lc _ s _ ?_ hC (by rw [List.map_append];exact p2) (hb.one UP λk=>?_) (λc hc=>hQ c ?_) ?_ (Of.set hi) λc hc x hx=>getD_set_true (hw c ?_ x hx)⟩
    ·simp only [List.length_append,List.length_cons] at hn⊢;omega
    ·simp only [List.map_append,List.map_cons,List.mem_append,List.mem_cons]
     constructor
     ·intro h
      rcases h with h|h
      ·obtain ⟨c,hc,rfl⟩:=List.mem_map.1 h
       exact ⟨.inl h,(BJ.2.2 c hc a (by simp)).2⟩
      ·obtain ⟨c,hc,rfl⟩:=List.mem_map.1 h
       exact ⟨.inr (.inr h),Ne.symm (RE.1 c hc).2⟩
     ·rintro ⟨h|h|h,Ev⟩
      ·exact .inl h
      ·exact absurd h Ev
      ·exact .inr h
    ·rcases List.mem_append.1 hc with hc|hc
     ·exact List.mem_append_left _ hc
     ·exact List.mem_append_right _ (List.mem_cons_of_mem _ hc)
    ·exact List.pairwise_append.2 ⟨BJ.1,RE.2,λc hc e he=>BJ.2.2 c hc e (List.mem_cons_of_mem _ he)⟩
    ·rcases List.mem_append.1 hc with hc|hc
     ·exact List.mem_append_left _ hc
     ·exact List.mem_append_right _ (List.mem_cons_of_mem _ hc)
   ·have XN:=hb.ready hi UP
    cases f with
    |zero=>
     rw [hC.1] at XN
     cases XN
    |succ f=>
     obtain ⟨o,s',ho,jq,he,cS⟩:=hC.2 i XN
     have GG: ∀a∈Q,eo ops 5 i a.1=false:= λa ha=>by
      cases hwt:eo ops 5 i a.1 with
      |false=>rfl
      |true=>
       have h1:=dr Of _ i (λx hx=>bt hi hx) hwt
       rw [(hb.off a.1 (List.mem_map.2 ⟨a,ha,rfl⟩)).2.1] at h1
       cases h1
     have key: ∃t',Cb T Γ ops t o=some t'/\oW (Q.map (·.2)) s' t':=by
      unfold vV at jq
      rw [Bool.or_eq_true,Bool.and_eq_true] at jq
      rcases jq with jq|⟨h1,h2⟩
      ·cases Q with
       |nil=>
        have hp:s=t:=hp
        subst hp
        exact ⟨s',he,rfl⟩
       |cons a Q=>
        have:=List.all_eq_true.1 jq a (hQ a (by simp))
        rw [GG a (by simp)] at this
        cases this
      ·obtain ⟨t',g1,g2,_⟩:=ow (T:=T) (ops:=ops) _ s t s' hp (λq hq=>by
        obtain ⟨a,ha,rfl⟩:=List.mem_map.1 hq
        obtain ⟨o',_,PW⟩:=hP a (hQ a ha)
        have h3:=List.all_eq_true.1 h2 a (hQ a ha)
        rw [GG a ha,Bool.false_or,Bool.and_eq_true] at h3
        exact ⟨(Xn (Γ:=Γ) (ops:=ops) PW).2.1,h3.1,vT h3.2⟩) h1 he
       exact ⟨t',g1,g2⟩
     obtain ⟨t',g1,g2⟩:=key
     exact ⟨o,t',ho,g1,ih f Q _ _ s' t' (by omega) cS g2 (hb.both UP) hQ YR (Of.set hi) λc hc x hx=>getD_set_true (hw c hc x hx)⟩
def Qi (T:Tab) (ops:Array Oper) (Aa:Array Bool):List (Nat×Nat×AV×OB):=(Region.ready .any ops Aa).filterMap λi=>((ops[i]?).bind (Xm T)).map λr=>(i,r)
theorem p7 {Aa:Array Bool} {a:Nat×Nat×AV×OB} (h:a∈Qi T ops Aa):a.1∈Region.ready .any ops Aa/\ ∃o,ops[a.1]?=some o/\Xm T o=some a.2:=by
 unfold Qi at h
 obtain ⟨i,hi,he⟩:=List.mem_filterMap.1 h
 cases ho:ops[i]? with
 |none=>rw [ho] at he;cases he
 |some o=>
  rw [ho] at he
  simp only [Option.bind_some,Option.map_eq_some_iff] at he
  obtain ⟨r,h1,rfl⟩:=he
  exact ⟨hi,o,ho,h1⟩
theorem rT:Rp ops (Array.replicate ops.size false):= λk a hk _=>by
 rw [getD_replicate_false] at hk
 cases hk
theorem Xs (q:Bool): ∀(l:List Nat) (Aa:Array Bool),Rp ops Aa->Rp ops (Dw (Eo q ops l Aa) Aa)
 | [],Aa,h=>h
 |i::r,Aa,h=>by
  simp only [Eo]
  split
  ·rename_i hc
   rw [Bool.and_eq_true,Bool.and_eq_true] at hc
   have hi:i∈Region.ready .any ops Aa:=by simpa using hc.2.1
   exact Xs q r _ (h.set hi)
  ·exact Xs q r Aa h
theorem bb: ∀(l:List Nat) (Aa:Array Bool),(Dw l Aa).size=Aa.size
 | [],_=>rfl
 |i::r,Aa=>by simp only [Dw];rw [bb r];simp
theorem fp: ∀(l:List Nat) (Aa:Array Bool) (k:Nat),k∈l->k<Aa.size->(Dw l Aa).getD k false=true
 |i::r,Aa,k,h,hk=>by
  simp only [Dw]
  by_cases hr:k∈r
  ·exact fp r _ k hr (by simpa using hk)
  ·have:k=i:=(List.mem_cons.1 h).resolve_right hr
   subst this
   have hs: ∀(l:List Nat) (A:Array Bool),A.getD k false=true->(Dw l A).getD k false=true:=by
    intro l
    induction l with
    |nil=>exact λA h=>h
    |cons j l ih=>exact λA h=>ih _ (getD_set_true h)
   exact hs r _ (by simp [hk])
theorem cW: ∀(l:List Nat) (Aa:Array Bool) (k:Nat),k∉l->(Dw l Aa).getD k false=Aa.getD k false
 | [],_,_,_=>rfl
 |i::r,Aa,k,h=>by
  simp only [Dw]
  rw [cW r _ k λhk=>h (List.mem_cons_of_mem _ hk),getD_set_ne false (λe=>h (by rw [e];simp))]
theorem FI {Aa:Array Bool} {Q:List Nat} (h: ∀i∈Q,i∈Region.ready .any ops Aa):zN (Dw Q Aa) Aa Q:=by
 have hr: ∀i∈Q,i<Aa.size/\Aa.getD i false=false:= λi hi=>by
  have h1:=(mem_ready.1 (h i hi)).1
  refine ⟨?_,getD_both h1⟩
  rcases Nat.lt_or_ge i Aa.size with h'|h'
  ·exact h'
  ·simp [Array.getElem?_eq_none h'] at h1
 exact ⟨(bb Q Aa).symm,λk hk=>⟨(hr k hk).1,(hr k hk).2,fp Q Aa k hk (hr k hk).1⟩,λk hk=>(cW Q Aa k hk).symm⟩
theorem tC: ∀(Q:List (Nat×Nat×AV×OB)) (t s:St),(∀a∈Q,∃o,ops[a.1]?=some o/\Xm T o=some a.2)->(∀a∈Q,Dx a.2.1 t)->(Q.Pairwise λa c=>a.2.1≠c.2.1)->Ii T Γ ops (Q.map (·.1)) t=some s->oW (Q.map (·.2)) s t
 | [],t,s,_,_,_,h=>by
  have h:some t=some s:=h
  exact (Option.some.inj h).symm
 |a::Q,t,s,hQ,hn,hp,h=>by
  obtain ⟨o,ho,PW⟩:=hQ a (by simp)
  obtain ⟨_,hL,Qy⟩:=Xn (Γ:=Γ) (ops:=ops) PW
  obtain ⟨rk,yu⟩:=List.pairwise_cons.1 hp
  simp only [List.map_cons,Ii,ho] at h
  rw [Qy t (hn a (by simp))] at h
  refine ⟨hn a (by simp),tC Q _ s (λc hc=>hQ c (List.mem_cons_of_mem _ hc)) (λc hc=>?_) yu h⟩
  exact (hn c (List.mem_cons_of_mem _ hc)).plus (Ne.symm (rk c hc)) (λh=>rk c hc (hL.v1 _ h).symm) (by rw [hL.b1];simp)
end
end Go.Proofs.Ytjbdmibbbpdnnaa
