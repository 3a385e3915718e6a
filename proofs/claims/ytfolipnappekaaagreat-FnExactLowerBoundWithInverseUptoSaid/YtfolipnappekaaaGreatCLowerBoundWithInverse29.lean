/-
  Part 30 of the proof that the statement FnExactLowerBoundWithInverse holds.
-/
import Derived.Test.YtfolipnappekaaaGreatCLowerBoundWithInverse28
namespace Go.Proofs.YtfolipnappekaaaGreat
open Go.RowKit
def Er (d:Nat) (v:AV) (b:OB) (st:St):St:= {tmps:=Nr st.tmps d v,heap:=Iy st.heap d b}
def jL (d:Nat) (st:St):Bool:=(st.get d).refs.isEmpty&&((st.tmps.all λv=>!v.refs.contains d)&&st.heap.all λp=>!Nat.beq p.1 d&&!p.2.refs.contains d)
structure Ed (d:Nat) (st:St):Prop where
 own:(st.get d).refs= []
 tmps: ∀v∈st.tmps,d∉v.refs
 heap: ∀p∈st.heap,p.1≠d/\d∉p.2.refs
theorem nN {d:Nat} {st:St} (h:jL d st=true):Ed d st:=by
 unfold jL at h
 rw [Bool.and_eq_true,Bool.and_eq_true,List.all_eq_true,List.all_eq_true] at h
 obtain ⟨h0,h⟩:=h
 refine ⟨List.isEmpty_iff.1 h0,λv hv=>?_,λp hp=>?_⟩
 ·have:=h.1 v hv
  intro hd
  rw [List.contains_iff_mem.2 hd] at this
  cases this
 ·have:=h.2 p hp
  rw [Bool.and_eq_true] at this
  refine ⟨λe=>?_,λhd=>?_⟩
  ·have h1:=this.1
   rw [e,Nat.beq_refl] at h1
   cases h1
  ·have h1:=this.2
   rw [List.contains_iff_mem.2 hd] at h1
   cases h1
theorem FY {d:Nat} {st:St} (h:Ed d st):jL d st=true:=by
 unfold jL
 rw [Bool.and_eq_true,Bool.and_eq_true,List.all_eq_true,List.all_eq_true]
 refine ⟨by rw [h.own];rfl,λv hv=>?_,λp hp=>?_⟩
 ·rw [Bool.not_eq_true',<-Bool.not_eq_true,List.contains_iff_mem];exact h.tmps v hv
 ·rw [Bool.and_eq_true]
  refine ⟨?_,?_⟩
  ·rw [Bool.not_eq_true',<-Bool.not_eq_true]
   exact λe=>(h.heap p hp).1 (Nat.eq_of_beq_eq_true e)
  ·rw [Bool.not_eq_true',<-Bool.not_eq_true,List.contains_iff_mem];exact (h.heap p hp).2
structure mn (d:Nat) (v:AV) (b:OB):Prop where
 v1: ∀l,l∈v.refs->l=d
 b1:b.refs= []
 v2: ∀l,l≠d->v.map (Ay l)=v
 b2: ∀l,b.map (Ay l)=b
theorem Yo {α:Type} : ∀(xs:List α) (d t:Nat) (v x:α),d≠t->(Nr xs d v).getD t x=xs.getD t x
 | [],_,_,_,_,_=>rfl
 |y::r,0,0,_,_,h=>absurd rfl h
 |y::r,0,t+1,_,_,_=>by simp [Nr]
 |y::r,d+1,0,_,_,_=>by simp [Nr]
 |y::r,d+1,t+1,v,x,h=>by simpa [Nr] using Yo r d t v x (by omega)
theorem kd {α:Type} : ∀(xs:List α) (d e:Nat) (v w:α),d≠e->Nr (Nr xs d v) e w=Nr (Nr xs e w) d v
 | [],_,_,_,_,_=>rfl
 |y::r,0,0,_,_,h=>absurd rfl h
 |y::r,0,e+1,_,_,_=>rfl
 |y::r,d+1,0,_,_,_=>rfl
 |y::r,d+1,e+1,v,w,h=>by simp only [Nr];rw [kd r d e v w (by omega)]
theorem ry: ∀(H:List (Nat×OB)) (d l:Nat) (b:OB),d≠l->Ad (Iy H d b) l=Ad H l
 | [],d,l,b,h=>by simp [Iy,Ad,h]
 |(k,c)::r,d,l,b,h=>by
  simp only [Iy]
  split
  ·simp only [Ad];rw [if_neg h]
  ·simp only [Ad]
   split
   ·rfl
   ·exact ry r d l b h
theorem rG: ∀(H:List (Nat×OB)) (d e:Nat) (b c:OB),d≠e->Iy (Iy H d b) e c=Iy (Iy H e c) d b
 | [],d,e,b,c,h=>by
  simp only [Iy]
  by_cases h1:e<d
  ·rw [if_pos h1,if_neg (by omega)]
  ·rw [if_neg h1,if_pos (by omega)]
 |(k,a)::r,d,e,b,c,h=>by
  simp only [Iy]
  by_cases h1:d<k<;>by_cases h2:e<k
  ·rw [if_pos h1,if_pos h2]
   simp only [Iy]
   by_cases h3:e<d
   ·rw [if_pos h3,if_neg (by omega),if_pos h1]
   ·rw [if_neg h3,if_pos h2,if_pos (by omega)]
  ·rw [if_pos h1,if_neg h2]
   simp only [Iy]
   rw [if_neg (by omega),if_neg h2,if_pos h1]
  ·rw [if_neg h1,if_pos h2]
   simp only [Iy]
   rw [if_pos h2,if_neg (by omega),if_neg h1]
  ·rw [if_neg h1,if_neg h2]
   simp only [Iy]
   rw [if_neg h1,if_neg h2,rG r d e b c h]
theorem sn: ∀(H:List (Nat×OB)) (d l:Nat) (b c:OB),d≠l->Sx (Iy H d b) l c=Iy (Sx H l c) d b
 | [],d,l,b,c,h=>by simp [Iy,Sx,h]
 |(k,a)::r,d,l,b,c,h=>by
  simp only [Iy,Sx]
  by_cases h1:d<k<;>by_cases h2:k=l
  ·rw [if_pos h1,if_pos h2]
   simp only [Sx,Iy]
   rw [if_neg h,if_pos h2,if_pos h1]
  ·rw [if_pos h1,if_neg h2]
   simp only [Sx,Iy]
   rw [if_neg h,if_neg h2,if_pos h1]
  ·rw [if_neg h1,if_pos h2]
   simp only [Sx,Iy]
   rw [if_pos h2,if_neg h1]
  ·rw [if_neg h1,if_neg h2]
   simp only [Sx,Iy]
   rw [if_neg h2,if_neg h1,sn r d l b c h]
theorem kJ {l:Nat} : ∀ {c:AC},l∉c.refs->Ay l c=c:=by
 intro c h
 cases c<;>simp only [Ay]<;>simp only [AC.refs,List.mem_singleton] at h
 case clo f Bv=>rw [if_neg (by simpa using h)]
 all_goals (first|rfl|rw [if_neg (Ne.symm h)])
theorem Tp {l:Nat} : ∀ {cs:List AC},l∉cs.flatMap AC.refs->cs.map (Ay l)=cs
 | [],_=>rfl
 |c::r,h=>by
  rw [List.flatMap_cons,List.mem_append] at h
  rw [List.map_cons,kJ (λhh=>h (.inl hh)),Tp (λhh=>h (.inr hh))]
theorem wk {l:Nat} : ∀ {v:AV},l∉v.refs->v.map (Ay l)=v
 | .at a,h=>by simp only [AV.map];rw [kJ h]
 | .agg cs,h=>by simp only [AV.map];rw [Tp h]
 | .Uo _ _ _,_=>rfl
 | .Hv ps,h=>by
  simp only [AV.map]
  congr 1
  simp only [AV.refs] at h
  induction ps with
  |nil=>rfl
  |cons p r ih=>
   rw [List.flatMap_cons,List.mem_append] at h
   rw [List.map_cons,Tp (λhh=>h (.inl hh)),ih (λhh=>h (.inr hh))]
theorem wm {l:Nat} : ∀ {b:OB},l∉b.refs->b.map (Ay l)=b
 | .arr _ _ _ _ _,_=>rfl
 | .Da _ _ _,_=>rfl
 | .var _ vs,h=>by simp only [OB.map];rw [Tp h]
 | .Ah _ _ _ _ _,_=>rfl
 | .Ok _ _,_=>rfl
theorem w8 {l:Nat} : ∀ {H:List (Nat×OB)},(∀p∈H,p.1≠l)->Tc H l=H
 | [],_=>rfl
 |(k,b)::r,h=>by
  simp only [Tc]
  rw [if_neg (h (k,b) (by simp)),w8 λp hp=>h p (by simp [hp])]
theorem Ed.forget {l:Nat} {st:St} (h:Ed l st):st.forget l=st:=by
 have e1:st.tmps.map (λv=>v.map (Ay l))=st.tmps:=(List.map_congr_left λv hv=>wk (h.tmps v hv)).trans (List.map_id _)
 have e2:st.heap.map (λp=>(p.1,p.2.map (Ay l)))=st.heap:=(List.map_congr_left λp hp=>by rw [wm (h.heap p hp).2];rfl).trans (List.map_id _)
 unfold St.forget St.Gh
 simp only [e1,e2]
 rw [w8 λp hp=>(h.heap p hp).1]
theorem Ed.new {l:Nat} {st:St} (h:Ed l st) (b:OB) (v:AV):(st.new l b).put (some l) v=Er l v b st:=by
 unfold St.new
 rw [h.forget]
 rfl
theorem nK {α:Type} : ∀ {xs:List α} {d:Nat} {v x:α},x∈Nr xs d v->x∈xs\/x=v
 | [],_,_,_,h=>by cases h
 |y::r,0,v,x,h=>by
  rcases List.mem_cons.1 h with h|h
  ·exact .inr h
  ·exact .inl (List.mem_cons_of_mem _ h)
 |y::r,d+1,v,x,h=>by
  rcases List.mem_cons.1 h with h|h
  ·exact .inl (by rw [h];simp)
  ·exact (nK h).imp (List.mem_cons_of_mem _) id
theorem xe: ∀ {H:List (Nat×OB)} {d:Nat} {b:OB} {p:Nat×OB},p∈Iy H d b->p∈H\/p=(d,b)
 | [],d,b,p,h=> .inr (by simpa [Iy] using h)
 |(k,c)::r,d,b,p,h=>by
  simp only [Iy] at h
  split at h
  ·rcases List.mem_cons.1 h with h|h
   ·exact .inr h
   ·exact .inl h
  ·rcases List.mem_cons.1 h with h|h
   ·exact .inl (by rw [h];simp)
   ·exact (xe h).imp (List.mem_cons_of_mem _) id
theorem PH {d:Nat} {v:AV} {b:OB} {st:St} {x:Operand} (h:x≠ .tmp d):(Er d v b st).ev x=st.ev x:=by
 cases x with
 |tmp t=>exact Yo _ _ _ _ _ (λe=>h (by rw [e]))
 |_=>rfl
theorem CT {d l:Nat} {v:AV} {b:OB} {st:St} (h:d≠l):(Er d v b st).at l=st.at l:=ry _ _ _ _ h
theorem JK {d e:Nat} {v u:AV} {b:OB} {st:St} (h:d≠e):(Er d v b st).put (some e) u=Er d v b (st.put (some e) u):=by
 unfold Er St.put
 simp only
 rw [kd _ _ _ _ _ h]
theorem EL {d l:Nat} {v:AV} {b c:OB} {st:St} (h:d≠l):(Er d v b st).Fk l c=Er d v b (st.Fk l c):=by
 unfold Er St.Fk
 simp only
 rw [sn _ _ _ _ _ h]
theorem qU {d e:Nat} {v u:AV} {b c:OB} {st:St} (h:d≠e):Er e u c (Er d v b st)=Er d v b (Er e u c st):=by
 unfold Er
 rw [kd _ _ _ _ _ h,rG _ _ _ _ _ h]
theorem Ed.put {d:Nat} {st:St} {e:Nat} {u:AV} (h:Ed d st) (ZF:e≠d) (hu:d∉u.refs):Ed d (st.put (some e) u):=
 ⟨by show (List.getD (Nr st.tmps e u) d .undef).refs= [];rw [Yo _ _ _ _ _ ZF];exact h.own,λv hv=>(nK hv).elim (h.tmps v) λe=>by rw [e];exact hu,h.heap⟩
theorem Ed.plus {d e:Nat} {u:AV} {c:OB} {st:St} (h:Ed d st) (ZF:d≠e) (hu:d∉u.refs) (hc:d∉c.refs):Ed d (Er e u c st):=
 ⟨by show (List.getD (Nr st.tmps e u) d .undef).refs= [];rw [Yo _ _ _ _ _ (Ne.symm ZF)];exact h.own,λv hv=>(nK hv).elim (h.tmps v) λe=>by rw [e];exact hu,λp hp=>(xe hp).elim (h.heap p) λe'=>by rw [e'];exact ⟨Ne.symm ZF,hc⟩⟩
theorem Ed.XH {d e:Nat} {u:AV} {c:OB} {st:St} (h:Ed d (Er e u c st)): ∀p∈st.heap,p.1≠d/\d∉p.2.refs:= λp hp=>h.heap p (by
 show p∈Iy st.heap e c
 generalize st.heap=H at hp
 induction H with
 |nil=>cases hp
 |cons q r ih=>
  obtain ⟨k,a⟩:=q
  simp only [Iy]
  split
  ·exact List.mem_cons_of_mem _ hp
  ·rcases List.mem_cons.1 hp with hp|hp
   ·rw [hp];simp
   ·exact List.mem_cons_of_mem _ (ih hp))
theorem lW {st st':St} : ∀(τ:Ty) (cs:List AC),cs.all (·.settled)=true->Cn st' τ cs=Cn st τ cs:=by
 intro τ
 induction τ with
 |unit=>intro cs _;cases cs<;>rfl
 |pair a r gC dL=>
  intro cs h
  simp only [Cn]
  rw [List.all_eq_true] at h
  rw [gC _ (List.all_eq_true.2 λc hc=>h c (List.mem_of_mem_take hc)),dL _ (List.all_eq_true.2 λc hc=>h c (List.mem_of_mem_drop hc))]
 |_=>
  intro cs h
  rcases cs with _|⟨c,_|⟨c',cs⟩⟩
  ·rfl
  ·simp only [List.all_cons,List.all_nil,Bool.and_true] at h
   simp only [Cn]
   exact Tz h
  ·rfl
theorem aU {st st':St} {τ:Ty} {v:AV} (h:v.settled=true):Cq st' τ v=Cq st τ v:=by
 cases v with
 | «at»a=>
  have ha:a.settled=true:=h
  cases a<;>simp only [AC.settled,Bool.false_eq_true] at ha
  all_goals
   simp only [Cq]
   rw [Km rfl,Km rfl]
   rw [Tz (st:=st) (st':=st') rfl]
 |agg cs=>simp only [Cq];rw [lW _ _ h]
 |Uo _ _ _=>rfl
 |Hv _=>rfl
theorem du {st st':St} : ∀(τ:Ty) (vs:List AV),vs.all (·.settled)=true->Bp st' τ vs=Bp st τ vs
 | .pair a r,v::vs,h=>by
  rw [List.all_cons,Bool.and_eq_true] at h
  simp only [Bp]
  rw [aU (st:=st) (st':=st') h.1,du r vs h.2]
 | .pair _ _,[],_=>rfl
 | .unit,[],_=>rfl
 | .unit,_::_,_=>rfl
 | .int _,vs,_=>by cases vs<;>rfl
 | .bool,vs,_=>by cases vs<;>rfl
 | .str,vs,_=>by cases vs<;>rfl
 | .slice _,vs,_=>by cases vs<;>rfl
 | .oslice _,vs,_=>by cases vs<;>rfl
 | .ptr _,vs,_=>by cases vs<;>rfl
 | .optr _,vs,_=>by cases vs<;>rfl
 | .smap _,vs,_=>by cases vs<;>rfl
 | .clo _ _,vs,_=>by cases vs<;>rfl
def Pf:AV->Bool
 | .at (.data _ _ _)=>true
 |_=>false
def dr (o:Oper):List Operand:=match o.op with
 | .move x=> [x]
 | .load _ x=> [x]
 | .call {callee:= .value (.func _),args, .. } =>args.toList
 | .insert _ m k x=> [m,k,x]
 | .buildSlice _ _ parts=>parts.toList.map (·.2)
 |_=> []
def cJ (d:Nat):Operand->Bool
 | .tmp t=>!Nat.beq t d
 |_=>true
theorem FZ {d:Nat} {x:Operand} (h:cJ d x=true):x≠ .tmp d:= λe=>by
 subst e
 simp [cJ] at h
def Pj (Γ:Env) (st:St) (o:Oper):Bool:=match o.guard with
 |some _=>false
 |none=>match o.op with
  | .move _=>true
  | .load _ x=>(match st.ev x with
   | .at (.Dp _ _)=>true
   |_=>false)
  | .call {callee:= .value (.func f),args, .. } =>(match Γ f with
   |some (.q _)=>true
   |_=>false)&&args.toList.all λx=>(st.ev x).settled
  | .insert _ m k x=>(match st.ev m with
   | .at (.Fw _)=>true
   |_=>false)&&Pf (st.ev k)&&(st.ev x).settled
  | .buildSlice _ _ parts=>(parts.toList.all λp=>Pf (st.ev p.2))&&(match o.dst with
   |some e=>jL e st
   |none=>false)
  |_=>false
theorem Ed.ev {d:Nat} {st:St} (h:Ed d st) (x:Operand):d∉(st.ev x).refs:=by
 cases x with
 |tmp t=>
  simp only [St.ev,St.get]
  rw [List.getD_eq_getElem?_getD]
  by_cases hl:t<st.tmps.length
  ·rw [List.getElem?_eq_getElem hl];exact h.tmps _ (List.getElem_mem hl)
  ·rw [List.getElem?_eq_none (Nat.le_of_not_lt hl)];simp [AV.refs,AC.refs]
 |const c=>
  simp only [St.ev]
  unfold gO
  split<;>simp [AV.refs,AC.refs]
 |func f=>simp [St.ev,AV.refs,AC.refs]
 |_=>simp [St.ev,AV.refs,AC.refs]
theorem wF: ∀ {H:List (Nat×OB)} {l:Nat} {b:OB},Ad H l=some b->(l,b)∈H
 |(k,c)::r,l,b,h=>by
  simp only [Ad] at h
  split at h
  ·rename_i e;subst e;cases h;simp
  ·exact List.mem_cons_of_mem _ (wF h)
section
variable {T:Tab} {Γ:Env} {ops:Array Oper} {d:Nat} {v:AV} {b:OB} {t:St}
theorem sa {e:Option Tmp} (h:e≠some d) (hn:Ed d t) {y:AV} (hy:d∉y.refs):(Er d v b t).put e y=Er d v b (t.put e y)/\Ed d (t.put e y):=by
 cases e with
 |none=>exact ⟨rfl,hn⟩
 |some k=>exact ⟨JK (λe=>h (by rw [e])),hn.put (λe=>h (by rw [e])) hy⟩
theorem cR {o:Oper} (hg:o.guard=none) (Yr:o.dst≠some d) (hn:Ed d t) {q:Option AV} (h1:evalOp T Γ (Er d v b t) o=q.map λy=>(y,Er d v b t)) (h2:evalOp T Γ t o=q.map λy=>(y,t)) (hq: ∀y,q=some y->d∉y.refs) {s':St}
  (he:Ci T Γ ops (Er d v b t) o=some s'): ∃t',Ci T Γ ops t o=some t'/\s'=Er d v b t'/\Ed d t':=by
 unfold Ci at he⊢
 rw [hg] at he⊢
 simp only at he⊢
 rw [h1] at he
 cases q with
 |none=>cases he
 |some y=>
  obtain ⟨p1,p2⟩:=sa (v:=v) (b:=b) Yr hn (hq y rfl)
  refine ⟨_,by rw [h2];rfl,?_,p2⟩
  simp only [Option.map_some,Option.some.injEq] at he
  rw [<-he,p1]
theorem Rv {l:List Operand} (hu:l.all (cJ d)=true): ∀x∈l,(Er d v b t).ev x=t.ev x:= λx hx=>PH (FZ (List.all_eq_true.1 hu x hx))
theorem zL {dst:Option Tmp} {x:Operand} {ty:TypeId} {pos:String} {after:Array Edge} (hn:Ed d t) (hx:(Er d v b t).ev x=t.ev x) (Yr:dst≠some d) {s':St}
  (he:Ci T Γ ops (Er d v b t) {dst:=dst,op:= .move x,type:=ty,pos:=pos,after:=after,guard:=none} =some s'):
  ∃t',Ci T Γ ops t {dst:=dst,op:= .move x,type:=ty,pos:=pos,after:=after,guard:=none} =some t'/\s'=Er d v b t'/\Ed d t':=
 cR rfl Yr hn (q:=some (t.ev x)) (by simp only [evalOp,Ch,hx]) (by simp only [evalOp,Ch]) (λy hy=>by cases hy;exact hn.ev x) he
def loadVar (T:Tab) (o:Option OB) (t0:TypeId) (i:Nat):Option AV:=match T.ty t0 with
 |some τ=>(match o with
  |some (.var _ vs)=>if τ.Ab then (if i+τ.size<=vs.length then some (.agg ((vs.drop i).take τ.size)) else none) else vs[i]?.map .at
  |_=>none)
 |none=>none
theorem eC {st:St} {t0:TypeId} {l i:Nat} :Ki T st t0 (.at (.Dp l i))=loadVar T (st.at l) t0 i:=by
 unfold Ki loadVar
 cases T.ty t0<;>rfl
theorem zF {dst:Option Tmp} {t0:TypeId} {x:Operand} {ty:TypeId} {pos:String} {after:Array Edge} (hn:Ed d t) (hx:(Er d v b t).ev x=t.ev x) (Yr:dst≠some d) {l i:Nat} (hp:t.ev x= .at (.Dp l i)) {s':St}
  (he:Ci T Γ ops (Er d v b t) {dst:=dst,op:= .load t0 x,type:=ty,pos:=pos,after:=after,guard:=none} =some s'):
  ∃t',Ci T Γ ops t {dst:=dst,op:= .load t0 x,type:=ty,pos:=pos,after:=after,guard:=none} =some t'/\s'=Er d v b t'/\Ed d t':=by
 have hld:d≠l:= λe=>by
  have:=hn.ev x
  rw [hp,e] at this
  exact this (by simp [AV.refs,AC.refs])
 refine cR rfl Yr hn (q:=loadVar T (t.at l) t0 i) ?_ ?_ (λy hy=>?_) he
 ·simp only [evalOp,Ch,hx,hp]
  rw [eC,CT hld]
 ·simp only [evalOp,Ch,hp]
  rw [eC]
 ·unfold loadVar at hy
  split at hy
  ·split at hy
   ·rename_i vs hb
    have hr:d∉vs.flatMap AC.refs:=(hn.heap _ (wF hb)).2
    have Zp: ∀c∈vs,d∉c.refs:= λc hc hd=>hr (List.mem_flatMap.2 ⟨c,hc,hd⟩)
    split at hy
    ·split at hy
     ·cases hy
      intro hd
      obtain ⟨c,hc,hd⟩:=List.mem_flatMap.1 hd
      exact Zp c (List.mem_of_mem_drop (List.mem_of_mem_take hc)) hd
     ·cases hy
    ·cases hv:vs[i]? with
     |none=>rw [hv] at hy;cases hy
     |some c=>
      rw [hv] at hy
      cases hy
      exact Zp c (List.mem_of_getElem? hv)
   ·cases hy
  ·cases hy
theorem EO {l:List Operand} (hu:l.all (cJ d)=true):l.map (Er d v b t).ev=l.map t.ev:=List.map_congr_left λx hx=>Rv hu x hx
theorem yX {dst:Option Tmp} {f:FuncId} {args:Array Operand} {tys:Array TypeId} {ty:TypeId} {pos:String} {after:Array Edge} {sp:Spec} (Mg:Γ f=some (.q sp)) (hn:Ed d t) (hx:args.toList.map (Er d v b t).ev=args.toList.map t.ev) (Yr:dst≠some d)
  (hs:(args.toList.map t.ev).all (·.settled)=true) {s':St} (he:Ci T Γ ops (Er d v b t) {dst:=dst,op:= .call {callee:= .value (.func f),args:=args,argTypes:=tys},type:=ty,pos:=pos,after:=after,guard:=none} =some s'):
  ∃t',Ci T Γ ops t {dst:=dst,op:= .call {callee:= .value (.func f),args:=args,argTypes:=tys},type:=ty,pos:=pos,after:=after,guard:=none} =some t'/\s'=Er d v b t'/\Ed d t':=by
 have DO:ar sp (args.toList.map t.ev)=false:=by unfold ar;rw [hs];simp
 have zg: ∀st:St,Jg Γ st f (args.toList.map t.ev)=(match Bp t sp.arg (args.toList.map t.ev) with
   |none=>none
   |some (_,x)=>(sp.fn x).map λy=>if sp.Dh then .Uo (sp.fresh||sp.res.flat) sp.res y else .at (.data (sp.fresh||sp.res.flat) sp.res y)):= λst=>by
  unfold Jg
  rw [Mg]
  simp only
  rw [hs,du (st:=t) _ _ hs]
  simp only [Bool.or_true,if_true]
  cases Bp t sp.arg (args.toList.map t.ev)<;>rfl
 refine cR rfl Yr hn (q:=Jg Γ t f (args.toList.map t.ev)) ?_ ?_ (λy hy=>?_) he
 ·simp only [evalOp,Ch,Mg,hx,DO]
  rw [zg,zg t]
  simp
 ·simp only [evalOp,Ch,Mg,DO]
  simp
 ·rw [zg t] at hy
  split at hy
  ·cases hy
  ·rename_i x _
   cases hf:sp.fn x with
   |none=>rw [hf] at hy;cases hy
   |some z=>
    rw [hf] at hy
    simp only [Option.map_some,Option.some.injEq] at hy
    rw [<-hy]
    split<;>simp [AV.refs,AC.refs]
def iB (T:Tab) (o:Option OB) (t0:TypeId) (s:ByteArray) (vw:(v:Ty)->Option (Bool×v.den)):Option OB:=match T.mapOf t0 with
 |some v=>(match o,vw v with
  |some (.Ok v' f),some (_,y)=>if h:v'=v/\v.flat=true/\v.Ab=false then some (.Ok v (dp (h.1▸f:ByteArray->Option v.den) s y)) else none
  |_,_=>none)
 |none=>none
theorem eD {st:St} {t0:TypeId} {l:Nat} {fr:Bool} {s:ByteArray} {x:AV} :Eo T st t0 (.at (.Fw l)) (.at (.data fr .str s)) x=(iB T (st.at l) t0 s λv=>Cq st v x).map λc=>st.Fk l c:=by
 unfold Eo iB
 cases T.mapOf t0 with
 |none=>rfl
 |some v0=>
  simp only
  cases st.at l with
  |none=>rfl
  |some c=>
   cases c with
   |Ok v' f=>
    cases Cq st v0 x with
    |none=>rfl
    |some p=>
     simp only
     split<;>rfl
   |_=>rfl
theorem xc {o:Option OB} {t0:TypeId} {s:ByteArray} {vw:(v:Ty)->Option (Bool×v.den)} {c:OB} (h:iB T o t0 s vw=some c):c.refs= []:=by
 unfold iB at h
 split at h
 ·split at h
  ·split at h
   ·cases h;rfl
   ·cases h
  ·cases h
 ·cases h
theorem mT {st:St} {t0:TypeId} {m k x:AV} {s':St} (h:Eo T st t0 m k x=some s'): ∃l fr s,m= .at (.Fw l)/\k= .at (.data fr .str s):=by
 unfold Eo at h
 split at h
 ·exact ⟨_,_,_,rfl,rfl⟩
 ·cases h
theorem xf: ∀ {H:List (Nat×OB)} {l:Nat} {c:OB} {p:Nat×OB},p∈Sx H l c->p∈H\/(p.2=c/\p.1=l/\ ∃c',(l,c')∈H)
 |(k,a)::r,l,c,p,h=>by
  simp only [Sx] at h
  split at h
  ·rename_i e
   rcases List.mem_cons.1 h with h|h
   ·subst h;exact .inr ⟨rfl,e,a,by rw [e];simp⟩
   ·exact .inl (List.mem_cons_of_mem _ h)
  ·rcases List.mem_cons.1 h with h|h
   ·exact .inl (by rw [h];simp)
   ·exact (xf h).imp (List.mem_cons_of_mem _) λ⟨h1,h2,c',h3⟩=>⟨h1,h2,c',List.mem_cons_of_mem _ h3⟩
theorem Ed.Fk {st:St} {l:Nat} {c:OB} (h:Ed d st) (hc:d∉c.refs):Ed d (st.Fk l c):=
 ⟨h.own,h.tmps,λp hp=>(xf hp).elim (h.heap p) λ⟨h1,h2,c',h3⟩=>⟨by rw [h2];exact (h.heap _ h3).1,by rw [h1];exact hc⟩⟩
theorem tv {dst:Option Tmp} {t0:TypeId} {m k x:Operand} {ty:TypeId} {pos:String} {after:Array Edge} (hn:Ed d t) (hm:(Er d v b t).ev m=t.ev m) (hk:(Er d v b t).ev k=t.ev k) (hx:(Er d v b t).ev x=t.ev x) (Yr:dst≠some d)
  (hs:(t.ev x).settled=true) {s':St} (he:Ci T Γ ops (Er d v b t) {dst:=dst,op:= .insert t0 m k x,type:=ty,pos:=pos,after:=after,guard:=none} =some s'):
  ∃t',Ci T Γ ops t {dst:=dst,op:= .insert t0 m k x,type:=ty,pos:=pos,after:=after,guard:=none} =some t'/\s'=Er d v b t'/\Ed d t':=by
 unfold Ci at he⊢
 simp only [evalOp,hm,hk,hx] at he⊢
 cases DM:Eo T (Er d v b t) t0 (t.ev m) (t.ev k) (t.ev x) with
 |none=>rw [DM] at he;cases he
 |some s1=>
  rw [DM] at he
  simp only [Option.map_some,Option.some.injEq] at he
  obtain ⟨l,fr,s,e1,e2⟩:=mT DM
  have hld:d≠l:= λe=>by
   have:=hn.ev m
   rw [e1,e] at this
   exact this (by simp [AV.refs,AC.refs])
  rw [e1,e2,eD,CT hld] at DM
  have hvw:(λv0=>Cq (Er d v b t) v0 (t.ev x))= λv0=>Cq t v0 (t.ev x):=funext λv0=>aU hs
  rw [hvw] at DM
  rw [e1,e2,eD]
  cases ho:iB T (t.at l) t0 s λv0=>Cq t v0 (t.ev x) with
  |none=>rw [ho] at DM;cases DM
  |some c=>
   rw [ho] at DM
   simp only [Option.map_some,Option.some.injEq] at DM
   have hc:=xc ho
   have ma:Ed d (t.Fk l c):=hn.Fk (by rw [hc];simp)
   obtain ⟨p1,p2⟩:=sa (v:=v) (b:=b) (y:= .undef) Yr ma (by simp [AV.refs,AC.refs])
   refine ⟨_,rfl,?_,p2⟩
   rw [<-he,<-DM,EL hld,p1]
theorem Ed.back {e:Nat} (h:Ed e (Er d v b t)) (ZF:e≠d) (hn:Ed d t):Ed e t:=by
 have hg: ∀k,k≠d->(Er d v b t).get k=t.get k:= λk hk=>Yo _ _ _ _ _ (Ne.symm hk)
 refine ⟨by rw [<-hg e ZF];exact h.own,λu hu hd=>?_,h.XH⟩
 obtain ⟨k,hk,rfl⟩:=List.mem_iff_getElem.1 hu
 have e1:t.get k=t.tmps[k]:=by unfold St.get;rw [List.getD_eq_getElem?_getD,List.getElem?_eq_getElem hk];rfl
 by_cases TA:k=d
 ·subst TA
  have:=hn.own
  rw [e1] at this
  rw [this] at hd
  cases hd
 ·have h1:=h.ev (.tmp k)
  have h2:(Er d v b t).ev (.tmp k)=t.tmps[k]:=by show (Er d v b t).get k=_;rw [hg k TA,e1]
  rw [h2] at h1
  exact h1 hd
def fZ (e:Ty):Nat->List (Nat×AV)->Option (Bool×Bool×List e.den)
 |_,[]=>some (true,true,[])
 |i,(j,x)::r=>if i=j then match Cq ⟨[],[]⟩ e x with
  |some (fr,y)=>match fZ e (i+1) r with
   |some (Ow,OA,ys)=>some (fr&&Ow,Ms ⟨[],[]⟩ x&&e.tree&&OA,y::ys)
   |none=>none
  |none=>none
  else none
theorem Yd {st:St} {e:Ty} : ∀(l:List (Nat×Operand)) (i:Nat),(l.all λp=>Pf (st.ev p.2))=true->Gp e i l st=(fZ e i (l.map λp=>(p.1,st.ev p.2))).map λp=>(p.1,p.2.1,p.2.2,st)
 | [],i,_=>rfl
 |(j,x)::r,i,h=>by
  rw [List.all_cons,Bool.and_eq_true] at h
  have hx:Pf (st.ev x)=true:=h.1
  simp only [Gp,fZ,List.map_cons]
  split
  ·generalize hxv:st.ev x=xv at hx
   unfold Pf at hx
   split at hx
   ·rename_i fr τ z
    have WL:settle st (.at (.data fr τ z))=some (.at (.data fr τ z),st):=rfl
    rw [WL]
    simp only
    rw [aU (st:=⟨[],[]⟩) (st':=st) (v:= .at (.data fr τ z)) rfl]
    cases Cq ⟨[],[]⟩ e (.at (.data fr τ z)) with
    |none=>rfl
    |some p=>
     simp only
     rw [Yd r (i+1) h.2]
     cases fZ e (i+1) (r.map λp=>(p.1,st.ev p.2)) with
     |none=>rfl
     |some q=>rfl
   ·cases hx
  ·rfl
def rowOf (T:Tab) (t0:TypeId) (len:Nat) (parts:List (Nat×AV)) (dst:Nat):Option (AV×OB):=match Yp T t0 with
 |some _=>none
 |none=>match T.elem t0 with
  |none=>none
  |some te=>match T.ty te with
   |none=>none
   |some e=>if parts.length=len/\len<=64/\e.size<=64/\dst<Ak then (fZ e 0 parts).map λp=>(.at (.own dst 0 len), .arr ((T.mY||e.flat)&&p.1) (T.uQ&&p.2.1) e te p.2.2) else none
theorem bV {st:St} {t0:TypeId} {len dst:Nat} {parts:Array (Nat×Operand)} (h:(parts.toList.all λp=>Pf (st.ev p.2))=true):
  Em T st dst t0 len parts=(rowOf T t0 len (parts.toList.map λp=>(p.1,st.ev p.2)) dst).map λr=>(r.1,st.new dst r.2):=by
 unfold Em rowOf
 cases Yp T t0 with
 |some p=>
  obtain ⟨te,e⟩:=p
  simp only [Option.map_none]
  split
  ·rename_i x hp
   rw [hp,List.all_cons,Bool.and_eq_true] at h
   have hx:Pf (st.ev x)=true:=h.1
   unfold Pf at hx
   split at hx
   ·rename_i hv;simp only [hv]
   ·cases hx
  ·rfl
 |none=>
  simp only
  unfold Hl
  cases T.elem t0 with
  |none=>rfl
  |some te=>
   simp only
   cases T.ty te with
   |none=>rfl
   |some e=>
    simp only [List.length_map,Array.length_toList]
    split
    ·rw [Yd _ 0 h]
     cases fZ e 0 (parts.toList.map λp=>(p.1,st.ev p.2))<;>rfl
    ·rfl
theorem l9 {t0:TypeId} {len dst:Nat} {parts:List (Nat×AV)} {r:AV×OB} (h:rowOf T t0 len parts dst=some r):mn dst r.1 r.2:=by
 unfold rowOf at h
 split at h
 ·cases h
 ·split at h
  ·cases h
  ·split at h
   ·cases h
   ·split at h
    ·rename_i e _ _
     cases hp:fZ e 0 parts with
     |none=>rw [hp] at h;cases h
     |some p=>
      rw [hp] at h
      simp only [Option.map_some,Option.some.injEq] at h
      subst h
      exact ⟨λl hl=>by simpa [AV.refs,AC.refs] using hl,rfl,λl hl=>by simp only [AV.map,Ay];rw [if_neg (Ne.symm hl)],λl=>rfl⟩
    ·cases h
theorem vW {e:Nat} {t0:TypeId} {len:Nat} {parts:Array (Nat×Operand)} {ty:TypeId} {pos:String} {after:Array Edge} (_hl:mn d v b) (hn:Ed d t) (hx: ∀p∈parts.toList,(Er d v b t).ev p.2=t.ev p.2) (Yr:e≠d)
  (hp:(parts.toList.all λp=>Pf (t.ev p.2))=true) (Ey:Ed e (Er d v b t)) {s':St} (he:Ci T Γ ops (Er d v b t) {dst:=some e,op:= .buildSlice t0 len parts,type:=ty,pos:=pos,after:=after,guard:=none} =some s'):
  ∃t',Ci T Γ ops t {dst:=some e,op:= .buildSlice t0 len parts,type:=ty,pos:=pos,after:=after,guard:=none} =some t'/\s'=Er d v b t'/\Ed d t':=by
 have VX:=Ey.back Yr hn
 have ij:(parts.toList.all λp=>Pf ((Er d v b t).ev p.2))=true:=List.all_eq_true.2 λp tp=>by rw [hx p tp];exact List.all_eq_true.1 hp p tp
 have hm:(parts.toList.map λp=>(p.1,(Er d v b t).ev p.2))=parts.toList.map λp=>(p.1,t.ev p.2):=List.map_congr_left λp tp=>by rw [hx p tp]
 unfold Ci at he⊢
 simp only [evalOp] at he⊢
 rw [bV ij,hm] at he
 rw [bV hp]
 cases hr:rowOf T t0 len (parts.toList.map λp=>(p.1,t.ev p.2)) e with
 |none=>rw [hr] at he;cases he
 |some r=>
  rw [hr] at he
  have hL:=l9 hr
  simp only [Option.map_some,Option.some.injEq] at he
  rw [Ey.new] at he
  refine ⟨Er e r.1 r.2 t,by simp only [Option.map_some];rw [VX.new],?_,hn.plus (Ne.symm Yr) (λh=>Yr (hL.v1 _ h).symm) (by rw [hL.b1];simp)⟩
  rw [<-he,qU (Ne.symm Yr)]
def UQ:Operand->AV
 | .const c=>gO c
 |_=> .undef
theorem UR {st:St} {x:Operand} (h:Pf (UQ x)=true):st.ev x=UQ x:=by
 cases x<;>first|rfl|cases h
def Zw (T:Tab) (o:Oper):Option (Nat×AV×OB):=match o.guard with
 |some _=>none
 |none=>match o.dst with
  |none=>none
  |some d=>match o.op with
   | .buildSlice t0 len parts=>if (parts.toList.all λp=>Pf (UQ p.2))=true then (rowOf T t0 len (parts.toList.map λp=>(p.1,UQ p.2)) d).map λr=>(d,r.1,r.2) else none
   | .makeMap t0 none=>match T.mapOf t0 with
    |some τ=>if d<Ak then some (d, .at (.Fw d), .Ok τ λ_=>none) else none
    |none=>none
   |_=>none
theorem Zx {o:Oper} {r:Nat×AV×OB} (h:Zw T o=some r):o.dst=some r.1/\mn r.1 r.2.1 r.2.2/\ ∀st:St,Ed r.1 st->Ci T Γ ops st o=some (Er r.1 r.2.1 r.2.2 st):=by
 obtain ⟨dst,op,ty,pos,after,guard⟩:=o
 unfold Zw at h
 cases guard with
 |some g=>cases h
 |none=>
  cases dst with
  |none=>cases h
  |some d=>
   cases op with
   |buildSlice t0 len parts=>
    simp only at h
    split at h
    ·rename_i hp
     cases hr:rowOf T t0 len (parts.toList.map λp=>(p.1,UQ p.2)) d with
     |none=>rw [hr] at h;cases h
     |some q=>
      rw [hr] at h
      simp only [Option.map_some,Option.some.injEq] at h
      subst h
      refine ⟨rfl,l9 hr,λst Td=>?_⟩
      have zg: ∀p∈parts.toList,st.ev p.2=UQ p.2:= λp tp=>UR (List.all_eq_true.1 hp p tp)
      have hm:(parts.toList.map λp=>(p.1,st.ev p.2))=parts.toList.map λp=>(p.1,UQ p.2):=List.map_congr_left λp tp=>by rw [zg p tp]
      have ij:(parts.toList.all λp=>Pf (st.ev p.2))=true:=List.all_eq_true.2 λp tp=>by rw [zg p tp];exact List.all_eq_true.1 hp p tp
      unfold Ci
      simp only [evalOp]
      rw [bV ij,hm,hr]
      simp only [Option.map_some]
      rw [Td.new]
    ·cases h
   |makeMap t0 hint=>
    cases hint with
    |some x=>cases h
    |none=>
     simp only at h
     split at h
     ·rename_i τ My
      split at h
      ·rename_i hd
       cases h
       refine ⟨rfl,⟨λl hl=>by simpa [AV.refs,AC.refs] using hl,rfl,λl hl=>by simp only [AV.map,Ay];rw [if_neg (Ne.symm hl)],λl=>rfl⟩,λst Td=>?_⟩
       unfold Ci
       simp only [evalOp,Nu,My,if_pos hd,Option.map_some]
       rw [Td.new]
      ·cases h
     ·cases h
   |_=>cases h
theorem uq {l:List Operand} (h: ∀x∈l,(Er d v b t).ev x=t.ev x):(l.all λx=>((Er d v b t).ev x).settled)=(l.map t.ev).all (·.settled):=by
 rw [List.all_map]
 induction l with
 |nil=>rfl
 |cons x r ih=>
  simp only [List.all_cons,Function.comp]
  rw [h x (by simp),ih λy hy=>h y (by simp [hy])]
theorem ur {o:Oper} (hl:mn d v b) (hn:Ed d t) (hs:Pj Γ (Er d v b t) o=true) (hu:(dr o).all (cJ d)=true) (Yr:o.dst≠some d) {s':St} (he:Ci T Γ ops (Er d v b t) o=some s'):
  ∃t',Ci T Γ ops t o=some t'/\s'=Er d v b t'/\Ed d t'/\Pj Γ t o=true:=by
 obtain ⟨dst,op,ty,pos,after,guard⟩:=o
 unfold Pj at hs
 cases guard with
 |some g=>cases hs
 |none=>
  simp only at hs
  split at hs
  ·rename_i x
   have hx:=Rv (v:=v) (b:=b) (t:=t) hu x (by simp [dr])
   obtain ⟨t',h1,h2,h3⟩:=zL hn hx Yr he
   exact ⟨t',h1,h2,h3,rfl⟩
  ·rename_i t0 x
   have hx:=Rv (v:=v) (b:=b) (t:=t) hu x (by simp [dr])
   rw [hx] at hs
   split at hs
   ·rename_i l i hp
    obtain ⟨t',h1,h2,h3⟩:=zF hn hx Yr hp he
    exact ⟨t',h1,h2,h3,by simp only [Pj,hp]⟩
   ·cases hs
  ·rename_i f args tys
   rw [Bool.and_eq_true] at hs
   obtain ⟨gB,pt⟩:=hs
   split at gB
   ·rename_i sp Mg
    have zg:=Rv (v:=v) (b:=b) (t:=t) (l:=args.toList) hu
    rw [uq zg] at pt
    obtain ⟨t',h1,h2,h3⟩:=yX Mg hn (EO hu) Yr pt he
    refine ⟨t',h1,h2,h3,?_⟩
    simp only [Pj,Mg,Bool.true_and]
    rw [List.all_map] at pt
    exact pt
   ·cases gB
  ·rename_i t0 m k x
   have hm:=Rv (v:=v) (b:=b) (t:=t) hu m (by simp [dr])
   have hk:=Rv (v:=v) (b:=b) (t:=t) hu k (by simp [dr])
   have hx:=Rv (v:=v) (b:=b) (t:=t) hu x (by simp [dr])
   rw [hm,hk,hx] at hs
   have WJ:=hs
   rw [Bool.and_eq_true] at hs
   obtain ⟨t',h1,h2,h3⟩:=tv hn hm hk hx Yr hs.2 he
   exact ⟨t',h1,h2,h3,WJ⟩
  ·rename_i t0 len parts
   rw [Bool.and_eq_true] at hs
   obtain ⟨gB,pt⟩:=hs
   cases dst with
   |none=>cases pt
   |some e=>
    simp only at pt
    have hed:e≠d:= λh=>Yr (by rw [h])
    have bI:(parts.toList.map (λp=>p.2)).all (cJ d)=true:=hu
    have zg:=Rv (v:=v) (b:=b) (t:=t) bI
    have hx: ∀p∈parts.toList,(Er d v b t).ev p.2=t.ev p.2:= λp hp=>zg p.2 (List.mem_map.2 ⟨p,hp,rfl⟩)
    have hp:(parts.toList.all λp=>Pf (t.ev p.2))=true:=List.all_eq_true.2 λp hp=>by rw [<-hx p hp];exact List.all_eq_true.1 gB p hp
    have Ey:=nN pt
    obtain ⟨t',h1,h2,h3⟩:=vW hl hn hx hed hp Ey he
    refine ⟨t',h1,h2,h3,?_⟩
    simp only [Pj,hp,Bool.true_and]
    exact FY (Ey.back hed hn)
  ·cases hs
def sA:List (Nat×AV×OB)->St->St->Prop
 | [],s,t=>s=t
 |q::Q,s,t=>Ed q.1 t/\sA Q s (Er q.1 q.2.1 q.2.2 t)
theorem rY {o:Oper} : ∀(Q:List (Nat×AV×OB)) (s t s':St),sA Q s t->(∀q∈Q,mn q.1 q.2.1 q.2.2/\(dr o).all (cJ q.1)=true/\o.dst≠some q.1)->Pj Γ s o=true->Ci T Γ ops s o=some s'->
  ∃t',Ci T Γ ops t o=some t'/\sA Q s' t'/\Pj Γ t o=true
 | [],s,t,s',h,_,hs,he=>by
  have h:s=t:=h
  subst h
  exact ⟨s',he,rfl,hs⟩
 |q::Q,s,t,s',⟨h1,h2⟩,hq,hs,he=>by
  obtain ⟨u',e1,e2,e3⟩:=rY Q s _ s' h2 (λp hp=>hq p (List.mem_cons_of_mem _ hp)) hs he
  obtain ⟨l1,l2,l3⟩:=hq q (by simp)
  obtain ⟨t',f1,f2,f3,f4⟩:=ur l1 h1 e3 l2 l3 e1
  exact ⟨t',f1,⟨f3,by rw [<-f2];exact e2⟩,f4⟩
theorem rZ {q:Nat×AV×OB} : ∀(Q1:List (Nat×AV×OB)) {Q2:List (Nat×AV×OB)} {s t:St},sA (Q1++q::Q2) s t->(∀p∈Q1++q::Q2,mn p.1 p.2.1 p.2.2)->(∀p∈Q1,p.1≠q.1)->
  Ed q.1 t/\sA (Q1++Q2) s (Er q.1 q.2.1 q.2.2 t)
 | [],Q2,s,t,h,_,_=>h
 |p::Q1,Q2,s,t,⟨h1,h2⟩,hL,Ey=>by
  have ZP:=Ey p (by simp)
  have hLp:=hL p (by simp)
  have hLq:=hL q (by simp)
  obtain ⟨g1,g2⟩:=rZ Q1 h2 (λr hr=>hL r (List.mem_cons_of_mem _ hr)) λr hr=>Ey r (List.mem_cons_of_mem _ hr)
  refine ⟨g1.back (Ne.symm ZP) h1,h1.plus ZP (λh=>ZP (hLq.v1 _ h)) (by rw [hLq.b1];simp),?_⟩
  show sA (Q1++Q2) s (Er p.1 p.2.1 p.2.2 (Er q.1 q.2.1 q.2.2 t))
  rw [qU (Ne.symm ZP)]
  exact g2
def gy (ops:Array Oper):Nat->Nat->Nat->Bool
 |0,_,_=>false
 |f+1,i,a=>Region.waitsFor .any ops i a||(List.range ops.size).any λk=>Region.waitsFor .any ops i k&&gy ops f k a
def Th (ops:Array Oper) (Ac:Array Bool):Prop:= ∀k a,Ac.getD k false=true->Region.waitsFor .any ops k a=true->Ac.getD a false=true
theorem cS {Ac:Array Bool} {i a:Nat} (h:i∈Region.ready .any ops Ac) (hw:Region.waitsFor .any ops i a=true):Ac.getD a false=true:=by
 obtain ⟨_,o,ho,Gy⟩:=mem_ready.1 h
 obtain ⟨o',ZN,e,he,hb,rfl⟩:=Region.waitsFor_spec hw
 rw [ho] at ZN
 cases ZN
 exact Gy e he hb
theorem fj {Ac:Array Bool} (hc:Th ops Ac) {a:Nat} : ∀(f i:Nat),(∀x,Region.waitsFor .any ops i x=true->Ac.getD x false=true)->gy ops f i a=true->Ac.getD a false=true
 |0,_,_,h=>by cases h
 |f+1,i,hi,h=>by
  simp only [gy,Bool.or_eq_true,List.any_eq_true,Bool.and_eq_true] at h
  rcases h with h|⟨k,_,h1,h2⟩
  ·exact hi a h
  ·exact fj hc f k (λx hx=>hc k x (hi k h1) hx) h2
theorem Th.set {Ac:Array Bool} (hc:Th ops Ac) {i:Nat} (hi:i∈Region.ready .any ops Ac):Th ops (Ac.setIfInBounds i true):= λk a hk hw=>by
 by_cases hik:i=k
 ·subst hik
  exact getD_set_true (cS hi hw)
 ·rw [getD_set_ne false hik] at hk
  exact getD_set_true (hc k a hk hw)
def zR (P:List (Nat×Nat×AV×OB)) (Γ:Env) (ops:Array Oper) (st:St) (o:Oper) (i:Nat):Bool:=
 (P.all λa=>gy ops 5 i a.1)||(Pj Γ st o&&P.all λa=>gy ops 5 i a.1||((dr o).all (cJ a.2.1)&&(match o.dst with
  |some e=>!Nat.beq e a.2.1
  |none=>true)))
def UN (T:Tab) (Γ:Env) (ops:Array Oper) (P:List (Nat×Nat×AV×OB)) (K:St->Prop):Nat->Array Bool->St->Prop
 |0,Ac,st=>Region.ready .any ops Ac= []/\K st
 |f+1,Ac,st=>Region.ready .any ops Ac≠ []/\ ∀i∈Region.ready .any ops Ac,∃o st',ops[i]?=some o/\zR P Γ ops st o i=true/\Ci T Γ ops st o=some st'/\UN T Γ ops P K f (Ac.setIfInBounds i true) st'
structure IT (lc la:Array Bool) (Q:List Nat):Prop where
 size:la.size=lc.size
 off: ∀k∈Q,k<la.size/\la.getD k false=false/\lc.getD k false=true
 same: ∀k,k∉Q->la.getD k false=lc.getD k false
theorem IT.ready {lc la:Array Bool} {Q:List Nat} (h:IT lc la Q) {i:Nat} (hi:i∈Region.ready .any ops la) (hn:i∉Q):i∈Region.ready .any ops lc:=by
 obtain ⟨h1,o,ho,Gy⟩:=mem_ready.1 hi
 have Fh:i<la.size:=by
  rcases Nat.lt_or_ge i la.size with h'|h'
  ·exact h'
  ·simp [Array.getElem?_eq_none h'] at h1
 have h2:=getD_both h1
 rw [h.same i hn] at h2
 refine mem_ready.2 ⟨getD_in (by rw [<-h.size];exact Fh) h2,o,ho,λe he hb=>?_⟩
 have h3:=Gy e he hb
 by_cases hq:e.on∈Q
 ·exact (h.off _ hq).2.2
 ·rw [<-h.same _ hq];exact h3
theorem IT.nil {lc la:Array Bool} (h:IT lc la []):la=lc:=by
 refine Array.ext h.size λk h1 h2=>?_
 have:=h.same k (by simp)
 simpa [h1,h2] using this
theorem IT.one {lc la:Array Bool} {Q Q':List Nat} {i:Nat} (h:IT lc la Q) (hi:i∈Q) (hs: ∀k,k∈Q'↔k∈Q/\k≠i):IT lc (la.setIfInBounds i true) Q':=by
 refine ⟨by simp [h.size],λk hk=>?_,λk hk=>?_⟩
 ·obtain ⟨h1,h2⟩:=(hs k).1 hk
  obtain ⟨g1,g2,g3⟩:=h.off k h1
  exact ⟨by simpa using g1,by rw [getD_set_ne false (Ne.symm h2)];exact g2,g3⟩
 ·by_cases e:i=k
  ·subst e
   obtain ⟨g1,g2,g3⟩:=h.off i hi
   rw [g3]
   simp [g1]
  ·rw [getD_set_ne false e]
   exact h.same k λhq=>hk ((hs k).2 ⟨hq,Ne.symm e⟩)
theorem IT.both {lc la:Array Bool} {Q:List Nat} {i:Nat} (h:IT lc la Q) (hi:i∉Q):IT (lc.setIfInBounds i true) (la.setIfInBounds i true) Q:=by
 refine ⟨by simp [h.size],λk hk=>?_,λk hk=>?_⟩
 ·obtain ⟨g1,g2,g3⟩:=h.off k hk
  have Ey:i≠k:= λe=>hi (by rw [e];exact hk)
  exact ⟨by simpa using g1,by rw [getD_set_ne false Ey];exact g2,by rw [getD_set_ne false Ey];exact g3⟩
 ·by_cases e:i=k
  ·subst e
   have hs:=h.same i hi
   have hz:=h.size
   by_cases hl:i<la.size
   ·simp [hl,hz▸hl]
   ·have Gm: ¬i<lc.size:=by omega
    simp [hl,Gm]
  ·rw [getD_set_ne false e,getD_set_ne false e];exact h.same k hk
theorem zP {dst:Option Tmp} {d:Nat} (h:(match dst with
  |some e=>!Nat.beq e d
  |none=>true)=true):dst≠some d:= λe=>by
 subst e
 simp at h
theorem EM {P:List (Nat×Nat×AV×OB)} {K:St->Prop} (hP: ∀a∈P,∃o,ops[a.1]?=some o/\Zw T o=some a.2):
  ∀(n f:Nat) (Q:List (Nat×Nat×AV×OB)) (lc la:Array Bool) (s t:St),n=f+Q.length->UN T Γ ops P K f lc s->sA (Q.map (·.2)) s t->IT lc la (Q.map (·.1))->(∀a∈Q,a∈P)->
   (Q.Pairwise λa c=>a.2.1≠c.2.1/\a.1≠c.1)->Th ops la->(∀a∈Q,∀x,Region.waitsFor .any ops a.1 x=true->la.getD x false=true)->anyS T Γ ops K n la t:=by
 intro n
 induction n with
 |zero=>
  intro f Q lc la s t hn hC hp hb hQ hpw Ly hw
  have hf:f=0:=by omega
  have hq:Q= []:=List.eq_nil_of_length_eq_zero (by omega)
  subst hf hq
  have hp:s=t:=hp
  subst hp
  rw [hb.nil]
  exact hC
 |succ n ih=>
  intro f Q lc la s t hn hC hp hb hQ hpw Ly hw
  refine ⟨?_,λi hi=>?_⟩
  ·cases Q with
   |nil=>
    rw [hb.nil]
    cases f with
    |zero=>simp at hn
    |succ f=>exact hC.1
   |cons a Q=>
    obtain ⟨o,ho,_⟩:=hP a (hQ a (by simp))
    obtain ⟨g1,g2,_⟩:=hb.off a.1 (by simp)
    have:a.1∈Region.ready .any ops la:=mem_ready.2 ⟨getD_in g1 g2,o,ho,λe he hbd=>hw a (by simp) e.on (by
     unfold Region.waitsFor
     rw [ho]
     exact Array.any_eq_true'.2 ⟨e,he,by simp [hbd]⟩)⟩
    intro e
    rw [e] at this
    cases this
  ·by_cases hiQ:i∈Q.map (·.1)
   ·obtain ⟨a,ha,rfl⟩:=List.mem_map.1 hiQ
    obtain ⟨Q1,Q2,rfl⟩:=List.append_of_mem ha
    obtain ⟨o,ho,hal⟩:=hP a (hQ a ha)
    obtain ⟨_,_,Td⟩:=Zx (Γ:=Γ) (ops:=ops) hal
    have KQ:=List.pairwise_append.1 hpw
    have Ab3:=List.pairwise_cons.1 KQ.2.1
    rw [List.map_append,List.map_cons] at hp
    have hL: ∀p∈Q1.map (·.2)++a.2::Q2.map (·.2),mn p.1 p.2.1 p.2.2:= λp tp=>by
     have:p∈(Q1++a::Q2).map (·.2):=by rw [List.map_append,List.map_cons];exact tp
     obtain ⟨c,hc,rfl⟩:=List.mem_map.1 this
     obtain ⟨o',_,Af9⟩:=hP c (hQ c hc)
     exact (Zx (Γ:=Γ) (ops:=ops) Af9).2.1
    obtain ⟨p1,p2⟩:=rZ _ hp hL λp tp=>by
     obtain ⟨c,hc,rfl⟩:=List.mem_map.1 tp
     exact (KQ.2.2 c hc a (by simp)).1
    refine ⟨o,_,ho,Td t p1,ih f (Q1++Q2) lc _ s _ ?_ hC (by rw [List.map_append];exact p2) (hb.one hiQ λk=>?_) (λc hc=>hQ c ?_) ?_ (Ly.set hi) λc hc x hx=>getD_set_true (hw c ?_ x hx)⟩
    ·simp only [List.length_append,List.length_cons] at hn⊢;omega
    ·simp only [List.map_append,List.map_cons,List.mem_append,List.mem_cons]
     constructor
     ·intro h
      rcases h with h|h
      ·obtain ⟨c,hc,rfl⟩:=List.mem_map.1 h
       exact ⟨.inl h,(KQ.2.2 c hc a (by simp)).2⟩
      ·obtain ⟨c,hc,rfl⟩:=List.mem_map.1 h
       exact ⟨.inr (.inr h),Ne.symm (Ab3.1 c hc).2⟩
     ·rintro ⟨h|h|h,Ey⟩
      ·exact .inl h
      ·exact absurd h Ey
      ·exact .inr h
    ·rcases List.mem_append.1 hc with hc|hc
     ·exact List.mem_append_left _ hc
     ·exact List.mem_append_right _ (List.mem_cons_of_mem _ hc)
    ·exact List.pairwise_append.2 ⟨KQ.1,Ab3.2,λc hc e he=>KQ.2.2 c hc e (List.mem_cons_of_mem _ he)⟩
    ·rcases List.mem_append.1 hc with hc|hc
     ·exact List.mem_append_left _ hc
     ·exact List.mem_append_right _ (List.mem_cons_of_mem _ hc)
   ·have hic:=hb.ready hi hiQ
    cases f with
    |zero=>
     rw [hC.1] at hic
     cases hic
    |succ f=>
     obtain ⟨o,s',ho,ei,he,eM⟩:=hC.2 i hic
     have QH: ∀a∈Q,gy ops 5 i a.1=false:= λa ha=>by
      cases hwt:gy ops 5 i a.1 with
      |false=>rfl
      |true=>
       have h1:=fj Ly _ i (λx hx=>cS hi hx) hwt
       rw [(hb.off a.1 (List.mem_map.2 ⟨a,ha,rfl⟩)).2.1] at h1
       cases h1
     have key: ∃t',Ci T Γ ops t o=some t'/\sA (Q.map (·.2)) s' t':=by
      unfold zR at ei
      rw [Bool.or_eq_true,Bool.and_eq_true] at ei
      rcases ei with ei|⟨h1,h2⟩
      ·cases Q with
       |nil=>
        have hp:s=t:=hp
        subst hp
        exact ⟨s',he,rfl⟩
       |cons a Q=>
        have:=List.all_eq_true.1 ei a (hQ a (by simp))
        rw [QH a (by simp)] at this
        cases this
      ·obtain ⟨t',g1,g2,_⟩:=rY (T:=T) (ops:=ops) _ s t s' hp (λq hq=>by
        obtain ⟨a,ha,rfl⟩:=List.mem_map.1 hq
        obtain ⟨o',_,hal⟩:=hP a (hQ a ha)
        have h3:=List.all_eq_true.1 h2 a (hQ a ha)
        rw [QH a ha,Bool.false_or,Bool.and_eq_true] at h3
        exact ⟨(Zx (Γ:=Γ) (ops:=ops) hal).2.1,h3.1,zP h3.2⟩) h1 he
       exact ⟨t',g1,g2⟩
     obtain ⟨t',g1,g2⟩:=key
     exact ⟨o,t',ho,g1,ih f Q _ _ s' t' (by omega) eM g2 (hb.both hiQ) hQ hpw (Ly.set hi) λc hc x hx=>getD_set_true (hw c hc x hx)⟩
def Rr (T:Tab) (ops:Array Oper) (Ac:Array Bool):List (Nat×Nat×AV×OB):=(Region.ready .any ops Ac).filterMap λi=>((ops[i]?).bind (Zw T)).map λr=>(i,r)
theorem sG {Ac:Array Bool} {a:Nat×Nat×AV×OB} (h:a∈Rr T ops Ac):a.1∈Region.ready .any ops Ac/\ ∃o,ops[a.1]?=some o/\Zw T o=some a.2:=by
 unfold Rr at h
 obtain ⟨i,hi,he⟩:=List.mem_filterMap.1 h
 cases ho:ops[i]? with
 |none=>rw [ho] at he;cases he
 |some o=>
  rw [ho] at he
  simp only [Option.bind_some,Option.map_eq_some_iff] at he
  obtain ⟨r,h1,rfl⟩:=he
  exact ⟨hi,o,ho,h1⟩
theorem vZ:Th ops (Array.replicate ops.size false):= λk a hk _=>by
 rw [getD_replicate_false] at hk
 cases hk
theorem a7 (q:Bool): ∀(l:List Nat) (Ac:Array Bool),Th ops Ac->Th ops (Ec (Et q ops l Ac) Ac)
 | [],Ac,h=>h
 |i::r,Ac,h=>by
  simp only [Et]
  split
  ·rename_i hc
   rw [Bool.and_eq_true,Bool.and_eq_true] at hc
   have hi:i∈Region.ready .any ops Ac:=by simpa using hc.2.1
   exact a7 q r _ (h.set hi)
  ·exact a7 q r Ac h
theorem cE: ∀(l:List Nat) (Ac:Array Bool),(Ec l Ac).size=Ac.size
 | [],_=>rfl
 |i::r,Ac=>by simp only [Ec];rw [cE r];simp
theorem iy: ∀(l:List Nat) (Ac:Array Bool) (k:Nat),k∈l->k<Ac.size->(Ec l Ac).getD k false=true
 |i::r,Ac,k,h,hk=>by
  simp only [Ec]
  by_cases hr:k∈r
  ·exact iy r _ k hr (by simpa using hk)
  ·have:k=i:=(List.mem_cons.1 h).resolve_right hr
   subst this
   have hs: ∀(l:List Nat) (A:Array Bool),A.getD k false=true->(Ec l A).getD k false=true:=by
    intro l
    induction l with
    |nil=>exact λA h=>h
    |cons j l ih=>exact λA h=>ih _ (getD_set_true h)
   exact hs r _ (by simp [hk])
theorem eR: ∀(l:List Nat) (Ac:Array Bool) (k:Nat),k∉l->(Ec l Ac).getD k false=Ac.getD k false
 | [],_,_,_=>rfl
 |i::r,Ac,k,h=>by
  simp only [Ec]
  rw [eR r _ k λhk=>h (List.mem_cons_of_mem _ hk),getD_set_ne false (λe=>h (by rw [e];simp))]
theorem PK {Ac:Array Bool} {Q:List Nat} (h: ∀i∈Q,i∈Region.ready .any ops Ac):IT (Ec Q Ac) Ac Q:=by
 have hr: ∀i∈Q,i<Ac.size/\Ac.getD i false=false:= λi hi=>by
  have h1:=(mem_ready.1 (h i hi)).1
  refine ⟨?_,getD_both h1⟩
  rcases Nat.lt_or_ge i Ac.size with h'|h'
  ·exact h'
  ·simp [Array.getElem?_eq_none h'] at h1
 exact ⟨(cE Q Ac).symm,λk hk=>⟨(hr k hk).1,(hr k hk).2,iy Q Ac k hk (hr k hk).1⟩,λk hk=>(eR Q Ac k hk).symm⟩
theorem xF: ∀(Q:List (Nat×Nat×AV×OB)) (t s:St),(∀a∈Q,∃o,ops[a.1]?=some o/\Zw T o=some a.2)->(∀a∈Q,Ed a.2.1 t)->(Q.Pairwise λa c=>a.2.1≠c.2.1)->Iz T Γ ops (Q.map (·.1)) t=some s->sA (Q.map (·.2)) s t
 | [],t,s,_,_,_,h=>by
  have h:some t=some s:=h
  exact (Option.some.inj h).symm
 |a::Q,t,s,hQ,hn,hp,h=>by
  obtain ⟨o,ho,hal⟩:=hQ a (by simp)
  obtain ⟨_,hL,Td⟩:=Zx (Γ:=Γ) (ops:=ops) hal
  obtain ⟨vu,FE⟩:=List.pairwise_cons.1 hp
  simp only [List.map_cons,Iz,ho] at h
  rw [Td t (hn a (by simp))] at h
  refine ⟨hn a (by simp),xF Q _ s (λc hc=>hQ c (List.mem_cons_of_mem _ hc)) (λc hc=>?_) FE h⟩
  exact (hn c (List.mem_cons_of_mem _ hc)).plus (Ne.symm (vu c hc)) (λh=>vu c hc (hL.v1 _ h).symm) (by rw [hL.b1];simp)
end
end Go.Proofs.YtfolipnappekaaaGreat
