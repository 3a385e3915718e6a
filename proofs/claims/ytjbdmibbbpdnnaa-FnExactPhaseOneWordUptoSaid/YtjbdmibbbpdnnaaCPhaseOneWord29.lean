/-
  Part 30 of the proof that the statement FnExactPhaseOneWord holds.
-/
import Derived.Test.YtjbdmibbbpdnnaaCPhaseOneWord28
namespace Go.Proofs.Ytjbdmibbbpdnnaa
open Go.RowKit
def Ey (d:Nat) (v:AV) (b:OB) (st:St):St:= {tmps:=Nq st.tmps d v,heap:=Ja st.heap d b}
def jt (d:Nat) (st:St):Bool:=(st.get d).refs.isEmpty&&((st.tmps.all λv=>!v.refs.contains d)&&st.heap.all λp=>!Nat.beq p.1 d&&!p.2.refs.contains d)
structure Eg (d:Nat) (st:St):Prop where
 own:(st.get d).refs= []
 tmps: ∀v∈st.tmps,d∉v.refs
 heap: ∀p∈st.heap,p.1≠d/\d∉p.2.refs
theorem nj {d:Nat} {st:St} (h:jt d st=true):Eg d st:=by
 unfold jt at h
 rw [Bool.and_eq_true,Bool.and_eq_true,List.all_eq_true,List.all_eq_true] at h
 obtain ⟨h0,h⟩:=h
 refine ⟨List.isEmpty_iff.1 h0,λv hv=>?_,λp hp=>?_⟩
 ·have:=h.1 v hv
  intro hd
  rw [List.contains_iff_mem.2 hd] at this
  cases this
 ·have:=h.2 p hp
  rw [Bool.and_eq_true] at this
  refine ⟨λe=>?_,λhd=>?_⟩
  ·have h1:=this.1
   rw [e,Nat.beq_refl] at h1
   cases h1
  ·have h1:=this.2
   rw [List.contains_iff_mem.2 hd] at h1
   cases h1
theorem DP {d:Nat} {st:St} (h:Eg d st):jt d st=true:=by
 unfold jt
 rw [Bool.and_eq_true,Bool.and_eq_true,List.all_eq_true,List.all_eq_true]
 refine ⟨by rw [h.own];rfl,λv hv=>?_,λp hp=>?_⟩
 ·rw [Bool.not_eq_true',<-Bool.not_eq_true,List.contains_iff_mem];exact h.tmps v hv
 ·rw [Bool.and_eq_true]
  refine ⟨?_,?_⟩
  ·rw [Bool.not_eq_true',<-Bool.not_eq_true]
   exact λe=>(h.heap p hp).1 (Nat.eq_of_beq_eq_true e)
  ·rw [Bool.not_eq_true',<-Bool.not_eq_true,List.contains_iff_mem];exact (h.heap p hp).2
structure lT (d:Nat) (v:AV) (b:OB):Prop where
 v1: ∀l,l∈v.refs->l=d
 b1:b.refs= []
 v2: ∀l,l≠d->v.map (Ba l)=v
 b2: ∀l,b.map (Ba l)=b
theorem Ya {α:Type} : ∀(xs:List α) (d t:Nat) (v x:α),d≠t->(Nq xs d v).getD t x=xs.getD t x
 | [],_,_,_,_,_=>rfl
 |y::r,0,0,_,_,h=>absurd rfl h
 |y::r,0,t+1,_,_,_=>by simp [Nq]
 |y::r,d+1,0,_,_,_=>by simp [Nq]
 |y::r,d+1,t+1,v,x,h=>by simpa [Nq] using Ya r d t v x (by omega)
theorem jM {α:Type} : ∀(xs:List α) (d e:Nat) (v w:α),d≠e->Nq (Nq xs d v) e w=Nq (Nq xs e w) d v
 | [],_,_,_,_,_=>rfl
 |y::r,0,0,_,_,h=>absurd rfl h
 |y::r,0,e+1,_,_,_=>rfl
 |y::r,d+1,0,_,_,_=>rfl
 |y::r,d+1,e+1,v,w,h=>by simp only [Nq];rw [jM r d e v w (by omega)]
theorem qi: ∀(H:List (Nat×OB)) (d l:Nat) (b:OB),d≠l->Ae (Ja H d b) l=Ae H l
 | [],d,l,b,h=>by simp [Ja,Ae,h]
 |(k,c)::r,d,l,b,h=>by
  simp only [Ja]
  split
  ·simp only [Ae];rw [if_neg h]
  ·simp only [Ae]
   split
   ·rfl
   ·exact qi r d l b h
theorem qn: ∀(H:List (Nat×OB)) (d e:Nat) (b c:OB),d≠e->Ja (Ja H d b) e c=Ja (Ja H e c) d b
 | [],d,e,b,c,h=>by
  simp only [Ja]
  by_cases h1:e<d
  ·rw [if_pos h1,if_neg (by omega)]
  ·rw [if_neg h1,if_pos (by omega)]
 |(k,a)::r,d,e,b,c,h=>by
  simp only [Ja]
  by_cases h1:d<k<;>by_cases h2:e<k
  ·rw [if_pos h1,if_pos h2]
   simp only [Ja]
   by_cases h3:e<d
   ·rw [if_pos h3,if_neg (by omega),if_pos h1]
   ·rw [if_neg h3,if_pos h2,if_pos (by omega)]
  ·rw [if_pos h1,if_neg h2]
   simp only [Ja]
   rw [if_neg (by omega),if_neg h2,if_pos h1]
  ·rw [if_neg h1,if_pos h2]
   simp only [Ja]
   rw [if_pos h2,if_neg (by omega),if_neg h1]
  ·rw [if_neg h1,if_neg h2]
   simp only [Ja]
   rw [if_neg h1,if_neg h2,qn r d e b c h]
theorem r7: ∀(H:List (Nat×OB)) (d l:Nat) (b c:OB),d≠l->Xe (Ja H d b) l c=Ja (Xe H l c) d b
 | [],d,l,b,c,h=>by simp [Ja,Xe,h]
 |(k,a)::r,d,l,b,c,h=>by
  simp only [Ja,Xe]
  by_cases h1:d<k<;>by_cases h2:k=l
  ·rw [if_pos h1,if_pos h2]
   simp only [Xe,Ja]
   rw [if_neg h,if_pos h2,if_pos h1]
  ·rw [if_pos h1,if_neg h2]
   simp only [Xe,Ja]
   rw [if_neg h,if_neg h2,if_pos h1]
  ·rw [if_neg h1,if_pos h2]
   simp only [Xe,Ja]
   rw [if_pos h2,if_neg h1]
  ·rw [if_neg h1,if_neg h2]
   simp only [Xe,Ja]
   rw [if_neg h2,if_neg h1,r7 r d l b c h]
theorem kr {l:Nat} : ∀ {c:AC},l∉c.refs->Ba l c=c:=by
 intro c h
 cases c<;>simp only [Ba]<;>simp only [AC.refs,List.mem_singleton] at h
 case clo f Bv=>rw [if_neg (by simpa using h)]
 all_goals (first|rfl|rw [if_neg (Ne.symm h)])
theorem Tp {l:Nat} : ∀ {cs:List AC},l∉cs.flatMap AC.refs->cs.map (Ba l)=cs
 | [],_=>rfl
 |c::r,h=>by
  rw [List.flatMap_cons,List.mem_append] at h
  rw [List.map_cons,kr (λhh=>h (.inl hh)),Tp (λhh=>h (.inr hh))]
theorem vu {l:Nat} : ∀ {v:AV},l∉v.refs->v.map (Ba l)=v
 | .at a,h=>by simp only [AV.map];rw [kr h]
 | .agg cs,h=>by simp only [AV.map];rw [Tp h]
 | .Uj _ _ _,_=>rfl
 | .Iw ps,h=>by
  simp only [AV.map]
  congr 1
  simp only [AV.refs] at h
  induction ps with
  |nil=>rfl
  |cons p r ih=>
   rw [List.flatMap_cons,List.mem_append] at h
   rw [List.map_cons,Tp (λhh=>h (.inl hh)),ih (λhh=>h (.inr hh))]
theorem vz {l:Nat} : ∀ {b:OB},l∉b.refs->b.map (Ba l)=b
 | .arr _ _ _ _ _,_=>rfl
 | .Dg _ _ _,_=>rfl
 | .var _ vs,h=>by simp only [OB.map];rw [Tp h]
 | .Ak _ _ _ _ _,_=>rfl
 | .Oh _ _,_=>rfl
theorem uY {l:Nat} : ∀ {H:List (Nat×OB)},(∀p∈H,p.1≠l)->Tb H l=H
 | [],_=>rfl
 |(k,b)::r,h=>by
  simp only [Tb]
  rw [if_neg (h (k,b) (by simp)),uY λp hp=>h p (by simp [hp])]
theorem Eg.forget {l:Nat} {st:St} (h:Eg l st):st.forget l=st:=by
 have e1:st.tmps.map (λv=>v.map (Ba l))=st.tmps:=(List.map_congr_left λv hv=>vu (h.tmps v hv)).trans (List.map_id _)
 have e2:st.heap.map (λp=>(p.1,p.2.map (Ba l)))=st.heap:=(List.map_congr_left λp hp=>by rw [vz (h.heap p hp).2];rfl).trans (List.map_id _)
 unfold St.forget St.Gh
 simp only [e1,e2]
 rw [uY λp hp=>(h.heap p hp).1]
theorem Eg.new {l:Nat} {st:St} (h:Eg l st) (b:OB) (v:AV):(st.new l b).put (some l) v=Ey l v b st:=by
 unfold St.new
 rw [h.forget]
 rfl
theorem nf {α:Type} : ∀ {xs:List α} {d:Nat} {v x:α},x∈Nq xs d v->x∈xs\/x=v
 | [],_,_,_,h=>by cases h
 |y::r,0,v,x,h=>by
  rcases List.mem_cons.1 h with h|h
  ·exact .inr h
  ·exact .inl (List.mem_cons_of_mem _ h)
 |y::r,d+1,v,x,h=>by
  rcases List.mem_cons.1 h with h|h
  ·exact .inl (by rw [h];simp)
  ·exact (nf h).imp (List.mem_cons_of_mem _) id
theorem wg: ∀ {H:List (Nat×OB)} {d:Nat} {b:OB} {p:Nat×OB},p∈Ja H d b->p∈H\/p=(d,b)
 | [],d,b,p,h=> .inr (by simpa [Ja] using h)
 |(k,c)::r,d,b,p,h=>by
  simp only [Ja] at h
  split at h
  ·rcases List.mem_cons.1 h with h|h
   ·exact .inr h
   ·exact .inl h
  ·rcases List.mem_cons.1 h with h|h
   ·exact .inl (by rw [h];simp)
   ·exact (wg h).imp (List.mem_cons_of_mem _) id
theorem NA {d:Nat} {v:AV} {b:OB} {st:St} {x:Operand} (h:x≠ .tmp d):(Ey d v b st).ev x=st.ev x:=by
 cases x with
 |tmp t=>exact Ya _ _ _ _ _ (λe=>h (by rw [e]))
 |_=>rfl
theorem zZ {d l:Nat} {v:AV} {b:OB} {st:St} (h:d≠l):(Ey d v b st).at l=st.at l:=qi _ _ _ _ h
theorem HC {d e:Nat} {v u:AV} {b:OB} {st:St} (h:d≠e):(Ey d v b st).put (some e) u=Ey d v b (st.put (some e) u):=by
 unfold Ey St.put
 simp only
 rw [jM _ _ _ _ _ h]
theorem CA {d l:Nat} {v:AV} {b c:OB} {st:St} (h:d≠l):(Ey d v b st).Gb l c=Ey d v b (st.Gb l c):=by
 unfold Ey St.Gb
 simp only
 rw [r7 _ _ _ _ _ h]
theorem pU {d e:Nat} {v u:AV} {b c:OB} {st:St} (h:d≠e):Ey e u c (Ey d v b st)=Ey d v b (Ey e u c st):=by
 unfold Ey
 rw [jM _ _ _ _ _ h,qn _ _ _ _ _ h]
theorem Eg.put {d:Nat} {st:St} {e:Nat} {u:AV} (h:Eg d st) (NX:e≠d) (hu:d∉u.refs):Eg d (st.put (some e) u):=
 ⟨by show (List.getD (Nq st.tmps e u) d .undef).refs= [];rw [Ya _ _ _ _ _ NX];exact h.own,λv hv=>(nf hv).elim (h.tmps v) λe=>by rw [e];exact hu,h.heap⟩
theorem Eg.plus {d e:Nat} {u:AV} {c:OB} {st:St} (h:Eg d st) (NX:d≠e) (hu:d∉u.refs) (hc:d∉c.refs):Eg d (Ey e u c st):=
 ⟨by show (List.getD (Nq st.tmps e u) d .undef).refs= [];rw [Ya _ _ _ _ _ (Ne.symm NX)];exact h.own,λv hv=>(nf hv).elim (h.tmps v) λe=>by rw [e];exact hu,λp hp=>(wg hp).elim (h.heap p) λe'=>by rw [e'];exact ⟨Ne.symm NX,hc⟩⟩
theorem Eg.VD {d e:Nat} {u:AV} {c:OB} {st:St} (h:Eg d (Ey e u c st)): ∀p∈st.heap,p.1≠d/\d∉p.2.refs:= λp hp=>h.heap p (by
 show p∈Ja st.heap e c
 generalize st.heap=H at hp
 induction H with
 |nil=>cases hp
 |cons q r ih=>
  obtain ⟨k,a⟩:=q
  simp only [Ja]
  split
  ·exact List.mem_cons_of_mem _ hp
  ·rcases List.mem_cons.1 hp with hp|hp
   ·rw [hp];simp
   ·exact List.mem_cons_of_mem _ (ih hp))
theorem lx {st st':St} : ∀(τ:Ty) (cs:List AC),cs.all (·.settled)=true->Cm st' τ cs=Cm st τ cs:=by
 intro τ
 induction τ with
 |unit=>intro cs _;cases cs<;>rfl
 |pair a r gk dz=>
  intro cs h
  simp only [Cm]
  rw [List.all_eq_true] at h
  rw [gk _ (List.all_eq_true.2 λc hc=>h c (List.mem_of_mem_take hc)),dz _ (List.all_eq_true.2 λc hc=>h c (List.mem_of_mem_drop hc))]
 |_=>
  intro cs h
  rcases cs with _|⟨c,_|⟨c',cs⟩⟩
  ·rfl
  ·simp only [List.all_cons,List.all_nil,Bool.and_true] at h
   simp only [Cm]
   exact Tw h
  ·rfl
theorem aI {st st':St} {τ:Ty} {v:AV} (h:v.settled=true):Cq st' τ v=Cq st τ v:=by
 cases v with
 | «at»a=>
  have ha:a.settled=true:=h
  cases a<;>simp only [AC.settled,Bool.false_eq_true] at ha
  all_goals
   simp only [Cq]
   rw [Kl rfl,Kl rfl]
   rw [Tw (st:=st) (st':=st') rfl]
 |agg cs=>simp only [Cq];rw [lx _ _ h]
 |Uj _ _ _=>rfl
 |Iw _=>rfl
theorem dg {st st':St} : ∀(τ:Ty) (vs:List AV),vs.all (·.settled)=true->Bp st' τ vs=Bp st τ vs
 | .pair a r,v::vs,h=>by
  rw [List.all_cons,Bool.and_eq_true] at h
  simp only [Bp]
  rw [aI (st:=st) (st':=st') h.1,dg r vs h.2]
 | .pair _ _,[],_=>rfl
 | .unit,[],_=>rfl
 | .unit,_::_,_=>rfl
 | .int _,vs,_=>by cases vs<;>rfl
 | .bool,vs,_=>by cases vs<;>rfl
 | .str,vs,_=>by cases vs<;>rfl
 | .slice _,vs,_=>by cases vs<;>rfl
 | .oslice _,vs,_=>by cases vs<;>rfl
 | .ptr _,vs,_=>by cases vs<;>rfl
 | .optr _,vs,_=>by cases vs<;>rfl
 | .smap _,vs,_=>by cases vs<;>rfl
 | .clo _ _,vs,_=>by cases vs<;>rfl
def Pf:AV->Bool
 | .at (.data _ _ _)=>true
 |_=>false
def de (o:Oper):List Operand:=match o.op with
 | .move x=> [x]
 | .load _ x=> [x]
 | .call {callee:= .value (.func _),args, .. } =>args.toList
 | .insert _ m k x=> [m,k,x]
 | .buildSlice _ _ parts=>parts.toList.map (·.2)
 |_=> []
def cy (d:Nat):Operand->Bool
 | .tmp t=>!Nat.beq t d
 |_=>true
theorem DS {d:Nat} {x:Operand} (h:cy d x=true):x≠ .tmp d:= λe=>by
 subst e
 simp [cy] at h
def Pl (Γ:Env) (st:St) (o:Oper):Bool:=match o.guard with
 |some _=>false
 |none=>match o.op with
  | .move _=>true
  | .load _ x=>(match st.ev x with
   | .at (.Dw _ _)=>true
   |_=>false)
  | .call {callee:= .value (.func f),args, .. } =>(match Γ f with
   |some (.q _)=>true
   |_=>false)&&args.toList.all λx=>(st.ev x).settled
  | .insert _ m k x=>(match st.ev m with
   | .at (.Gi _)=>true
   |_=>false)&&Pf (st.ev k)&&(st.ev x).settled
  | .buildSlice _ _ parts=>(parts.toList.all λp=>Pf (st.ev p.2))&&(match o.dst with
   |some e=>jt e st
   |none=>false)
  |_=>false
theorem Eg.ev {d:Nat} {st:St} (h:Eg d st) (x:Operand):d∉(st.ev x).refs:=by
 cases x with
 |tmp t=>
  simp only [St.ev,St.get]
  rw [List.getD_eq_getElem?_getD]
  by_cases hl:t<st.tmps.length
  ·rw [List.getElem?_eq_getElem hl];exact h.tmps _ (List.getElem_mem hl)
  ·rw [List.getElem?_eq_none (Nat.le_of_not_lt hl)];simp [AV.refs,AC.refs]
 |const c=>
  simp only [St.ev]
  unfold gy
  split<;>simp [AV.refs,AC.refs]
 |func f=>simp [St.ev,AV.refs,AC.refs]
 |_=>simp [St.ev,AV.refs,AC.refs]
theorem vH: ∀ {H:List (Nat×OB)} {l:Nat} {b:OB},Ae H l=some b->(l,b)∈H
 |(k,c)::r,l,b,h=>by
  simp only [Ae] at h
  split at h
  ·rename_i e;subst e;cases h;simp
  ·exact List.mem_cons_of_mem _ (vH h)
section
variable {T:Tab} {Γ:Env} {ops:Array Oper} {d:Nat} {v:AV} {b:OB} {t:St}
theorem qP {e:Option Tmp} (h:e≠some d) (hn:Eg d t) {y:AV} (hy:d∉y.refs):(Ey d v b t).put e y=Ey d v b (t.put e y)/\Eg d (t.put e y):=by
 cases e with
 |none=>exact ⟨rfl,hn⟩
 |some k=>exact ⟨HC (λe=>h (by rw [e])),hn.put (λe=>h (by rw [e])) hy⟩
theorem cF {o:Oper} (hg:o.guard=none) (Yd:o.dst≠some d) (hn:Eg d t) {q:Option AV} (h1:evalOp T Γ (Ey d v b t) o=q.map λy=>(y,Ey d v b t)) (h2:evalOp T Γ t o=q.map λy=>(y,t)) (hq: ∀y,q=some y->d∉y.refs) {s':St}
  (he:Ch T Γ ops (Ey d v b t) o=some s'): ∃t',Ch T Γ ops t o=some t'/\s'=Ey d v b t'/\Eg d t':=by
 unfold Ch at he⊢
 rw [hg] at he⊢
 simp only at he⊢
 rw [h1] at he
 cases q with
 |none=>cases he
 |some y=>
  obtain ⟨p1,p2⟩:=qP (v:=v) (b:=b) Yd hn (hq y rfl)
  refine ⟨_,by rw [h2];rfl,?_,p2⟩
  simp only [Option.map_some,Option.some.injEq] at he
  rw [<-he,p1]
theorem Rx {l:List Operand} (hu:l.all (cy d)=true): ∀x∈l,(Ey d v b t).ev x=t.ev x:= λx hx=>NA (DS (List.all_eq_true.1 hu x hx))
theorem yN {dst:Option Tmp} {x:Operand} {ty:TypeId} {pos:String} {after:Array Edge} (hn:Eg d t) (hx:(Ey d v b t).ev x=t.ev x) (Yd:dst≠some d) {s':St}
  (he:Ch T Γ ops (Ey d v b t) {dst:=dst,op:= .move x,type:=ty,pos:=pos,after:=after,guard:=none} =some s'):
  ∃t',Ch T Γ ops t {dst:=dst,op:= .move x,type:=ty,pos:=pos,after:=after,guard:=none} =some t'/\s'=Ey d v b t'/\Eg d t':=
 cF rfl Yd hn (q:=some (t.ev x)) (by simp only [evalOp,Cg,hx]) (by simp only [evalOp,Cg]) (λy hy=>by cases hy;exact hn.ev x) he
def loadVar (T:Tab) (o:Option OB) (t0:TypeId) (i:Nat):Option AV:=match T.ty t0 with
 |some τ=>(match o with
  |some (.var _ vs)=>if τ.Ac then (if i+τ.size<=vs.length then some (.agg ((vs.drop i).take τ.size)) else none) else vs[i]?.map .at
  |_=>none)
 |none=>none
theorem dX {st:St} {t0:TypeId} {l i:Nat} :Kg T st t0 (.at (.Dw l i))=loadVar T (st.at l) t0 i:=by
 unfold Kg loadVar
 cases T.ty t0<;>rfl
theorem yJ {dst:Option Tmp} {t0:TypeId} {x:Operand} {ty:TypeId} {pos:String} {after:Array Edge} (hn:Eg d t) (hx:(Ey d v b t).ev x=t.ev x) (Yd:dst≠some d) {l i:Nat} (hp:t.ev x= .at (.Dw l i)) {s':St}
  (he:Ch T Γ ops (Ey d v b t) {dst:=dst,op:= .load t0 x,type:=ty,pos:=pos,after:=after,guard:=none} =some s'):
  ∃t',Ch T Γ ops t {dst:=dst,op:= .load t0 x,type:=ty,pos:=pos,after:=after,guard:=none} =some t'/\s'=Ey d v b t'/\Eg d t':=by
 have hld:d≠l:= λe=>by
  have:=hn.ev x
  rw [hp,e] at this
  exact this (by simp [AV.refs,AC.refs])
 refine cF rfl Yd hn (q:=loadVar T (t.at l) t0 i) ?_ ?_ (λy hy=>?_) he
 ·simp only [evalOp,Cg,hx,hp]
  rw [dX,zZ hld]
 ·simp only [evalOp,Cg,hp]
  rw [dX]
 ·unfold loadVar at hy
  split at hy
  ·split at hy
   ·rename_i vs hb
    have hr:d∉vs.flatMap AC.refs:=(hn.heap _ (vH hb)).2
    have fD: ∀c∈vs,d∉c.refs:= λc hc hd=>hr (List.mem_flatMap.2 ⟨c,hc,hd⟩)
    split at hy
    ·split at hy
     ·cases hy
      intro hd
      obtain ⟨c,hc,hd⟩:=List.mem_flatMap.1 hd
      exact fD c (List.mem_of_mem_drop (List.mem_of_mem_take hc)) hd
     ·cases hy
    ·cases hv:vs[i]? with
     |none=>rw [hv] at hy;cases hy
     |some c=>
      rw [hv] at hy
      cases hy
      exact fD c (List.mem_of_getElem? hv)
   ·cases hy
  ·cases hy
theorem CD {l:List Operand} (hu:l.all (cy d)=true):l.map (Ey d v b t).ev=l.map t.ev:=List.map_congr_left λx hx=>Rx hu x hx
theorem xV {dst:Option Tmp} {f:FuncId} {args:Array Operand} {tys:Array TypeId} {ty:TypeId} {pos:String} {after:Array Edge} {sp:Spec} (Mb:Γ f=some (.q sp)) (hn:Eg d t) (hx:args.toList.map (Ey d v b t).ev=args.toList.map t.ev) (Yd:dst≠some d)
  (hs:(args.toList.map t.ev).all (·.settled)=true) {s':St} (he:Ch T Γ ops (Ey d v b t) {dst:=dst,op:= .call {callee:= .value (.func f),args:=args,argTypes:=tys},type:=ty,pos:=pos,after:=after,guard:=none} =some s'):
  ∃t',Ch T Γ ops t {dst:=dst,op:= .call {callee:= .value (.func f),args:=args,argTypes:=tys},type:=ty,pos:=pos,after:=after,guard:=none} =some t'/\s'=Ey d v b t'/\Eg d t':=by
 have BA:aa sp (args.toList.map t.ev)=false:=by unfold aa;rw [hs];simp
 have ym: ∀st:St,Jf Γ st f (args.toList.map t.ev)=(match Bp t sp.arg (args.toList.map t.ev) with
   |none=>none
   |some (_,x)=>(sp.fn x).map λy=>if sp.Ee then .Uj (sp.fresh||sp.res.flat) sp.res y else .at (.data (sp.fresh||sp.res.flat) sp.res y)):= λst=>by
  unfold Jf
  rw [Mb]
  simp only
  rw [hs,dg (st:=t) _ _ hs]
  simp only [Bool.or_true,if_true]
  cases Bp t sp.arg (args.toList.map t.ev)<;>rfl
 refine cF rfl Yd hn (q:=Jf Γ t f (args.toList.map t.ev)) ?_ ?_ (λy hy=>?_) he
 ·simp only [evalOp,Cg,Mb,hx,BA]
  rw [ym,ym t]
  simp
 ·simp only [evalOp,Cg,Mb,BA]
  simp
 ·rw [ym t] at hy
  split at hy
  ·cases hy
  ·rename_i x _
   cases hf:sp.fn x with
   |none=>rw [hf] at hy;cases hy
   |some z=>
    rw [hf] at hy
    simp only [Option.map_some,Option.some.injEq] at hy
    rw [<-hy]
    split<;>simp [AV.refs,AC.refs]
def ig (T:Tab) (o:Option OB) (t0:TypeId) (s:ByteArray) (vw:(v:Ty)->Option (Bool×v.den)):Option OB:=match T.mapOf t0 with
 |some v=>(match o,vw v with
  |some (.Oh v' f),some (_,y)=>if h:v'=v/\v.flat=true/\v.Ac=false then some (.Oh v (aH (h.1▸f:ByteArray->Option v.den) s y)) else none
  |_,_=>none)
 |none=>none
theorem dY {st:St} {t0:TypeId} {l:Nat} {fr:Bool} {s:ByteArray} {x:AV} :Eu T st t0 (.at (.Gi l)) (.at (.data fr .str s)) x=(ig T (st.at l) t0 s λv=>Cq st v x).map λc=>st.Gb l c:=by
 unfold Eu ig
 cases T.mapOf t0 with
 |none=>rfl
 |some v0=>
  simp only
  cases st.at l with
  |none=>rfl
  |some c=>
   cases c with
   |Oh v' f=>
    cases Cq st v0 x with
    |none=>rfl
    |some p=>
     simp only
     split<;>rfl
   |_=>rfl
theorem wb {o:Option OB} {t0:TypeId} {s:ByteArray} {vw:(v:Ty)->Option (Bool×v.den)} {c:OB} (h:ig T o t0 s vw=some c):c.refs= []:=by
 unfold ig at h
 split at h
 ·split at h
  ·split at h
   ·cases h;rfl
   ·cases h
  ·cases h
 ·cases h
theorem mq {st:St} {t0:TypeId} {m k x:AV} {s':St} (h:Eu T st t0 m k x=some s'): ∃l fr s,m= .at (.Gi l)/\k= .at (.data fr .str s):=by
 unfold Eu at h
 split at h
 ·exact ⟨_,_,_,rfl,rfl⟩
 ·cases h
theorem wi: ∀ {H:List (Nat×OB)} {l:Nat} {c:OB} {p:Nat×OB},p∈Xe H l c->p∈H\/(p.2=c/\p.1=l/\ ∃c',(l,c')∈H)
 |(k,a)::r,l,c,p,h=>by
  simp only [Xe] at h
  split at h
  ·rename_i e
   rcases List.mem_cons.1 h with h|h
   ·subst h;exact .inr ⟨rfl,e,a,by rw [e];simp⟩
   ·exact .inl (List.mem_cons_of_mem _ h)
  ·rcases List.mem_cons.1 h with h|h
   ·exact .inl (by rw [h];simp)
   ·exact (wi h).imp (List.mem_cons_of_mem _) λ⟨h1,h2,c',h3⟩=>⟨h1,h2,c',List.mem_cons_of_mem _ h3⟩
theorem Eg.Gb {st:St} {l:Nat} {c:OB} (h:Eg d st) (hc:d∉c.refs):Eg d (st.Gb l c):=
 ⟨h.own,h.tmps,λp hp=>(wi hp).elim (h.heap p) λ⟨h1,h2,c',h3⟩=>⟨by rw [h2];exact (h.heap _ h3).1,by rw [h1];exact hc⟩⟩
theorem sk {dst:Option Tmp} {t0:TypeId} {m k x:Operand} {ty:TypeId} {pos:String} {after:Array Edge} (hn:Eg d t) (hm:(Ey d v b t).ev m=t.ev m) (hk:(Ey d v b t).ev k=t.ev k) (hx:(Ey d v b t).ev x=t.ev x) (Yd:dst≠some d)
  (hs:(t.ev x).settled=true) {s':St} (he:Ch T Γ ops (Ey d v b t) {dst:=dst,op:= .insert t0 m k x,type:=ty,pos:=pos,after:=after,guard:=none} =some s'):
  ∃t',Ch T Γ ops t {dst:=dst,op:= .insert t0 m k x,type:=ty,pos:=pos,after:=after,guard:=none} =some t'/\s'=Ey d v b t'/\Eg d t':=by
 unfold Ch at he⊢
 simp only [evalOp,hm,hk,hx] at he⊢
 cases MT:Eu T (Ey d v b t) t0 (t.ev m) (t.ev k) (t.ev x) with
 |none=>rw [MT] at he;cases he
 |some s1=>
  rw [MT] at he
  simp only [Option.map_some,Option.some.injEq] at he
  obtain ⟨l,fr,s,e1,e2⟩:=mq MT
  have hld:d≠l:= λe=>by
   have:=hn.ev m
   rw [e1,e] at this
   exact this (by simp [AV.refs,AC.refs])
  rw [e1,e2,dY,zZ hld] at MT
  have hvw:(λv0=>Cq (Ey d v b t) v0 (t.ev x))= λv0=>Cq t v0 (t.ev x):=funext λv0=>aI hs
  rw [hvw] at MT
  rw [e1,e2,dY]
  cases ho:ig T (t.at l) t0 s λv0=>Cq t v0 (t.ev x) with
  |none=>rw [ho] at MT;cases MT
  |some c=>
   rw [ho] at MT
   simp only [Option.map_some,Option.some.injEq] at MT
   have hc:=wb ho
   have iQ:Eg d (t.Gb l c):=hn.Gb (by rw [hc];simp)
   obtain ⟨p1,p2⟩:=qP (v:=v) (b:=b) (y:= .undef) Yd iQ (by simp [AV.refs,AC.refs])
   refine ⟨_,rfl,?_,p2⟩
   rw [<-he,<-MT,CA hld,p1]
theorem Eg.back {e:Nat} (h:Eg e (Ey d v b t)) (NX:e≠d) (hn:Eg d t):Eg e t:=by
 have hg: ∀k,k≠d->(Ey d v b t).get k=t.get k:= λk hk=>Ya _ _ _ _ _ (Ne.symm hk)
 refine ⟨by rw [<-hg e NX];exact h.own,λu hu hd=>?_,h.VD⟩
 obtain ⟨k,hk,rfl⟩:=List.mem_iff_getElem.1 hu
 have e1:t.get k=t.tmps[k]:=by unfold St.get;rw [List.getD_eq_getElem?_getD,List.getElem?_eq_getElem hk];rfl
 by_cases RK:k=d
 ·subst RK
  have:=hn.own
  rw [e1] at this
  rw [this] at hd
  cases hd
 ·have h1:=h.ev (.tmp k)
  have h2:(Ey d v b t).ev (.tmp k)=t.tmps[k]:=by show (Ey d v b t).get k=_;rw [hg k RK,e1]
  rw [h2] at h1
  exact h1 hd
def fP (e:Ty):Nat->List (Nat×AV)->Option (Bool×Bool×List e.den)
 |_,[]=>some (true,true,[])
 |i,(j,x)::r=>if i=j then match Cq ⟨[],[]⟩ e x with
  |some (fr,y)=>match fP e (i+1) r with
   |some (On,LU,ys)=>some (fr&&On,Mp ⟨[],[]⟩ x&&e.tree&&LU,y::ys)
   |none=>none
  |none=>none
  else none
theorem Xp {st:St} {e:Ty} : ∀(l:List (Nat×Operand)) (i:Nat),(l.all λp=>Pf (st.ev p.2))=true->Gr e i l st=(fP e i (l.map λp=>(p.1,st.ev p.2))).map λp=>(p.1,p.2.1,p.2.2,st)
 | [],i,_=>rfl
 |(j,x)::r,i,h=>by
  rw [List.all_cons,Bool.and_eq_true] at h
  have hx:Pf (st.ev x)=true:=h.1
  simp only [Gr,fP,List.map_cons]
  split
  ·generalize hxv:st.ev x=xv at hx
   unfold Pf at hx
   split at hx
   ·rename_i fr τ z
    have UO:settle st (.at (.data fr τ z))=some (.at (.data fr τ z),st):=rfl
    rw [UO]
    simp only
    rw [aI (st:=⟨[],[]⟩) (st':=st) (v:= .at (.data fr τ z)) rfl]
    cases Cq ⟨[],[]⟩ e (.at (.data fr τ z)) with
    |none=>rfl
    |some p=>
     simp only
     rw [Xp r (i+1) h.2]
     cases fP e (i+1) (r.map λp=>(p.1,st.ev p.2)) with
     |none=>rfl
     |some q=>rfl
   ·cases hx
  ·rfl
def rowOf (T:Tab) (t0:TypeId) (len:Nat) (parts:List (Nat×AV)) (dst:Nat):Option (AV×OB):=match Yb T t0 with
 |some _=>none
 |none=>match T.elem t0 with
  |none=>none
  |some te=>match T.ty te with
   |none=>none
   |some e=>if parts.length=len/\len<=64/\e.size<=64/\dst<Aj then (fP e 0 parts).map λp=>(.at (.own dst 0 len), .arr ((T.my||e.flat)&&p.1) (T.tV&&p.2.1) e te p.2.2) else none
theorem bD {st:St} {t0:TypeId} {len dst:Nat} {parts:Array (Nat×Operand)} (h:(parts.toList.all λp=>Pf (st.ev p.2))=true):
  Er T st dst t0 len parts=(rowOf T t0 len (parts.toList.map λp=>(p.1,st.ev p.2)) dst).map λr=>(r.1,st.new dst r.2):=by
 unfold Er rowOf
 cases Yb T t0 with
 |some p=>
  obtain ⟨te,e⟩:=p
  simp only [Option.map_none]
  split
  ·rename_i x hp
   rw [hp,List.all_cons,Bool.and_eq_true] at h
   have hx:Pf (st.ev x)=true:=h.1
   unfold Pf at hx
   split at hx
   ·rename_i hv;simp only [hv]
   ·cases hx
  ·rfl
 |none=>
  simp only
  unfold Hk
  cases T.elem t0 with
  |none=>rfl
  |some te=>
   simp only
   cases T.ty te with
   |none=>rfl
   |some e=>
    simp only [List.length_map,Array.length_toList]
    split
    ·rw [Xp _ 0 h]
     cases fP e 0 (parts.toList.map λp=>(p.1,st.ev p.2))<;>rfl
    ·rfl
theorem kN {t0:TypeId} {len dst:Nat} {parts:List (Nat×AV)} {r:AV×OB} (h:rowOf T t0 len parts dst=some r):lT dst r.1 r.2:=by
 unfold rowOf at h
 split at h
 ·cases h
 ·split at h
  ·cases h
  ·split at h
   ·cases h
   ·split at h
    ·rename_i e _ _
     cases hp:fP e 0 parts with
     |none=>rw [hp] at h;cases h
     |some p=>
      rw [hp] at h
      simp only [Option.map_some,Option.some.injEq] at h
      subst h
      exact ⟨λl hl=>by simpa [AV.refs,AC.refs] using hl,rfl,λl hl=>by simp only [AV.map,Ba];rw [if_neg (Ne.symm hl)],λl=>rfl⟩
    ·cases h
theorem uP {e:Nat} {t0:TypeId} {len:Nat} {parts:Array (Nat×Operand)} {ty:TypeId} {pos:String} {after:Array Edge} (_hl:lT d v b) (hn:Eg d t) (hx: ∀p∈parts.toList,(Ey d v b t).ev p.2=t.ev p.2) (Yd:e≠d)
  (hp:(parts.toList.all λp=>Pf (t.ev p.2))=true) (El:Eg e (Ey d v b t)) {s':St} (he:Ch T Γ ops (Ey d v b t) {dst:=some e,op:= .buildSlice t0 len parts,type:=ty,pos:=pos,after:=after,guard:=none} =some s'):
  ∃t',Ch T Γ ops t {dst:=some e,op:= .buildSlice t0 len parts,type:=ty,pos:=pos,after:=after,guard:=none} =some t'/\s'=Ey d v b t'/\Eg d t':=by
 have UD:=El.back Yd hn
 have BB:(parts.toList.all λp=>Pf ((Ey d v b t).ev p.2))=true:=List.all_eq_true.2 λp sf=>by rw [hx p sf];exact List.all_eq_true.1 hp p sf
 have hm:(parts.toList.map λp=>(p.1,(Ey d v b t).ev p.2))=parts.toList.map λp=>(p.1,t.ev p.2):=List.map_congr_left λp sf=>by rw [hx p sf]
 unfold Ch at he⊢
 simp only [evalOp] at he⊢
 rw [bD BB,hm] at he
 rw [bD hp]
 cases hr:rowOf T t0 len (parts.toList.map λp=>(p.1,t.ev p.2)) e with
 |none=>rw [hr] at he;cases he
 |some r=>
  rw [hr] at he
  have hL:=kN hr
  simp only [Option.map_some,Option.some.injEq] at he
  rw [El.new] at he
  refine ⟨Ey e r.1 r.2 t,by simp only [Option.map_some];rw [UD.new],?_,hn.plus (Ne.symm Yd) (λh=>Yd (hL.v1 _ h).symm) (by rw [hL.b1];simp)⟩
  rw [<-he,pU (Ne.symm Yd)]
def SX:Operand->AV
 | .const c=>gy c
 |_=> .undef
theorem SY {st:St} {x:Operand} (h:Pf (SX x)=true):st.ev x=SX x:=by
 cases x<;>first|rfl|cases h
def Zk (T:Tab) (o:Oper):Option (Nat×AV×OB):=match o.guard with
 |some _=>none
 |none=>match o.dst with
  |none=>none
  |some d=>match o.op with
   | .buildSlice t0 len parts=>if (parts.toList.all λp=>Pf (SX p.2))=true then (rowOf T t0 len (parts.toList.map λp=>(p.1,SX p.2)) d).map λr=>(d,r.1,r.2) else none
   | .makeMap t0 none=>match T.mapOf t0 with
    |some τ=>if d<Aj then some (d, .at (.Gi d), .Oh τ λ_=>none) else none
    |none=>none
   |_=>none
theorem Zl {o:Oper} {r:Nat×AV×OB} (h:Zk T o=some r):o.dst=some r.1/\lT r.1 r.2.1 r.2.2/\ ∀st:St,Eg r.1 st->Ch T Γ ops st o=some (Ey r.1 r.2.1 r.2.2 st):=by
 obtain ⟨dst,op,ty,pos,after,guard⟩:=o
 unfold Zk at h
 cases guard with
 |some g=>cases h
 |none=>
  cases dst with
  |none=>cases h
  |some d=>
   cases op with
   |buildSlice t0 len parts=>
    simp only at h
    split at h
    ·rename_i hp
     cases hr:rowOf T t0 len (parts.toList.map λp=>(p.1,SX p.2)) d with
     |none=>rw [hr] at h;cases h
     |some q=>
      rw [hr] at h
      simp only [Option.map_some,Option.some.injEq] at h
      subst h
      refine ⟨rfl,kN hr,λst Qn=>?_⟩
      have ym: ∀p∈parts.toList,st.ev p.2=SX p.2:= λp sf=>SY (List.all_eq_true.1 hp p sf)
      have hm:(parts.toList.map λp=>(p.1,st.ev p.2))=parts.toList.map λp=>(p.1,SX p.2):=List.map_congr_left λp sf=>by rw [ym p sf]
      have BB:(parts.toList.all λp=>Pf (st.ev p.2))=true:=List.all_eq_true.2 λp sf=>by rw [ym p sf];exact List.all_eq_true.1 hp p sf
      unfold Ch
      simp only [evalOp]
      rw [bD BB,hm,hr]
      simp only [Option.map_some]
      rw [Qn.new]
    ·cases h
   |makeMap t0 hint=>
    cases hint with
    |some x=>cases h
    |none=>
     simp only at h
     split at h
     ·rename_i τ Mu
      split at h
      ·rename_i hd
       cases h
       refine ⟨rfl,⟨λl hl=>by simpa [AV.refs,AC.refs] using hl,rfl,λl hl=>by simp only [AV.map,Ba];rw [if_neg (Ne.symm hl)],λl=>rfl⟩,λst Qn=>?_⟩
       unfold Ch
       simp only [evalOp,Nt,Mu,if_pos hd,Option.map_some]
       rw [Qn.new]
      ·cases h
     ·cases h
   |_=>cases h
theorem tj {l:List Operand} (h: ∀x∈l,(Ey d v b t).ev x=t.ev x):(l.all λx=>((Ey d v b t).ev x).settled)=(l.map t.ev).all (·.settled):=by
 rw [List.all_map]
 induction l with
 |nil=>rfl
 |cons x r ih=>
  simp only [List.all_cons,Function.comp]
  rw [h x (by simp),ih λy hy=>h y (by simp [hy])]
theorem tm {o:Oper} (hl:lT d v b) (hn:Eg d t) (hs:Pl Γ (Ey d v b t) o=true) (hu:(de o).all (cy d)=true) (Yd:o.dst≠some d) {s':St} (he:Ch T Γ ops (Ey d v b t) o=some s'):
  ∃t',Ch T Γ ops t o=some t'/\s'=Ey d v b t'/\Eg d t'/\Pl Γ t o=true:=by
 obtain ⟨dst,op,ty,pos,after,guard⟩:=o
 unfold Pl at hs
 cases guard with
 |some g=>cases hs
 |none=>
  simp only at hs
  split at hs
  ·rename_i x
   have hx:=Rx (v:=v) (b:=b) (t:=t) hu x (by simp [de])
   obtain ⟨t',h1,h2,h3⟩:=yN hn hx Yd he
   exact ⟨t',h1,h2,h3,rfl⟩
  ·rename_i t0 x
   have hx:=Rx (v:=v) (b:=b) (t:=t) hu x (by simp [de])
   rw [hx] at hs
   split at hs
   ·rename_i l i hp
    obtain ⟨t',h1,h2,h3⟩:=yJ hn hx Yd hp he
    exact ⟨t',h1,h2,h3,by simp only [Pl,hp]⟩
   ·cases hs
  ·rename_i f args tys
   rw [Bool.and_eq_true] at hs
   obtain ⟨lI,BD⟩:=hs
   split at lI
   ·rename_i sp Mb
    have ym:=Rx (v:=v) (b:=b) (t:=t) (l:=args.toList) hu
    rw [tj ym] at BD
    obtain ⟨t',h1,h2,h3⟩:=xV Mb hn (CD hu) Yd BD he
    refine ⟨t',h1,h2,h3,?_⟩
    simp only [Pl,Mb,Bool.true_and]
    rw [List.all_map] at BD
    exact BD
   ·cases lI
  ·rename_i t0 m k x
   have hm:=Rx (v:=v) (b:=b) (t:=t) hu m (by simp [de])
   have hk:=Rx (v:=v) (b:=b) (t:=t) hu k (by simp [de])
   have hx:=Rx (v:=v) (b:=b) (t:=t) hu x (by simp [de])
   rw [hm,hk,hx] at hs
   have hs0:=hs
   rw [Bool.and_eq_true] at hs
   obtain ⟨t',h1,h2,h3⟩:=sk hn hm hk hx Yd hs.2 he
   exact ⟨t',h1,h2,h3,hs0⟩
  ·rename_i t0 len parts
   rw [Bool.and_eq_true] at hs
   obtain ⟨lI,BD⟩:=hs
   cases dst with
   |none=>cases BD
   |some e=>
    simp only at BD
    have hed:e≠d:= λh=>Yd (by rw [h])
    have bp:(parts.toList.map (λp=>p.2)).all (cy d)=true:=hu
    have ym:=Rx (v:=v) (b:=b) (t:=t) bp
    have hx: ∀p∈parts.toList,(Ey d v b t).ev p.2=t.ev p.2:= λp hp=>ym p.2 (List.mem_map.2 ⟨p,hp,rfl⟩)
    have hp:(parts.toList.all λp=>Pf (t.ev p.2))=true:=List.all_eq_true.2 λp hp=>by rw [<-hx p hp];exact List.all_eq_true.1 lI p hp
    have El:=nj BD
    obtain ⟨t',h1,h2,h3⟩:=uP hl hn hx hed hp El he
    refine ⟨t',h1,h2,h3,?_⟩
    simp only [Pl,hp,Bool.true_and]
    exact DP (El.back hed hn)
  ·cases hs
def rq:List (Nat×AV×OB)->St->St->Prop
 | [],s,t=>s=t
 |q::Q,s,t=>Eg q.1 t/\rq Q s (Ey q.1 q.2.1 q.2.2 t)
theorem qK {o:Oper} : ∀(Q:List (Nat×AV×OB)) (s t s':St),rq Q s t->(∀q∈Q,lT q.1 q.2.1 q.2.2/\(de o).all (cy q.1)=true/\o.dst≠some q.1)->Pl Γ s o=true->Ch T Γ ops s o=some s'->
  ∃t',Ch T Γ ops t o=some t'/\rq Q s' t'/\Pl Γ t o=true
 | [],s,t,s',h,_,hs,he=>by
  have h:s=t:=h
  subst h
  exact ⟨s',he,rfl,hs⟩
 |q::Q,s,t,s',⟨h1,h2⟩,hq,hs,he=>by
  obtain ⟨u',e1,e2,e3⟩:=qK Q s _ s' h2 (λp hp=>hq p (List.mem_cons_of_mem _ hp)) hs he
  obtain ⟨l1,l2,l3⟩:=hq q (by simp)
  obtain ⟨t',f1,f2,f3,f4⟩:=tm l1 h1 e3 l2 l3 e1
  exact ⟨t',f1,⟨f3,by rw [<-f2];exact e2⟩,f4⟩
theorem qL {q:Nat×AV×OB} : ∀(Q1:List (Nat×AV×OB)) {Q2:List (Nat×AV×OB)} {s t:St},rq (Q1++q::Q2) s t->(∀p∈Q1++q::Q2,lT p.1 p.2.1 p.2.2)->(∀p∈Q1,p.1≠q.1)->
  Eg q.1 t/\rq (Q1++Q2) s (Ey q.1 q.2.1 q.2.2 t)
 | [],Q2,s,t,h,_,_=>h
 |p::Q1,Q2,s,t,⟨h1,h2⟩,hL,El=>by
  have XU:=El p (by simp)
  have hLp:=hL p (by simp)
  have hLq:=hL q (by simp)
  obtain ⟨g1,g2⟩:=qL Q1 h2 (λr hr=>hL r (List.mem_cons_of_mem _ hr)) λr hr=>El r (List.mem_cons_of_mem _ hr)
  refine ⟨g1.back (Ne.symm XU) h1,h1.plus XU (λh=>XU (hLq.v1 _ h)) (by rw [hLq.b1];simp),?_⟩
  show rq (Q1++Q2) s (Ey p.1 p.2.1 p.2.2 (Ey q.1 q.2.1 q.2.2 t))
  rw [pU (Ne.symm XU)]
  exact g2
def gf (ops:Array Oper):Nat->Nat->Nat->Bool
 |0,_,_=>false
 |f+1,i,a=>Region.waitsFor .any ops i a||(List.range ops.size).any λk=>Region.waitsFor .any ops i k&&gf ops f k a
def Tg (ops:Array Oper) (Ad:Array Bool):Prop:= ∀k a,Ad.getD k false=true->Region.waitsFor .any ops k a=true->Ad.getD a false=true
theorem cG {Ad:Array Bool} {i a:Nat} (h:i∈Region.ready .any ops Ad) (hw:Region.waitsFor .any ops i a=true):Ad.getD a false=true:=by
 obtain ⟨_,o,ho,Hz⟩:=mem_ready.1 h
 obtain ⟨o',XS,e,he,hb,rfl⟩:=Region.waitsFor_spec hw
 rw [ho] at XS
 cases XS
 exact Hz e he hb
theorem eS {Ad:Array Bool} (hc:Tg ops Ad) {a:Nat} : ∀(f i:Nat),(∀x,Region.waitsFor .any ops i x=true->Ad.getD x false=true)->gf ops f i a=true->Ad.getD a false=true
 |0,_,_,h=>by cases h
 |f+1,i,hi,h=>by
  simp only [gf,Bool.or_eq_true,List.any_eq_true,Bool.and_eq_true] at h
  rcases h with h|⟨k,_,h1,h2⟩
  ·exact hi a h
  ·exact eS hc f k (λx hx=>hc k x (hi k h1) hx) h2
theorem Tg.set {Ad:Array Bool} (hc:Tg ops Ad) {i:Nat} (hi:i∈Region.ready .any ops Ad):Tg ops (Ad.setIfInBounds i true):= λk a hk hw=>by
 by_cases hik:i=k
 ·subst hik
  exact getD_set_true (cG hi hw)
 ·rw [getD_set_ne false hik] at hk
  exact getD_set_true (hc k a hk hw)
def yS (P:List (Nat×Nat×AV×OB)) (Γ:Env) (ops:Array Oper) (st:St) (o:Oper) (i:Nat):Bool:=
 (P.all λa=>gf ops 5 i a.1)||(Pl Γ st o&&P.all λa=>gf ops 5 i a.1||((de o).all (cy a.2.1)&&(match o.dst with
  |some e=>!Nat.beq e a.2.1
  |none=>true)))
def SR (T:Tab) (Γ:Env) (ops:Array Oper) (P:List (Nat×Nat×AV×OB)) (K:St->Prop):Nat->Array Bool->St->Prop
 |0,Ad,st=>Region.ready .any ops Ad= []/\K st
 |f+1,Ad,st=>Region.ready .any ops Ad≠ []/\ ∀i∈Region.ready .any ops Ad,∃o st',ops[i]?=some o/\yS P Γ ops st o i=true/\Ch T Γ ops st o=some st'/\SR T Γ ops P K f (Ad.setIfInBounds i true) st'
structure GH (lc la:Array Bool) (Q:List Nat):Prop where
 size:la.size=lc.size
 off: ∀k∈Q,k<la.size/\la.getD k false=false/\lc.getD k false=true
 same: ∀k,k∉Q->la.getD k false=lc.getD k false
theorem GH.ready {lc la:Array Bool} {Q:List Nat} (h:GH lc la Q) {i:Nat} (hi:i∈Region.ready .any ops la) (hn:i∉Q):i∈Region.ready .any ops lc:=by
 obtain ⟨h1,o,ho,Hz⟩:=mem_ready.1 hi
 have Ho:i<la.size:=by
  rcases Nat.lt_or_ge i la.size with h'|h'
  ·exact h'
  ·simp [Array.getElem?_eq_none h'] at h1
 have h2:=getD_both h1
 rw [h.same i hn] at h2
 refine mem_ready.2 ⟨getD_in (by rw [<-h.size];exact Ho) h2,o,ho,λe he hb=>?_⟩
 have h3:=Hz e he hb
 by_cases hq:e.on∈Q
 ·exact (h.off _ hq).2.2
 ·rw [<-h.same _ hq];exact h3
theorem GH.nil {lc la:Array Bool} (h:GH lc la []):la=lc:=by
 refine Array.ext h.size λk h1 h2=>?_
 have:=h.same k (by simp)
 simpa [h1,h2] using this
theorem GH.one {lc la:Array Bool} {Q Q':List Nat} {i:Nat} (h:GH lc la Q) (hi:i∈Q) (hs: ∀k,k∈Q'↔k∈Q/\k≠i):GH lc (la.setIfInBounds i true) Q':=by
 refine ⟨by simp [h.size],λk hk=>?_,λk hk=>?_⟩
 ·obtain ⟨h1,h2⟩:=(hs k).1 hk
  obtain ⟨g1,g2,g3⟩:=h.off k h1
  exact ⟨by simpa using g1,by rw [getD_set_ne false (Ne.symm h2)];exact g2,g3⟩
 ·by_cases e:i=k
  ·subst e
   obtain ⟨g1,g2,g3⟩:=h.off i hi
   rw [g3]
   simp [g1]
  ·rw [getD_set_ne false e]
   exact h.same k λhq=>hk ((hs k).2 ⟨hq,Ne.symm e⟩)
theorem GH.both {lc la:Array Bool} {Q:List Nat} {i:Nat} (h:GH lc la Q) (hi:i∉Q):GH (lc.setIfInBounds i true) (la.setIfInBounds i true) Q:=by
 refine ⟨by simp [h.size],λk hk=>?_,λk hk=>?_⟩
 ·obtain ⟨g1,g2,g3⟩:=h.off k hk
  have El:i≠k:= λe=>hi (by rw [e];exact hk)
  exact ⟨by simpa using g1,by rw [getD_set_ne false El];exact g2,by rw [getD_set_ne false El];exact g3⟩
 ·by_cases e:i=k
  ·subst e
   have hs:=h.same i hi
   have hz:=h.size
   by_cases hl:i<la.size
   ·simp [hl,hz▸hl]
   ·have Hg: ¬i<lc.size:=by omega
    simp [hl,Hg]
  ·rw [getD_set_ne false e,getD_set_ne false e];exact h.same k hk
theorem yP {dst:Option Tmp} {d:Nat} (h:(match dst with
  |some e=>!Nat.beq e d
  |none=>true)=true):dst≠some d:= λe=>by
 subst e
 simp at h
theorem CB {P:List (Nat×Nat×AV×OB)} {K:St->Prop} (hP: ∀a∈P,∃o,ops[a.1]?=some o/\Zk T o=some a.2):
  ∀(n f:Nat) (Q:List (Nat×Nat×AV×OB)) (lc la:Array Bool) (s t:St),n=f+Q.length->SR T Γ ops P K f lc s->rq (Q.map (·.2)) s t->GH lc la (Q.map (·.1))->(∀a∈Q,a∈P)->
   (Q.Pairwise λa c=>a.2.1≠c.2.1/\a.1≠c.1)->Tg ops la->(∀a∈Q,∀x,Region.waitsFor .any ops a.1 x=true->la.getD x false=true)->anyS T Γ ops K n la t:=by
 intro n
 induction n with
 |zero=>
  intro f Q lc la s t hn hC hp hb hQ hpw Oq hw
  have hf:f=0:=by omega
  have hq:Q= []:=List.eq_nil_of_length_eq_zero (by omega)
  subst hf hq
  have hp:s=t:=hp
  subst hp
  rw [hb.nil]
  exact hC
 |succ n ih=>
  intro f Q lc la s t hn hC hp hb hQ hpw Oq hw
  refine ⟨?_,λi hi=>?_⟩
  ·cases Q with
   |nil=>
    rw [hb.nil]
    cases f with
    |zero=>simp at hn
    |succ f=>exact hC.1
   |cons a Q=>
    obtain ⟨o,ho,_⟩:=hP a (hQ a (by simp))
    obtain ⟨g1,g2,_⟩:=hb.off a.1 (by simp)
    have:a.1∈Region.ready .any ops la:=mem_ready.2 ⟨getD_in g1 g2,o,ho,λe he hbd=>hw a (by simp) e.on (by
     unfold Region.waitsFor
     rw [ho]
     exact Array.any_eq_true'.2 ⟨e,he,by simp [hbd]⟩)⟩
    intro e
    rw [e] at this
    cases this
  ·by_cases hiQ:i∈Q.map (·.1)
   ·obtain ⟨a,ha,rfl⟩:=List.mem_map.1 hiQ
    obtain ⟨Q1,Q2,rfl⟩:=List.append_of_mem ha
    obtain ⟨o,ho,ZD⟩:=hP a (hQ a ha)
    obtain ⟨_,_,Qn⟩:=Zl (Γ:=Γ) (ops:=ops) ZD
    have IM:=List.pairwise_append.1 hpw
    have Aa8:=List.pairwise_cons.1 IM.2.1
    rw [List.map_append,List.map_cons] at hp
    have hL: ∀p∈Q1.map (·.2)++a.2::Q2.map (·.2),lT p.1 p.2.1 p.2.2:= λp sf=>by
     have:p∈(Q1++a::Q2).map (·.2):=by rw [List.map_append,List.map_cons];exact sf
     obtain ⟨c,hc,rfl⟩:=List.mem_map.1 this
     obtain ⟨o',_,Aeg⟩:=hP c (hQ c hc)
     exact (Zl (Γ:=Γ) (ops:=ops) Aeg).2.1
    obtain ⟨p1,p2⟩:=qL _ hp hL λp sf=>by
     obtain ⟨c,hc,rfl⟩:=List.mem_map.1 sf
     exact (IM.2.2 c hc a (by simp)).1
    refine ⟨o,_,ho,Qn t p1,ih f (Q1++Q2) lc _ s _ ?_ hC (by rw [List.map_append];exact p2) (hb.one hiQ λk=>?_) (λc hc=>hQ c ?_) ?_ (Oq.set hi) λc hc x hx=>getD_set_true (hw c ?_ x hx)⟩
    ·simp only [List.length_append,List.length_cons] at hn⊢;omega
    ·simp only [List.map_append,List.map_cons,List.mem_append,List.mem_cons]
     constructor
     ·intro h
      rcases h with h|h
      ·obtain ⟨c,hc,rfl⟩:=List.mem_map.1 h
       exact ⟨.inl h,(IM.2.2 c hc a (by simp)).2⟩
      ·obtain ⟨c,hc,rfl⟩:=List.mem_map.1 h
       exact ⟨.inr (.inr h),Ne.symm (Aa8.1 c hc).2⟩
     ·rintro ⟨h|h|h,El⟩
      ·exact .inl h
      ·exact absurd h El
      ·exact .inr h
    ·rcases List.mem_append.1 hc with hc|hc
     ·exact List.mem_append_left _ hc
     ·exact List.mem_append_right _ (List.mem_cons_of_mem _ hc)
    ·exact List.pairwise_append.2 ⟨IM.1,Aa8.2,λc hc e he=>IM.2.2 c hc e (List.mem_cons_of_mem _ he)⟩
    ·rcases List.mem_append.1 hc with hc|hc
     ·exact List.mem_append_left _ hc
     ·exact List.mem_append_right _ (List.mem_cons_of_mem _ hc)
   ·have hic:=hb.ready hi hiQ
    cases f with
    |zero=>
     rw [hC.1] at hic
     cases hic
    |succ f=>
     obtain ⟨o,s',ho,iR,he,eo⟩:=hC.2 i hic
     have OH: ∀a∈Q,gf ops 5 i a.1=false:= λa ha=>by
      cases hwt:gf ops 5 i a.1 with
      |false=>rfl
      |true=>
       have h1:=eS Oq _ i (λx hx=>cG hi hx) hwt
       rw [(hb.off a.1 (List.mem_map.2 ⟨a,ha,rfl⟩)).2.1] at h1
       cases h1
     have key: ∃t',Ch T Γ ops t o=some t'/\rq (Q.map (·.2)) s' t':=by
      unfold yS at iR
      rw [Bool.or_eq_true,Bool.and_eq_true] at iR
      rcases iR with iR|⟨h1,h2⟩
      ·cases Q with
       |nil=>
        have hp:s=t:=hp
        subst hp
        exact ⟨s',he,rfl⟩
       |cons a Q=>
        have:=List.all_eq_true.1 iR a (hQ a (by simp))
        rw [OH a (by simp)] at this
        cases this
      ·obtain ⟨t',g1,g2,_⟩:=qK (T:=T) (ops:=ops) _ s t s' hp (λq hq=>by
        obtain ⟨a,ha,rfl⟩:=List.mem_map.1 hq
        obtain ⟨o',_,ZD⟩:=hP a (hQ a ha)
        have h3:=List.all_eq_true.1 h2 a (hQ a ha)
        rw [OH a ha,Bool.false_or,Bool.and_eq_true] at h3
        exact ⟨(Zl (Γ:=Γ) (ops:=ops) ZD).2.1,h3.1,yP h3.2⟩) h1 he
       exact ⟨t',g1,g2⟩
     obtain ⟨t',g1,g2⟩:=key
     exact ⟨o,t',ho,g1,ih f Q _ _ s' t' (by omega) eo g2 (hb.both hiQ) hQ hpw (Oq.set hi) λc hc x hx=>getD_set_true (hw c hc x hx)⟩
def Rv (T:Tab) (ops:Array Oper) (Ad:Array Bool):List (Nat×Nat×AV×OB):=(Region.ready .any ops Ad).filterMap λi=>((ops[i]?).bind (Zk T)).map λr=>(i,r)
theorem rC {Ad:Array Bool} {a:Nat×Nat×AV×OB} (h:a∈Rv T ops Ad):a.1∈Region.ready .any ops Ad/\ ∃o,ops[a.1]?=some o/\Zk T o=some a.2:=by
 unfold Rv at h
 obtain ⟨i,hi,he⟩:=List.mem_filterMap.1 h
 cases ho:ops[i]? with
 |none=>rw [ho] at he;cases he
 |some o=>
  rw [ho] at he
  simp only [Option.bind_some,Option.map_eq_some_iff] at he
  obtain ⟨r,h1,rfl⟩:=he
  exact ⟨hi,o,ho,h1⟩
theorem uS:Tg ops (Array.replicate ops.size false):= λk a hk _=>by
 rw [getD_replicate_false] at hk
 cases hk
theorem Zq (q:Bool): ∀(l:List Nat) (Ad:Array Bool),Tg ops Ad->Tg ops (Ef (Fb q ops l Ad) Ad)
 | [],Ad,h=>h
 |i::r,Ad,h=>by
  simp only [Fb]
  split
  ·rename_i hc
   rw [Bool.and_eq_true,Bool.and_eq_true] at hc
   have hi:i∈Region.ready .any ops Ad:=by simpa using hc.2.1
   exact Zq q r _ (h.set hi)
  ·exact Zq q r Ad h
theorem cm: ∀(l:List Nat) (Ad:Array Bool),(Ef l Ad).size=Ad.size
 | [],_=>rfl
 |i::r,Ad=>by simp only [Ef];rw [cm r];simp
theorem hY: ∀(l:List Nat) (Ad:Array Bool) (k:Nat),k∈l->k<Ad.size->(Ef l Ad).getD k false=true
 |i::r,Ad,k,h,hk=>by
  simp only [Ef]
  by_cases hr:k∈r
  ·exact hY r _ k hr (by simpa using hk)
  ·have:k=i:=(List.mem_cons.1 h).resolve_right hr
   subst this
   have hs: ∀(l:List Nat) (A:Array Bool),A.getD k false=true->(Ef l A).getD k false=true:=by
    intro l
    induction l with
    |nil=>exact λA h=>h
    |cons j l ih=>exact λA h=>ih _ (getD_set_true h)
   exact hs r _ (by simp [hk])
theorem ez: ∀(l:List Nat) (Ad:Array Bool) (k:Nat),k∉l->(Ef l Ad).getD k false=Ad.getD k false
 | [],_,_,_=>rfl
 |i::r,Ad,k,h=>by
  simp only [Ef]
  rw [ez r _ k λhk=>h (List.mem_cons_of_mem _ hk),getD_set_ne false (λe=>h (by rw [e];simp))]
theorem NF {Ad:Array Bool} {Q:List Nat} (h: ∀i∈Q,i∈Region.ready .any ops Ad):GH (Ef Q Ad) Ad Q:=by
 have hr: ∀i∈Q,i<Ad.size/\Ad.getD i false=false:= λi hi=>by
  have h1:=(mem_ready.1 (h i hi)).1
  refine ⟨?_,getD_both h1⟩
  rcases Nat.lt_or_ge i Ad.size with h'|h'
  ·exact h'
  ·simp [Array.getElem?_eq_none h'] at h1
 exact ⟨(cm Q Ad).symm,λk hk=>⟨(hr k hk).1,(hr k hk).2,hY Q Ad k hk (hr k hk).1⟩,λk hk=>(ez Q Ad k hk).symm⟩
theorem wI: ∀(Q:List (Nat×Nat×AV×OB)) (t s:St),(∀a∈Q,∃o,ops[a.1]?=some o/\Zk T o=some a.2)->(∀a∈Q,Eg a.2.1 t)->(Q.Pairwise λa c=>a.2.1≠c.2.1)->Jb T Γ ops (Q.map (·.1)) t=some s->rq (Q.map (·.2)) s t
 | [],t,s,_,_,_,h=>by
  have h:some t=some s:=h
  exact (Option.some.inj h).symm
 |a::Q,t,s,hQ,hn,hp,h=>by
  obtain ⟨o,ho,ZD⟩:=hQ a (by simp)
  obtain ⟨_,hL,Qn⟩:=Zl (Γ:=Γ) (ops:=ops) ZD
  obtain ⟨uk,CU⟩:=List.pairwise_cons.1 hp
  simp only [List.map_cons,Jb,ho] at h
  rw [Qn t (hn a (by simp))] at h
  refine ⟨hn a (by simp),wI Q _ s (λc hc=>hQ c (List.mem_cons_of_mem _ hc)) (λc hc=>?_) CU h⟩
  exact (hn c (List.mem_cons_of_mem _ hc)).plus (Ne.symm (uk c hc)) (λh=>uk c hc (hL.v1 _ h).symm) (by rw [hL.b1];simp)
end
end Go.Proofs.Ytjbdmibbbpdnnaa
