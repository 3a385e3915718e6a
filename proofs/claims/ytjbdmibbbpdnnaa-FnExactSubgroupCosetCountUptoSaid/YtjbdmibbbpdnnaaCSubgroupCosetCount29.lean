/-
  Part 30 of the proof that the statement FnExactSubgroupCosetCount holds.
-/
import Derived.Test.YtjbdmibbbpdnnaaCSubgroupCosetCount28
namespace Go.Proofs.Ytjbdmibbbpdnnaa
open Go.RowKit
def Eh (d:Nat) (v:AV) (b:OB) (st:St):St:= {tmps:=Mj st.tmps d v,heap:=Ib st.heap d b}
def gA (d:Nat) (st:St):Bool:=(st.get d).refs.isEmpty&&((st.tmps.all λv=>!v.refs.contains d)&&st.heap.all λp=>!Nat.beq p.1 d&&!p.2.refs.contains d)
structure Ds (d:Nat) (st:St):Prop where
 own:(st.get d).refs= []
 tmps: ∀v∈st.tmps,d∉v.refs
 heap: ∀p∈st.heap,p.1≠d/\d∉p.2.refs
theorem kT {d:Nat} {st:St} (h:gA d st=true):Ds d st:=by
 unfold gA at h
 rw [Bool.and_eq_true,Bool.and_eq_true,List.all_eq_true,List.all_eq_true] at h
 obtain ⟨h0,h⟩:=h
 refine ⟨List.isEmpty_iff.1 h0,λv hv=>?_,λp hp=>?_⟩
 ·have:=h.1 v hv
  intro hd
  rw [List.contains_iff_mem.2 hd] at this
  cases this
 ·have:=h.2 p hp
  rw [Bool.and_eq_true] at this
  refine ⟨λe=>?_,λhd=>?_⟩
  ·have h1:=this.1
   rw [e,Nat.beq_refl] at h1
   cases h1
  ·have h1:=this.2
   rw [List.contains_iff_mem.2 hd] at h1
   cases h1
theorem yp {d:Nat} {st:St} (h:Ds d st):gA d st=true:=by
 unfold gA
 rw [Bool.and_eq_true,Bool.and_eq_true,List.all_eq_true,List.all_eq_true]
 refine ⟨by rw [h.own];rfl,λv hv=>?_,λp hp=>?_⟩
 ·rw [Bool.not_eq_true',<-Bool.not_eq_true,List.contains_iff_mem];exact h.tmps v hv
 ·rw [Bool.and_eq_true]
  refine ⟨?_,?_⟩
  ·rw [Bool.not_eq_true',<-Bool.not_eq_true]
   exact λe=>(h.heap p hp).1 (Nat.eq_of_beq_eq_true e)
  ·rw [Bool.not_eq_true',<-Bool.not_eq_true,List.contains_iff_mem];exact (h.heap p hp).2
structure jE (d:Nat) (v:AV) (b:OB):Prop where
 v1: ∀l,l∈v.refs->l=d
 b1:b.refs= []
 v2: ∀l,l≠d->v.map (As l)=v
 b2: ∀l,b.map (As l)=b
theorem Vw {α:Type} : ∀(xs:List α) (d t:Nat) (v x:α),d≠t->(Mj xs d v).getD t x=xs.getD t x
 | [],_,_,_,_,_=>rfl
 |y::r,0,0,_,_,h=>absurd rfl h
 |y::r,0,t+1,_,_,_=>by simp [Mj]
 |y::r,d+1,0,_,_,_=>by simp [Mj]
 |y::r,d+1,t+1,v,x,h=>by simpa [Mj] using Vw r d t v x (by omega)
theorem gR {α:Type} : ∀(xs:List α) (d e:Nat) (v w:α),d≠e->Mj (Mj xs d v) e w=Mj (Mj xs e w) d v
 | [],_,_,_,_,_=>rfl
 |y::r,0,0,_,_,h=>absurd rfl h
 |y::r,0,e+1,_,_,_=>rfl
 |y::r,d+1,0,_,_,_=>rfl
 |y::r,d+1,e+1,v,w,h=>by simp only [Mj];rw [gR r d e v w (by omega)]
theorem nF: ∀(H:List (Nat×OB)) (d l:Nat) (b:OB),d≠l->Ad (Ib H d b) l=Ad H l
 | [],d,l,b,h=>by simp [Ib,Ad,h]
 |(k,c)::r,d,l,b,h=>by
  simp only [Ib]
  split
  ·simp only [Ad];rw [if_neg h]
  ·simp only [Ad]
   split
   ·rfl
   ·exact nF r d l b h
theorem nK: ∀(H:List (Nat×OB)) (d e:Nat) (b c:OB),d≠e->Ib (Ib H d b) e c=Ib (Ib H e c) d b
 | [],d,e,b,c,h=>by
  simp only [Ib]
  by_cases h1:e<d
  ·rw [if_pos h1,if_neg (by omega)]
  ·rw [if_neg h1,if_pos (by omega)]
 |(k,a)::r,d,e,b,c,h=>by
  simp only [Ib]
  by_cases h1:d<k<;>by_cases h2:e<k
  ·rw [if_pos h1,if_pos h2]
   simp only [Ib]
   by_cases h3:e<d
   ·rw [if_pos h3,if_neg (by omega),if_pos h1]
   ·rw [if_neg h3,if_pos h2,if_pos (by omega)]
  ·rw [if_pos h1,if_neg h2]
   simp only [Ib]
   rw [if_neg (by omega),if_neg h2,if_pos h1]
  ·rw [if_neg h1,if_pos h2]
   simp only [Ib]
   rw [if_pos h2,if_neg (by omega),if_neg h1]
  ·rw [if_neg h1,if_neg h2]
   simp only [Ib]
   rw [if_neg h1,if_neg h2,nK r d e b c h]
theorem oh: ∀(H:List (Nat×OB)) (d l:Nat) (b c:OB),d≠l->Ve (Ib H d b) l c=Ib (Ve H l c) d b
 | [],d,l,b,c,h=>by simp [Ib,Ve,h]
 |(k,a)::r,d,l,b,c,h=>by
  simp only [Ib,Ve]
  by_cases h1:d<k<;>by_cases h2:k=l
  ·rw [if_pos h1,if_pos h2]
   simp only [Ve,Ib]
   rw [if_neg h,if_pos h2,if_pos h1]
  ·rw [if_pos h1,if_neg h2]
   simp only [Ve,Ib]
   rw [if_neg h,if_neg h2,if_pos h1]
  ·rw [if_neg h1,if_pos h2]
   simp only [Ve,Ib]
   rw [if_pos h2,if_neg h1]
  ·rw [if_neg h1,if_neg h2]
   simp only [Ve,Ib]
   rw [if_neg h2,if_neg h1,oh r d l b c h]
theorem iu {l:Nat} : ∀ {c:AC},l∉c.refs->As l c=c:=by
 intro c h
 cases c<;>simp only [As]<;>simp only [AC.refs,List.mem_singleton] at h
 case clo f Bn=>rw [if_neg (by simpa using h)]
 all_goals (first|rfl|rw [if_neg (Ne.symm h)])
theorem Ro {l:Nat} : ∀ {cs:List AC},l∉cs.flatMap AC.refs->cs.map (As l)=cs
 | [],_=>rfl
 |c::r,h=>by
  rw [List.flatMap_cons,List.mem_append] at h
  rw [List.map_cons,iu (λhh=>h (.inl hh)),Ro (λhh=>h (.inr hh))]
theorem rS {l:Nat} : ∀ {v:AV},l∉v.refs->v.map (As l)=v
 | .at a,h=>by simp only [AV.map];rw [iu h]
 | .agg cs,h=>by simp only [AV.map];rw [Ro h]
 | .Si _ _ _,_=>rfl
 | .Hv ps,h=>by
  simp only [AV.map]
  congr 1
  simp only [AV.refs] at h
  induction ps with
  |nil=>rfl
  |cons p r ih=>
   rw [List.flatMap_cons,List.mem_append] at h
   rw [List.map_cons,Ro (λhh=>h (.inl hh)),ih (λhh=>h (.inr hh))]
theorem rT {l:Nat} : ∀ {b:OB},l∉b.refs->b.map (As l)=b
 | .arr _ _ _ _ _,_=>rfl
 | .Cq _ _ _,_=>rfl
 | .var _ vs,h=>by simp only [OB.map];rw [Ro h]
 | .Ah _ _ _ _ _,_=>rfl
 | .Mz _ _,_=>rfl
theorem rF {l:Nat} : ∀ {H:List (Nat×OB)},(∀p∈H,p.1≠l)->Qz H l=H
 | [],_=>rfl
 |(k,b)::r,h=>by
  simp only [Qz]
  rw [if_neg (h (k,b) (by simp)),rF λp hp=>h p (by simp [hp])]
theorem Ds.forget {l:Nat} {st:St} (h:Ds l st):st.forget l=st:=by
 have e1:st.tmps.map (λv=>v.map (As l))=st.tmps:=(List.map_congr_left λv hv=>rS (h.tmps v hv)).trans (List.map_id _)
 have e2:st.heap.map (λp=>(p.1,p.2.map (As l)))=st.heap:=(List.map_congr_left λp hp=>by rw [rT (h.heap p hp).2];rfl).trans (List.map_id _)
 unfold St.forget St.Fl
 simp only [e1,e2]
 rw [rF λp hp=>(h.heap p hp).1]
theorem Ds.new {l:Nat} {st:St} (h:Ds l st) (b:OB) (v:AV):(st.new l b).put (some l) v=Eh l v b st:=by
 unfold St.new
 rw [h.forget]
 rfl
theorem kQ {α:Type} : ∀ {xs:List α} {d:Nat} {v x:α},x∈Mj xs d v->x∈xs\/x=v
 | [],_,_,_,h=>by cases h
 |y::r,0,v,x,h=>by
  rcases List.mem_cons.1 h with h|h
  ·exact .inr h
  ·exact .inl (List.mem_cons_of_mem _ h)
 |y::r,d+1,v,x,h=>by
  rcases List.mem_cons.1 h with h|h
  ·exact .inl (by rw [h];simp)
  ·exact (kQ h).imp (List.mem_cons_of_mem _) id
theorem sE: ∀ {H:List (Nat×OB)} {d:Nat} {b:OB} {p:Nat×OB},p∈Ib H d b->p∈H\/p=(d,b)
 | [],d,b,p,h=> .inr (by simpa [Ib] using h)
 |(k,c)::r,d,b,p,h=>by
  simp only [Ib] at h
  split at h
  ·rcases List.mem_cons.1 h with h|h
   ·exact .inr h
   ·exact .inl h
  ·rcases List.mem_cons.1 h with h|h
   ·exact .inl (by rw [h];simp)
   ·exact (sE h).imp (List.mem_cons_of_mem _) id
theorem DS {d:Nat} {v:AV} {b:OB} {st:St} {x:Operand} (h:x≠ .tmp d):(Eh d v b st).ev x=st.ev x:=by
 cases x with
 |tmp t=>exact Vw _ _ _ _ _ (λe=>h (by rw [e]))
 |_=>rfl
theorem wN {d l:Nat} {v:AV} {b:OB} {st:St} (h:d≠l):(Eh d v b st).at l=st.at l:=nF _ _ _ _ h
theorem zH {d e:Nat} {v u:AV} {b:OB} {st:St} (h:d≠e):(Eh d v b st).put (some e) u=Eh d v b (st.put (some e) u):=by
 unfold Eh St.put
 simp only
 rw [gR _ _ _ _ _ h]
theorem xE {d l:Nat} {v:AV} {b c:OB} {st:St} (h:d≠l):(Eh d v b st).Fb l c=Eh d v b (st.Fb l c):=by
 unfold Eh St.Fb
 simp only
 rw [oh _ _ _ _ _ h]
theorem ni {d e:Nat} {v u:AV} {b c:OB} {st:St} (h:d≠e):Eh e u c (Eh d v b st)=Eh d v b (Eh e u c st):=by
 unfold Eh
 rw [gR _ _ _ _ _ h,nK _ _ _ _ _ h]
theorem Ds.put {d:Nat} {st:St} {e:Nat} {u:AV} (h:Ds d st) (EI:e≠d) (hu:d∉u.refs):Ds d (st.put (some e) u):=
 ⟨by show (List.getD (Mj st.tmps e u) d .undef).refs= [];rw [Vw _ _ _ _ _ EI];exact h.own,λv hv=>(kQ hv).elim (h.tmps v) λe=>by rw [e];exact hu,h.heap⟩
theorem Ds.plus {d e:Nat} {u:AV} {c:OB} {st:St} (h:Ds d st) (EI:d≠e) (hu:d∉u.refs) (hc:d∉c.refs):Ds d (Eh e u c st):=
 ⟨by show (List.getD (Mj st.tmps e u) d .undef).refs= [];rw [Vw _ _ _ _ _ (Ne.symm EI)];exact h.own,λv hv=>(kQ hv).elim (h.tmps v) λe=>by rw [e];exact hu,λp hp=>(sE hp).elim (h.heap p) λe'=>by rw [e'];exact ⟨Ne.symm EI,hc⟩⟩
theorem Ds.LC {d e:Nat} {u:AV} {c:OB} {st:St} (h:Ds d (Eh e u c st)): ∀p∈st.heap,p.1≠d/\d∉p.2.refs:= λp hp=>h.heap p (by
 show p∈Ib st.heap e c
 generalize st.heap=H at hp
 induction H with
 |nil=>cases hp
 |cons q r ih=>
  obtain ⟨k,a⟩:=q
  simp only [Ib]
  split
  ·exact List.mem_cons_of_mem _ hp
  ·rcases List.mem_cons.1 hp with hp|hp
   ·rw [hp];simp
   ·exact List.mem_cons_of_mem _ (ih hp))
theorem jn {st st':St} : ∀(τ:Ty) (cs:List AC),cs.all (·.settled)=true->Ce st' τ cs=Ce st τ cs:=by
 intro τ
 induction τ with
 |unit=>intro cs _;cases cs<;>rfl
 |pair a r ef bY=>
  intro cs h
  simp only [Ce]
  rw [List.all_eq_true] at h
  rw [ef _ (List.all_eq_true.2 λc hc=>h c (List.mem_of_mem_take hc)),bY _ (List.all_eq_true.2 λc hc=>h c (List.mem_of_mem_drop hc))]
 |_=>
  intro cs h
  rcases cs with _|⟨c,_|⟨c',cs⟩⟩
  ·rfl
  ·simp only [List.all_cons,List.all_nil,Bool.and_true] at h
   simp only [Ce]
   exact Ry h
  ·rfl
theorem Yu {st st':St} {τ:Ty} {v:AV} (h:v.settled=true):Cg st' τ v=Cg st τ v:=by
 cases v with
 | «at»a=>
  have ha:a.settled=true:=h
  cases a<;>simp only [AC.settled,Bool.false_eq_true] at ha
  all_goals
   simp only [Cg]
   rw [Jn rfl,Jn rfl]
   rw [Ry (st:=st) (st':=st') rfl]
 |agg cs=>simp only [Cg];rw [jn _ _ h]
 |Si _ _ _=>rfl
 |Hv _=>rfl
theorem bJ {st st':St} : ∀(τ:Ty) (vs:List AV),vs.all (·.settled)=true->Bj st' τ vs=Bj st τ vs
 | .pair a r,v::vs,h=>by
  rw [List.all_cons,Bool.and_eq_true] at h
  simp only [Bj]
  rw [Yu (st:=st) (st':=st') h.1,bJ r vs h.2]
 | .pair _ _,[],_=>rfl
 | .unit,[],_=>rfl
 | .unit,_::_,_=>rfl
 | .int _,vs,_=>by cases vs<;>rfl
 | .bool,vs,_=>by cases vs<;>rfl
 | .str,vs,_=>by cases vs<;>rfl
 | .slice _,vs,_=>by cases vs<;>rfl
 | .oslice _,vs,_=>by cases vs<;>rfl
 | .ptr _,vs,_=>by cases vs<;>rfl
 | .optr _,vs,_=>by cases vs<;>rfl
 | .smap _,vs,_=>by cases vs<;>rfl
 | .clo _ _,vs,_=>by cases vs<;>rfl
def Np:AV->Bool
 | .at (.data _ _ _)=>true
 |_=>false
def bH (o:Oper):List Operand:=match o.op with
 | .move x=> [x]
 | .load _ x=> [x]
 | .call {callee:= .value (.func _),args, .. } =>args.toList
 | .insert _ m k x=> [m,k,x]
 | .buildSlice _ _ parts=>parts.toList.map (·.2)
 |_=> []
def aW (d:Nat):Operand->Bool
 | .tmp t=>!Nat.beq t d
 |_=>true
theorem yr {d:Nat} {x:Operand} (h:aW d x=true):x≠ .tmp d:= λe=>by
 subst e
 simp [aW] at h
def Ns (Γ:Env) (st:St) (o:Oper):Bool:=match o.guard with
 |some _=>false
 |none=>match o.op with
  | .move _=>true
  | .load _ x=>(match st.ev x with
   | .at (.Df _ _)=>true
   |_=>false)
  | .call {callee:= .value (.func f),args, .. } =>(match Γ f with
   |some (.q _)=>true
   |_=>false)&&args.toList.all λx=>(st.ev x).settled
  | .insert _ m k x=>(match st.ev m with
   | .at (.Fm _)=>true
   |_=>false)&&Np (st.ev k)&&(st.ev x).settled
  | .buildSlice _ _ parts=>(parts.toList.all λp=>Np (st.ev p.2))&&(match o.dst with
   |some e=>gA e st
   |none=>false)
  |_=>false
theorem Ds.ev {d:Nat} {st:St} (h:Ds d st) (x:Operand):d∉(st.ev x).refs:=by
 cases x with
 |tmp t=>
  simp only [St.ev,St.get]
  rw [List.getD_eq_getElem?_getD]
  by_cases hl:t<st.tmps.length
  ·rw [List.getElem?_eq_getElem hl];exact h.tmps _ (List.getElem_mem hl)
  ·rw [List.getElem?_eq_none (Nat.le_of_not_lt hl)];simp [AV.refs,AC.refs]
 |const c=>
  simp only [St.ev]
  unfold eA
  split<;>simp [AV.refs,AC.refs]
 |func f=>simp [St.ev,AV.refs,AC.refs]
 |_=>simp [St.ev,AV.refs,AC.refs]
theorem s6: ∀ {H:List (Nat×OB)} {l:Nat} {b:OB},Ad H l=some b->(l,b)∈H
 |(k,c)::r,l,b,h=>by
  simp only [Ad] at h
  split at h
  ·rename_i e;subst e;cases h;simp
  ·exact List.mem_cons_of_mem _ (s6 h)
section
variable {T:Tab} {Γ:Env} {ops:Array Oper} {d:Nat} {v:AV} {b:OB} {t:St}
theorem o6 {e:Option Tmp} (h:e≠some d) (hn:Ds d t) {y:AV} (hy:d∉y.refs):(Eh d v b t).put e y=Eh d v b (t.put e y)/\Ds d (t.put e y):=by
 cases e with
 |none=>exact ⟨rfl,hn⟩
 |some k=>exact ⟨zH (λe=>h (by rw [e])),hn.put (λe=>h (by rw [e])) hy⟩
theorem bf {o:Oper} (hg:o.guard=none) (Vz:o.dst≠some d) (hn:Ds d t) {q:Option AV} (h1:evalOp T Γ (Eh d v b t) o=q.map λy=>(y,Eh d v b t)) (h2:evalOp T Γ t o=q.map λy=>(y,t)) (hq: ∀y,q=some y->d∉y.refs) {s':St}
  (he:Ca T Γ ops (Eh d v b t) o=some s'): ∃t',Ca T Γ ops t o=some t'/\s'=Eh d v b t'/\Ds d t':=by
 unfold Ca at he⊢
 rw [hg] at he⊢
 simp only at he⊢
 rw [h1] at he
 cases q with
 |none=>cases he
 |some y=>
  obtain ⟨p1,p2⟩:=o6 (v:=v) (b:=b) Vz hn (hq y rfl)
  refine ⟨_,by rw [h2];rfl,?_,p2⟩
  simp only [Option.map_some,Option.some.injEq] at he
  rw [<-he,p1]
theorem Pz {l:List Operand} (hu:l.all (aW d)=true): ∀x∈l,(Eh d v b t).ev x=t.ev x:= λx hx=>DS (yr (List.all_eq_true.1 hu x hx))
theorem vB {dst:Option Tmp} {x:Operand} {ty:TypeId} {pos:String} {after:Array Edge} (hn:Ds d t) (hx:(Eh d v b t).ev x=t.ev x) (Vz:dst≠some d) {s':St}
  (he:Ca T Γ ops (Eh d v b t) {dst:=dst,op:= .move x,type:=ty,pos:=pos,after:=after,guard:=none} =some s'):
  ∃t',Ca T Γ ops t {dst:=dst,op:= .move x,type:=ty,pos:=pos,after:=after,guard:=none} =some t'/\s'=Eh d v b t'/\Ds d t':=
 bf rfl Vz hn (q:=some (t.ev x)) (by simp only [evalOp,Bz,hx]) (by simp only [evalOp,Bz]) (λy hy=>by cases hy;exact hn.ev x) he
def loadVar (T:Tab) (o:Option OB) (t0:TypeId) (i:Nat):Option AV:=match T.ty t0 with
 |some τ=>(match o with
  |some (.var _ vs)=>if τ.Ab then (if i+τ.size<=vs.length then some (.agg ((vs.drop i).take τ.size)) else none) else vs[i]?.map .at
  |_=>none)
 |none=>none
theorem cq {st:St} {t0:TypeId} {l i:Nat} :Jh T st t0 (.at (.Df l i))=loadVar T (st.at l) t0 i:=by
 unfold Jh loadVar
 cases T.ty t0<;>rfl
theorem vr {dst:Option Tmp} {t0:TypeId} {x:Operand} {ty:TypeId} {pos:String} {after:Array Edge} (hn:Ds d t) (hx:(Eh d v b t).ev x=t.ev x) (Vz:dst≠some d) {l i:Nat} (hp:t.ev x= .at (.Df l i)) {s':St}
  (he:Ca T Γ ops (Eh d v b t) {dst:=dst,op:= .load t0 x,type:=ty,pos:=pos,after:=after,guard:=none} =some s'):
  ∃t',Ca T Γ ops t {dst:=dst,op:= .load t0 x,type:=ty,pos:=pos,after:=after,guard:=none} =some t'/\s'=Eh d v b t'/\Ds d t':=by
 have TA:d≠l:= λe=>by
  have:=hn.ev x
  rw [hp,e] at this
  exact this (by simp [AV.refs,AC.refs])
 refine bf rfl Vz hn (q:=loadVar T (t.at l) t0 i) ?_ ?_ (λy hy=>?_) he
 ·simp only [evalOp,Bz,hx,hp]
  rw [cq,wN TA]
 ·simp only [evalOp,Bz,hp]
  rw [cq]
 ·unfold loadVar at hy
  split at hy
  ·split at hy
   ·rename_i vs hb
    have hr:d∉vs.flatMap AC.refs:=(hn.heap _ (s6 hb)).2
    have dJ: ∀c∈vs,d∉c.refs:= λc hc hd=>hr (List.mem_flatMap.2 ⟨c,hc,hd⟩)
    split at hy
    ·split at hy
     ·cases hy
      intro hd
      obtain ⟨c,hc,hd⟩:=List.mem_flatMap.1 hd
      exact dJ c (List.mem_of_mem_drop (List.mem_of_mem_take hc)) hd
     ·cases hy
    ·cases hv:vs[i]? with
     |none=>rw [hv] at hy;cases hy
     |some c=>
      rw [hv] at hy
      cases hy
      exact dJ c (List.mem_of_getElem? hv)
   ·cases hy
  ·cases hy
theorem xH {l:List Operand} (hu:l.all (aW d)=true):l.map (Eh d v b t).ev=l.map t.ev:=List.map_congr_left λx hx=>Pz hu x hx
theorem ux {dst:Option Tmp} {f:FuncId} {args:Array Operand} {YI:Array TypeId} {ty:TypeId} {pos:String} {after:Array Edge} {sp:Spec} (La:Γ f=some (.q sp)) (hn:Ds d t) (hx:args.toList.map (Eh d v b t).ev=args.toList.map t.ev) (Vz:dst≠some d)
  (hs:(args.toList.map t.ev).all (·.settled)=true) {s':St} (he:Ca T Γ ops (Eh d v b t) {dst:=dst,op:= .call {callee:= .value (.func f),args:=args,argTypes:=YI},type:=ty,pos:=pos,after:=after,guard:=none} =some s'):
  ∃t',Ca T Γ ops t {dst:=dst,op:= .call {callee:= .value (.func f),args:=args,argTypes:=YI},type:=ty,pos:=pos,after:=after,guard:=none} =some t'/\s'=Eh d v b t'/\Ds d t':=by
 have xd:Xy sp (args.toList.map t.ev)=false:=by unfold Xy;rw [hs];simp
 have uO: ∀st:St,Ii Γ st f (args.toList.map t.ev)=(match Bj t sp.arg (args.toList.map t.ev) with
   |none=>none
   |some (_,x)=>(sp.fn x).map λy=>if sp.Dp then .Si (sp.fresh||sp.res.flat) sp.res y else .at (.data (sp.fresh||sp.res.flat) sp.res y)):= λst=>by
  unfold Ii
  rw [La]
  simp only
  rw [hs,bJ (st:=t) _ _ hs]
  simp only [Bool.or_true,if_true]
  cases Bj t sp.arg (args.toList.map t.ev)<;>rfl
 refine bf rfl Vz hn (q:=Ii Γ t f (args.toList.map t.ev)) ?_ ?_ (λy hy=>?_) he
 ·simp only [evalOp,Bz,La,hx,xd]
  rw [uO,uO t]
  simp
 ·simp only [evalOp,Bz,La,xd]
  simp
 ·rw [uO t] at hy
  split at hy
  ·cases hy
  ·rename_i x _
   cases hf:sp.fn x with
   |none=>rw [hf] at hy;cases hy
   |some z=>
    rw [hf] at hy
    simp only [Option.map_some,Option.some.injEq] at hy
    rw [<-hy]
    split<;>simp [AV.refs,AC.refs]
def fi (T:Tab) (o:Option OB) (t0:TypeId) (s:ByteArray) (vw:(v:Ty)->Option (Bool×v.den)):Option OB:=match T.mapOf t0 with
 |some v=>(match o,vw v with
  |some (.Mz v' f),some (_,y)=>if h:v'=v/\v.flat=true/\v.Ab=false then some (.Mz v (Yt (h.1▸f:ByteArray->Option v.den) s y)) else none
  |_,_=>none)
 |none=>none
theorem cr {st:St} {t0:TypeId} {l:Nat} {fr:Bool} {s:ByteArray} {x:AV} :Ee T st t0 (.at (.Fm l)) (.at (.data fr .str s)) x=(fi T (st.at l) t0 s λv=>Cg st v x).map λc=>st.Fb l c:=by
 unfold Ee fi
 cases T.mapOf t0 with
 |none=>rfl
 |some v0=>
  simp only
  cases st.at l with
  |none=>rfl
  |some c=>
   cases c with
   |Mz v' f=>
    cases Cg st v0 x with
    |none=>rfl
    |some p=>
     simp only
     split<;>rfl
   |_=>rfl
theorem sB {o:Option OB} {t0:TypeId} {s:ByteArray} {vw:(v:Ty)->Option (Bool×v.den)} {c:OB} (h:fi T o t0 s vw=some c):c.refs= []:=by
 unfold fi at h
 split at h
 ·split at h
  ·split at h
   ·cases h;rfl
   ·cases h
  ·cases h
 ·cases h
theorem kd {st:St} {t0:TypeId} {m k x:AV} {s':St} (h:Ee T st t0 m k x=some s'): ∃l fr s,m= .at (.Fm l)/\k= .at (.data fr .str s):=by
 unfold Ee at h
 split at h
 ·exact ⟨_,_,_,rfl,rfl⟩
 ·cases h
theorem sF: ∀ {H:List (Nat×OB)} {l:Nat} {c:OB} {p:Nat×OB},p∈Ve H l c->p∈H\/(p.2=c/\p.1=l/\ ∃c',(l,c')∈H)
 |(k,a)::r,l,c,p,h=>by
  simp only [Ve] at h
  split at h
  ·rename_i e
   rcases List.mem_cons.1 h with h|h
   ·subst h;exact .inr ⟨rfl,e,a,by rw [e];simp⟩
   ·exact .inl (List.mem_cons_of_mem _ h)
  ·rcases List.mem_cons.1 h with h|h
   ·exact .inl (by rw [h];simp)
   ·exact (sF h).imp (List.mem_cons_of_mem _) λ⟨h1,h2,c',h3⟩=>⟨h1,h2,c',List.mem_cons_of_mem _ h3⟩
theorem Ds.Fb {st:St} {l:Nat} {c:OB} (h:Ds d st) (hc:d∉c.refs):Ds d (st.Fb l c):=
 ⟨h.own,h.tmps,λp hp=>(sF hp).elim (h.heap p) λ⟨h1,h2,c',h3⟩=>⟨by rw [h2];exact (h.heap _ h3).1,by rw [h1];exact hc⟩⟩
theorem pd {dst:Option Tmp} {t0:TypeId} {m k x:Operand} {ty:TypeId} {pos:String} {after:Array Edge} (hn:Ds d t) (hm:(Eh d v b t).ev m=t.ev m) (hk:(Eh d v b t).ev k=t.ev k) (hx:(Eh d v b t).ev x=t.ev x) (Vz:dst≠some d)
  (hs:(t.ev x).settled=true) {s':St} (he:Ca T Γ ops (Eh d v b t) {dst:=dst,op:= .insert t0 m k x,type:=ty,pos:=pos,after:=after,guard:=none} =some s'):
  ∃t',Ca T Γ ops t {dst:=dst,op:= .insert t0 m k x,type:=ty,pos:=pos,after:=after,guard:=none} =some t'/\s'=Eh d v b t'/\Ds d t':=by
 unfold Ca at he⊢
 simp only [evalOp,hm,hk,hx] at he⊢
 cases DO:Ee T (Eh d v b t) t0 (t.ev m) (t.ev k) (t.ev x) with
 |none=>rw [DO] at he;cases he
 |some s1=>
  rw [DO] at he
  simp only [Option.map_some,Option.some.injEq] at he
  obtain ⟨l,fr,s,e1,e2⟩:=kd DO
  have TA:d≠l:= λe=>by
   have:=hn.ev m
   rw [e1,e] at this
   exact this (by simp [AV.refs,AC.refs])
  rw [e1,e2,cr,wN TA] at DO
  have hvw:(λv0=>Cg (Eh d v b t) v0 (t.ev x))= λv0=>Cg t v0 (t.ev x):=funext λv0=>Yu hs
  rw [hvw] at DO
  rw [e1,e2,cr]
  cases ho:fi T (t.at l) t0 s λv0=>Cg t v0 (t.ev x) with
  |none=>rw [ho] at DO;cases DO
  |some c=>
   rw [ho] at DO
   simp only [Option.map_some,Option.some.injEq] at DO
   have hc:=sB ho
   have jx:Ds d (t.Fb l c):=hn.Fb (by rw [hc];simp)
   obtain ⟨p1,p2⟩:=o6 (v:=v) (b:=b) (y:= .undef) Vz jx (by simp [AV.refs,AC.refs])
   refine ⟨_,rfl,?_,p2⟩
   rw [<-he,<-DO,xE TA,p1]
theorem Ds.back {e:Nat} (h:Ds e (Eh d v b t)) (EI:e≠d) (hn:Ds d t):Ds e t:=by
 have hg: ∀k,k≠d->(Eh d v b t).get k=t.get k:= λk hk=>Vw _ _ _ _ _ (Ne.symm hk)
 refine ⟨by rw [<-hg e EI];exact h.own,λu hu hd=>?_,h.LC⟩
 obtain ⟨k,hk,rfl⟩:=List.mem_iff_getElem.1 hu
 have e1:t.get k=t.tmps[k]:=by unfold St.get;rw [List.getD_eq_getElem?_getD,List.getElem?_eq_getElem hk];rfl
 by_cases HJ:k=d
 ·subst HJ
  have:=hn.own
  rw [e1] at this
  rw [this] at hd
  cases hd
 ·have h1:=h.ev (.tmp k)
  have h2:(Eh d v b t).ev (.tmp k)=t.tmps[k]:=by show (Eh d v b t).get k=_;rw [hg k HJ,e1]
  rw [h2] at h1
  exact h1 hd
def dS (e:Ty):Nat->List (Nat×AV)->Option (Bool×Bool×List e.den)
 |_,[]=>some (true,true,[])
 |i,(j,x)::r=>if i=j then match Cg ⟨[],[]⟩ e x with
  |some (fr,y)=>match dS e (i+1) r with
   |some (Nf,CV,ys)=>some (fr&&Nf,Lk ⟨[],[]⟩ x&&e.tree&&CV,y::ys)
   |none=>none
  |none=>none
  else none
theorem Vl {st:St} {e:Ty} : ∀(l:List (Nat×Operand)) (i:Nat),(l.all λp=>Np (st.ev p.2))=true->Fu e i l st=(dS e i (l.map λp=>(p.1,st.ev p.2))).map λp=>(p.1,p.2.1,p.2.2,st)
 | [],i,_=>rfl
 |(j,x)::r,i,h=>by
  rw [List.all_cons,Bool.and_eq_true] at h
  have hx:Np (st.ev x)=true:=h.1
  simp only [Fu,dS,List.map_cons]
  split
  ·generalize TJ:st.ev x=xv at hx
   unfold Np at hx
   split at hx
   ·rename_i fr τ z
    have KJ:settle st (.at (.data fr τ z))=some (.at (.data fr τ z),st):=rfl
    rw [KJ]
    simp only
    rw [Yu (st:=⟨[],[]⟩) (st':=st) (v:= .at (.data fr τ z)) rfl]
    cases Cg ⟨[],[]⟩ e (.at (.data fr τ z)) with
    |none=>rfl
    |some p=>
     simp only
     rw [Vl r (i+1) h.2]
     cases dS e (i+1) (r.map λp=>(p.1,st.ev p.2)) with
     |none=>rfl
     |some q=>rfl
   ·cases hx
  ·rfl
def rowOf (T:Tab) (t0:TypeId) (len:Nat) (parts:List (Nat×AV)) (dst:Nat):Option (AV×OB):=match Vx T t0 with
 |some _=>none
 |none=>match T.elem t0 with
  |none=>none
  |some te=>match T.ty te with
   |none=>none
   |some e=>if parts.length=len/\len<=64/\e.size<=64/\dst<Ag then (dS e 0 parts).map λp=>(.at (.own dst 0 len), .arr ((T.lX||e.flat)&&p.1) (T.qR&&p.2.1) e te p.2.2) else none
theorem ag {st:St} {t0:TypeId} {len dst:Nat} {parts:Array (Nat×Operand)} (h:(parts.toList.all λp=>Np (st.ev p.2))=true):
  Ec T st dst t0 len parts=(rowOf T t0 len (parts.toList.map λp=>(p.1,st.ev p.2)) dst).map λr=>(r.1,st.new dst r.2):=by
 unfold Ec rowOf
 cases Vx T t0 with
 |some p=>
  obtain ⟨te,e⟩:=p
  simp only [Option.map_none]
  split
  ·rename_i x hp
   rw [hp,List.all_cons,Bool.and_eq_true] at h
   have hx:Np (st.ev x)=true:=h.1
   unfold Np at hx
   split at hx
   ·rename_i hv;simp only [hv]
   ·cases hx
  ·rfl
 |none=>
  simp only
  unfold Gk
  cases T.elem t0 with
  |none=>rfl
  |some te=>
   simp only
   cases T.ty te with
   |none=>rfl
   |some e=>
    simp only [List.length_map,Array.length_toList]
    split
    ·rw [Vl _ 0 h]
     cases dS e 0 (parts.toList.map λp=>(p.1,st.ev p.2))<;>rfl
    ·rfl
theorem iQ {t0:TypeId} {len dst:Nat} {parts:List (Nat×AV)} {r:AV×OB} (h:rowOf T t0 len parts dst=some r):jE dst r.1 r.2:=by
 unfold rowOf at h
 split at h
 ·cases h
 ·split at h
  ·cases h
  ·split at h
   ·cases h
   ·split at h
    ·rename_i e _ _
     cases hp:dS e 0 parts with
     |none=>rw [hp] at h;cases h
     |some p=>
      rw [hp] at h
      simp only [Option.map_some,Option.some.injEq] at h
      subst h
      exact ⟨λl hl=>by simpa [AV.refs,AC.refs] using hl,rfl,λl hl=>by simp only [AV.map,As];rw [if_neg (Ne.symm hl)],λl=>rfl⟩
    ·cases h
theorem rn {e:Nat} {t0:TypeId} {len:Nat} {parts:Array (Nat×Operand)} {ty:TypeId} {pos:String} {after:Array Edge} (_hl:jE d v b) (hn:Ds d t) (hx: ∀p∈parts.toList,(Eh d v b t).ev p.2=t.ev p.2) (Vz:e≠d)
  (hp:(parts.toList.all λp=>Np (t.ev p.2))=true) (Er:Ds e (Eh d v b t)) {s':St} (he:Ca T Γ ops (Eh d v b t) {dst:=some e,op:= .buildSlice t0 len parts,type:=ty,pos:=pos,after:=after,guard:=none} =some s'):
  ∃t',Ca T Γ ops t {dst:=some e,op:= .buildSlice t0 len parts,type:=ty,pos:=pos,after:=after,guard:=none} =some t'/\s'=Eh d v b t'/\Ds d t':=by
 have KA:=Er.back Vz hn
 have xe:(parts.toList.all λp=>Np ((Eh d v b t).ev p.2))=true:=List.all_eq_true.2 λp pa=>by rw [hx p pa];exact List.all_eq_true.1 hp p pa
 have hm:(parts.toList.map λp=>(p.1,(Eh d v b t).ev p.2))=parts.toList.map λp=>(p.1,t.ev p.2):=List.map_congr_left λp pa=>by rw [hx p pa]
 unfold Ca at he⊢
 simp only [evalOp] at he⊢
 rw [ag xe,hm] at he
 rw [ag hp]
 cases hr:rowOf T t0 len (parts.toList.map λp=>(p.1,t.ev p.2)) e with
 |none=>rw [hr] at he;cases he
 |some r=>
  rw [hr] at he
  have hL:=iQ hr
  simp only [Option.map_some,Option.some.injEq] at he
  rw [Er.new] at he
  refine ⟨Eh e r.1 r.2 t,by simp only [Option.map_some];rw [KA.new],?_,hn.plus (Ne.symm Vz) (λh=>Vz (hL.v1 _ h).symm) (by rw [hL.b1];simp)⟩
  rw [<-he,ni (Ne.symm Vz)]
def IX:Operand->AV
 | .const c=>eA c
 |_=> .undef
theorem IY {st:St} {x:Operand} (h:Np (IX x)=true):st.ev x=IX x:=by
 cases x<;>first|rfl|cases h
def Xd (T:Tab) (o:Oper):Option (Nat×AV×OB):=match o.guard with
 |some _=>none
 |none=>match o.dst with
  |none=>none
  |some d=>match o.op with
   | .buildSlice t0 len parts=>if (parts.toList.all λp=>Np (IX p.2))=true then (rowOf T t0 len (parts.toList.map λp=>(p.1,IX p.2)) d).map λr=>(d,r.1,r.2) else none
   | .makeMap t0 none=>match T.mapOf t0 with
    |some τ=>if d<Ag then some (d, .at (.Fm d), .Mz τ λ_=>none) else none
    |none=>none
   |_=>none
theorem Xe {o:Oper} {r:Nat×AV×OB} (h:Xd T o=some r):o.dst=some r.1/\jE r.1 r.2.1 r.2.2/\ ∀st:St,Ds r.1 st->Ca T Γ ops st o=some (Eh r.1 r.2.1 r.2.2 st):=by
 obtain ⟨dst,op,ty,pos,after,guard⟩:=o
 unfold Xd at h
 cases guard with
 |some g=>cases h
 |none=>
  cases dst with
  |none=>cases h
  |some d=>
   cases op with
   |buildSlice t0 len parts=>
    simp only at h
    split at h
    ·rename_i hp
     cases hr:rowOf T t0 len (parts.toList.map λp=>(p.1,IX p.2)) d with
     |none=>rw [hr] at h;cases h
     |some q=>
      rw [hr] at h
      simp only [Option.map_some,Option.some.injEq] at h
      subst h
      refine ⟨rfl,iQ hr,λst Ra=>?_⟩
      have uO: ∀p∈parts.toList,st.ev p.2=IX p.2:= λp pa=>IY (List.all_eq_true.1 hp p pa)
      have hm:(parts.toList.map λp=>(p.1,st.ev p.2))=parts.toList.map λp=>(p.1,IX p.2):=List.map_congr_left λp pa=>by rw [uO p pa]
      have xe:(parts.toList.all λp=>Np (st.ev p.2))=true:=List.all_eq_true.2 λp pa=>by rw [uO p pa];exact List.all_eq_true.1 hp p pa
      unfold Ca
      simp only [evalOp]
      rw [ag xe,hm,hr]
      simp only [Option.map_some]
      rw [Ra.new]
    ·cases h
   |makeMap t0 hint=>
    cases hint with
    |some x=>cases h
    |none=>
     simp only at h
     split at h
     ·rename_i τ Lr
      split at h
      ·rename_i hd
       cases h
       refine ⟨rfl,⟨λl hl=>by simpa [AV.refs,AC.refs] using hl,rfl,λl hl=>by simp only [AV.map,As];rw [if_neg (Ne.symm hl)],λl=>rfl⟩,λst Ra=>?_⟩
       unfold Ca
       simp only [evalOp,Ml,Lr,if_pos hd,Option.map_some]
       rw [Ra.new]
      ·cases h
     ·cases h
   |_=>cases h
theorem qa {l:List Operand} (h: ∀x∈l,(Eh d v b t).ev x=t.ev x):(l.all λx=>((Eh d v b t).ev x).settled)=(l.map t.ev).all (·.settled):=by
 rw [List.all_map]
 induction l with
 |nil=>rfl
 |cons x r ih=>
  simp only [List.all_cons,Function.comp]
  rw [h x (by simp),ih λy hy=>h y (by simp [hy])]
theorem qb {o:Oper} (hl:jE d v b) (hn:Ds d t) (hs:Ns Γ (Eh d v b t) o=true) (hu:(bH o).all (aW d)=true) (Vz:o.dst≠some d) {s':St} (he:Ca T Γ ops (Eh d v b t) o=some s'):
  ∃t',Ca T Γ ops t o=some t'/\s'=Eh d v b t'/\Ds d t'/\Ns Γ t o=true:=by
 obtain ⟨dst,op,ty,pos,after,guard⟩:=o
 unfold Ns at hs
 cases guard with
 |some g=>cases hs
 |none=>
  simp only at hs
  split at hs
  ·rename_i x
   have hx:=Pz (v:=v) (b:=b) (t:=t) hu x (by simp [bH])
   obtain ⟨t',h1,h2,h3⟩:=vB hn hx Vz he
   exact ⟨t',h1,h2,h3,rfl⟩
  ·rename_i t0 x
   have hx:=Pz (v:=v) (b:=b) (t:=t) hu x (by simp [bH])
   rw [hx] at hs
   split at hs
   ·rename_i l i hp
    obtain ⟨t',h1,h2,h3⟩:=vr hn hx Vz hp he
    exact ⟨t',h1,h2,h3,by simp only [Ns,hp]⟩
   ·cases hs
  ·rename_i f args YI
   rw [Bool.and_eq_true] at hs
   obtain ⟨jy,xg⟩:=hs
   split at jy
   ·rename_i sp La
    have uO:=Pz (v:=v) (b:=b) (t:=t) (l:=args.toList) hu
    rw [qa uO] at xg
    obtain ⟨t',h1,h2,h3⟩:=ux La hn (xH hu) Vz xg he
    refine ⟨t',h1,h2,h3,?_⟩
    simp only [Ns,La,Bool.true_and]
    rw [List.all_map] at xg
    exact xg
   ·cases jy
  ·rename_i t0 m k x
   have hm:=Pz (v:=v) (b:=b) (t:=t) hu m (by simp [bH])
   have hk:=Pz (v:=v) (b:=b) (t:=t) hu k (by simp [bH])
   have hx:=Pz (v:=v) (b:=b) (t:=t) hu x (by simp [bH])
   rw [hm,hk,hx] at hs
   have hs0:=hs
   rw [Bool.and_eq_true] at hs
   obtain ⟨t',h1,h2,h3⟩:=pd hn hm hk hx Vz hs.2 he
   exact ⟨t',h1,h2,h3,hs0⟩
  ·rename_i t0 len parts
   rw [Bool.and_eq_true] at hs
   obtain ⟨jy,xg⟩:=hs
   cases dst with
   |none=>cases xg
   |some e=>
    simp only at xg
    have ZI:e≠d:= λh=>Vz (by rw [h])
    have Zx:(parts.toList.map (λp=>p.2)).all (aW d)=true:=hu
    have uO:=Pz (v:=v) (b:=b) (t:=t) Zx
    have hx: ∀p∈parts.toList,(Eh d v b t).ev p.2=t.ev p.2:= λp hp=>uO p.2 (List.mem_map.2 ⟨p,hp,rfl⟩)
    have hp:(parts.toList.all λp=>Np (t.ev p.2))=true:=List.all_eq_true.2 λp hp=>by rw [<-hx p hp];exact List.all_eq_true.1 jy p hp
    have Er:=kT xg
    obtain ⟨t',h1,h2,h3⟩:=rn hl hn hx ZI hp Er he
    refine ⟨t',h1,h2,h3,?_⟩
    simp only [Ns,hp,Bool.true_and]
    exact yp (Er.back ZI hn)
  ·cases hs
def oB:List (Nat×AV×OB)->St->St->Prop
 | [],s,t=>s=t
 |q::Q,s,t=>Ds q.1 t/\oB Q s (Eh q.1 q.2.1 q.2.2 t)
theorem o0 {o:Oper} : ∀(Q:List (Nat×AV×OB)) (s t s':St),oB Q s t->(∀q∈Q,jE q.1 q.2.1 q.2.2/\(bH o).all (aW q.1)=true/\o.dst≠some q.1)->Ns Γ s o=true->Ca T Γ ops s o=some s'->
  ∃t',Ca T Γ ops t o=some t'/\oB Q s' t'/\Ns Γ t o=true
 | [],s,t,s',h,_,hs,he=>by
  have h:s=t:=h
  subst h
  exact ⟨s',he,rfl,hs⟩
 |q::Q,s,t,s',⟨h1,h2⟩,hq,hs,he=>by
  obtain ⟨u',e1,e2,e3⟩:=o0 Q s _ s' h2 (λp hp=>hq p (List.mem_cons_of_mem _ hp)) hs he
  obtain ⟨l1,l2,l3⟩:=hq q (by simp)
  obtain ⟨t',f1,f2,f3,f4⟩:=qb l1 h1 e3 l2 l3 e1
  exact ⟨t',f1,⟨f3,by rw [<-f2];exact e2⟩,f4⟩
theorem o1 {q:Nat×AV×OB} : ∀(Q1:List (Nat×AV×OB)) {Q2:List (Nat×AV×OB)} {s t:St},oB (Q1++q::Q2) s t->(∀p∈Q1++q::Q2,jE p.1 p.2.1 p.2.2)->(∀p∈Q1,p.1≠q.1)->
  Ds q.1 t/\oB (Q1++Q2) s (Eh q.1 q.2.1 q.2.2 t)
 | [],Q2,s,t,h,_,_=>h
 |p::Q1,Q2,s,t,⟨h1,h2⟩,hL,Er=>by
  have MY:=Er p (by simp)
  have hLp:=hL p (by simp)
  have YZ:=hL q (by simp)
  obtain ⟨g1,g2⟩:=o1 Q1 h2 (λr hr=>hL r (List.mem_cons_of_mem _ hr)) λr hr=>Er r (List.mem_cons_of_mem _ hr)
  refine ⟨g1.back (Ne.symm MY) h1,h1.plus MY (λh=>MY (YZ.v1 _ h)) (by rw [YZ.b1];simp),?_⟩
  show oB (Q1++Q2) s (Eh p.1 p.2.1 p.2.2 (Eh q.1 q.2.1 q.2.2 t))
  rw [ni (Ne.symm MY)]
  exact g2
def eb (ops:Array Oper):Nat->Nat->Nat->Bool
 |0,_,_=>false
 |f+1,i,a=>Region.waitsFor .any ops i a||(List.range ops.size).any λk=>Region.waitsFor .any ops i k&&eb ops f k a
def Re (ops:Array Oper) (Aa:Array Bool):Prop:= ∀k a,Aa.getD k false=true->Region.waitsFor .any ops k a=true->Aa.getD a false=true
theorem bh {Aa:Array Bool} {i a:Nat} (h:i∈Region.ready .any ops Aa) (hw:Region.waitsFor .any ops i a=true):Aa.getD a false=true:=by
 obtain ⟨_,o,ho,Hc⟩:=mem_ready.1 h
 obtain ⟨o',MW,e,he,hb,rfl⟩:=Region.waitsFor_spec hw
 rw [ho] at MW
 cases MW
 exact Hc e he hb
theorem de {Aa:Array Bool} (hc:Re ops Aa) {a:Nat} : ∀(f i:Nat),(∀x,Region.waitsFor .any ops i x=true->Aa.getD x false=true)->eb ops f i a=true->Aa.getD a false=true
 |0,_,_,h=>by cases h
 |f+1,i,hi,h=>by
  simp only [eb,Bool.or_eq_true,List.any_eq_true,Bool.and_eq_true] at h
  rcases h with h|⟨k,_,h1,h2⟩
  ·exact hi a h
  ·exact de hc f k (λx hx=>hc k x (hi k h1) hx) h2
theorem Re.set {Aa:Array Bool} (hc:Re ops Aa) {i:Nat} (hi:i∈Region.ready .any ops Aa):Re ops (Aa.setIfInBounds i true):= λk a hk hw=>by
 by_cases SX:i=k
 ·subst SX
  exact getD_set_true (bh hi hw)
 ·rw [getD_set_ne false SX] at hk
  exact getD_set_true (hc k a hk hw)
def vF (P:List (Nat×Nat×AV×OB)) (Γ:Env) (ops:Array Oper) (st:St) (o:Oper) (i:Nat):Bool:=
 (P.all λa=>eb ops 5 i a.1)||(Ns Γ st o&&P.all λa=>eb ops 5 i a.1||((bH o).all (aW a.2.1)&&(match o.dst with
  |some e=>!Nat.beq e a.2.1
  |none=>true)))
def IS (T:Tab) (Γ:Env) (ops:Array Oper) (P:List (Nat×Nat×AV×OB)) (K:St->Prop):Nat->Array Bool->St->Prop
 |0,Aa,st=>Region.ready .any ops Aa= []/\K st
 |f+1,Aa,st=>Region.ready .any ops Aa≠ []/\ ∀i∈Region.ready .any ops Aa,∃o st',ops[i]?=some o/\vF P Γ ops st o i=true/\Ca T Γ ops st o=some st'/\IS T Γ ops P K f (Aa.setIfInBounds i true) st'
structure zm (lc la:Array Bool) (Q:List Nat):Prop where
 size:la.size=lc.size
 off: ∀k∈Q,k<la.size/\la.getD k false=false/\lc.getD k false=true
 same: ∀k,k∉Q->la.getD k false=lc.getD k false
theorem zm.ready {lc la:Array Bool} {Q:List Nat} (h:zm lc la Q) {i:Nat} (hi:i∈Region.ready .any ops la) (hn:i∉Q):i∈Region.ready .any ops lc:=by
 obtain ⟨h1,o,ho,Hc⟩:=mem_ready.1 hi
 have Gp:i<la.size:=by
  rcases Nat.lt_or_ge i la.size with h'|h'
  ·exact h'
  ·simp [Array.getElem?_eq_none h'] at h1
 have h2:=getD_both h1
 rw [h.same i hn] at h2
 refine mem_ready.2 ⟨getD_in (by rw [<-h.size];exact Gp) h2,o,ho,λe he hb=>?_⟩
 have h3:=Hc e he hb
 by_cases hq:e.on∈Q
 ·exact (h.off _ hq).2.2
 ·rw [<-h.same _ hq];exact h3
theorem zm.nil {lc la:Array Bool} (h:zm lc la []):la=lc:=by
 refine Array.ext h.size λk h1 h2=>?_
 have:=h.same k (by simp)
 simpa [h1,h2] using this
theorem zm.one {lc la:Array Bool} {Q Q':List Nat} {i:Nat} (h:zm lc la Q) (hi:i∈Q) (hs: ∀k,k∈Q'↔k∈Q/\k≠i):zm lc (la.setIfInBounds i true) Q':=by
 refine ⟨by simp [h.size],λk hk=>?_,λk hk=>?_⟩
 ·obtain ⟨h1,h2⟩:=(hs k).1 hk
  obtain ⟨g1,g2,g3⟩:=h.off k h1
  exact ⟨by simpa using g1,by rw [getD_set_ne false (Ne.symm h2)];exact g2,g3⟩
 ·by_cases e:i=k
  ·subst e
   obtain ⟨g1,g2,g3⟩:=h.off i hi
   rw [g3]
   simp [g1]
  ·rw [getD_set_ne false e]
   exact h.same k λhq=>hk ((hs k).2 ⟨hq,Ne.symm e⟩)
theorem zm.both {lc la:Array Bool} {Q:List Nat} {i:Nat} (h:zm lc la Q) (hi:i∉Q):zm (lc.setIfInBounds i true) (la.setIfInBounds i true) Q:=by
 refine ⟨by simp [h.size],λk hk=>?_,λk hk=>?_⟩
 ·obtain ⟨g1,g2,g3⟩:=h.off k hk
  have Er:i≠k:= λe=>hi (by rw [e];exact hk)
  exact ⟨by simpa using g1,by rw [getD_set_ne false Er];exact g2,by rw [getD_set_ne false Er];exact g3⟩
 ·by_cases e:i=k
  ·subst e
   have hs:=h.same i hi
   have hz:=h.size
   by_cases hl:i<la.size
   ·simp [hl,hz▸hl]
   ·have Hy: ¬i<lc.size:=by omega
    simp [hl,Hy]
  ·rw [getD_set_ne false e,getD_set_ne false e];exact h.same k hk
theorem vD {dst:Option Tmp} {d:Nat} (h:(match dst with
  |some e=>!Nat.beq e d
  |none=>true)=true):dst≠some d:= λe=>by
 subst e
 simp at h
theorem xF {P:List (Nat×Nat×AV×OB)} {K:St->Prop} (hP: ∀a∈P,∃o,ops[a.1]?=some o/\Xd T o=some a.2):
  ∀(n f:Nat) (Q:List (Nat×Nat×AV×OB)) (lc la:Array Bool) (s t:St),n=f+Q.length->IS T Γ ops P K f lc s->oB (Q.map (·.2)) s t->zm lc la (Q.map (·.1))->(∀a∈Q,a∈P)->
   (Q.Pairwise λa c=>a.2.1≠c.2.1/\a.1≠c.1)->Re ops la->(∀a∈Q,∀x,Region.waitsFor .any ops a.1 x=true->la.getD x false=true)->anyS T Γ ops K n la t:=by
 intro n
 induction n with
 |zero=>
  intro f Q lc la s t hn hC hp hb hQ XA Nz hw
  have hf:f=0:=by omega
  have hq:Q= []:=List.eq_nil_of_length_eq_zero (by omega)
  subst hf hq
  have hp:s=t:=hp
  subst hp
  rw [hb.nil]
  exact hC
 |succ n ih=>
  intro f Q lc la s t hn hC hp hb hQ XA Nz hw
  refine ⟨?_,λi hi=>?_⟩
  ·cases Q with
   |nil=>
    rw [hb.nil]
    cases f with
    |zero=>simp at hn
    |succ f=>exact hC.1
   |cons a Q=>
    obtain ⟨o,ho,_⟩:=hP a (hQ a (by simp))
    obtain ⟨g1,g2,_⟩:=hb.off a.1 (by simp)
    have:a.1∈Region.ready .any ops la:=mem_ready.2 ⟨getD_in g1 g2,o,ho,λe he hbd=>hw a (by simp) e.on (by
     unfold Region.waitsFor
     rw [ho]
     exact Array.any_eq_true'.2 ⟨e,he,by simp [hbd]⟩)⟩
    intro e
    rw [e] at this
    cases this
  ·by_cases SV:i∈Q.map (·.1)
   ·obtain ⟨a,ha,rfl⟩:=List.mem_map.1 SV
    obtain ⟨Q1,Q2,rfl⟩:=List.append_of_mem ha
    obtain ⟨o,ho,OC⟩:=hP a (hQ a ha)
    obtain ⟨_,_,Ra⟩:=Xe (Γ:=Γ) (ops:=ops) OC
    have AG:=List.pairwise_append.1 XA
    have PJ:=List.pairwise_cons.1 AG.2.1
    rw [List.map_append,List.map_cons] at hp
    have hL: ∀p∈Q1.map (·.2)++a.2::Q2.map (·.2),jE p.1 p.2.1 p.2.2:= λp pa=>by
     have:p∈(Q1++a::Q2).map (·.2):=by rw [List.map_append,List.map_cons];exact pa
     obtain ⟨c,hc,rfl⟩:=List.mem_map.1 this
     obtain ⟨o',_,VB⟩:=hP c (hQ c hc)
     exact (Xe (Γ:=Γ) (ops:=ops) VB).2.1
    obtain ⟨p1,p2⟩:=o1 _ hp hL λp pa=>by
     obtain ⟨c,hc,rfl⟩:=List.mem_map.1 pa
     exact (AG.2.2 c hc a (by simp)).1
    refine ⟨o,_,ho,Ra t p1,ih f (Q1++Q2) lc _ s _ ?_ hC (by rw [List.map_append];exact p2) (hb.one SV λk=>?_) (λc hc=>hQ c ?_) ?_ (Nz.set hi) λc hc x hx=>getD_set_true (hw c ?_ x hx)⟩
    ·simp only [List.length_append,List.length_cons] at hn⊢;omega
    ·simp only [List.map_append,List.map_cons,List.mem_append,List.mem_cons]
     constructor
     ·intro h
      rcases h with h|h
      ·obtain ⟨c,hc,rfl⟩:=List.mem_map.1 h
       exact ⟨.inl h,(AG.2.2 c hc a (by simp)).2⟩
      ·obtain ⟨c,hc,rfl⟩:=List.mem_map.1 h
       exact ⟨.inr (.inr h),Ne.symm (PJ.1 c hc).2⟩
     ·rintro ⟨h|h|h,Er⟩
      ·exact .inl h
      ·exact absurd h Er
      ·exact .inr h
    ·rcases List.mem_append.1 hc with hc|hc
     ·exact List.mem_append_left _ hc
     ·exact List.mem_append_right _ (List.mem_cons_of_mem _ hc)
    ·exact List.pairwise_append.2 ⟨AG.1,PJ.2,λc hc e he=>AG.2.2 c hc e (List.mem_cons_of_mem _ he)⟩
    ·rcases List.mem_append.1 hc with hc|hc
     ·exact List.mem_append_left _ hc
     ·exact List.mem_append_right _ (List.mem_cons_of_mem _ hc)
   ·have VU:=hb.ready hi SV
    cases f with
    |zero=>
     rw [hC.1] at VU
     cases VU
    |succ f=>
     obtain ⟨o,s',ho,jb,he,cG⟩:=hC.2 i VU
     have ES: ∀a∈Q,eb ops 5 i a.1=false:= λa ha=>by
      cases hwt:eb ops 5 i a.1 with
      |false=>rfl
      |true=>
       have h1:=de Nz _ i (λx hx=>bh hi hx) hwt
       rw [(hb.off a.1 (List.mem_map.2 ⟨a,ha,rfl⟩)).2.1] at h1
       cases h1
     have key: ∃t',Ca T Γ ops t o=some t'/\oB (Q.map (·.2)) s' t':=by
      unfold vF at jb
      rw [Bool.or_eq_true,Bool.and_eq_true] at jb
      rcases jb with jb|⟨h1,h2⟩
      ·cases Q with
       |nil=>
        have hp:s=t:=hp
        subst hp
        exact ⟨s',he,rfl⟩
       |cons a Q=>
        have:=List.all_eq_true.1 jb a (hQ a (by simp))
        rw [ES a (by simp)] at this
        cases this
      ·obtain ⟨t',g1,g2,_⟩:=o0 (T:=T) (ops:=ops) _ s t s' hp (λq hq=>by
        obtain ⟨a,ha,rfl⟩:=List.mem_map.1 hq
        obtain ⟨o',_,OC⟩:=hP a (hQ a ha)
        have h3:=List.all_eq_true.1 h2 a (hQ a ha)
        rw [ES a ha,Bool.false_or,Bool.and_eq_true] at h3
        exact ⟨(Xe (Γ:=Γ) (ops:=ops) OC).2.1,h3.1,vD h3.2⟩) h1 he
       exact ⟨t',g1,g2⟩
     obtain ⟨t',g1,g2⟩:=key
     exact ⟨o,t',ho,g1,ih f Q _ _ s' t' (by omega) cG g2 (hb.both SV) hQ XA (Nz.set hi) λc hc x hx=>getD_set_true (hw c hc x hx)⟩
def Px (T:Tab) (ops:Array Oper) (Aa:Array Bool):List (Nat×Nat×AV×OB):=(Region.ready .any ops Aa).filterMap λi=>((ops[i]?).bind (Xd T)).map λr=>(i,r)
theorem oG {Aa:Array Bool} {a:Nat×Nat×AV×OB} (h:a∈Px T ops Aa):a.1∈Region.ready .any ops Aa/\ ∃o,ops[a.1]?=some o/\Xd T o=some a.2:=by
 unfold Px at h
 obtain ⟨i,hi,he⟩:=List.mem_filterMap.1 h
 cases ho:ops[i]? with
 |none=>rw [ho] at he;cases he
 |some o=>
  rw [ho] at he
  simp only [Option.bind_some,Option.map_eq_some_iff] at he
  obtain ⟨r,h1,rfl⟩:=he
  exact ⟨hi,o,ho,h1⟩
theorem rv:Re ops (Array.replicate ops.size false):= λk a hk _=>by
 rw [getD_replicate_false] at hk
 cases hk
theorem Xj (q:Bool): ∀(l:List Nat) (Aa:Array Bool),Re ops Aa->Re ops (Dr (Ek q ops l Aa) Aa)
 | [],Aa,h=>h
 |i::r,Aa,h=>by
  simp only [Ek]
  split
  ·rename_i hc
   rw [Bool.and_eq_true,Bool.and_eq_true] at hc
   have hi:i∈Region.ready .any ops Aa:=by simpa using hc.2.1
   exact Xj q r _ (h.set hi)
  ·exact Xj q r Aa h
theorem aQ: ∀(l:List Nat) (Aa:Array Bool),(Dr l Aa).size=Aa.size
 | [],_=>rfl
 |i::r,Aa=>by simp only [Dr];rw [aQ r];simp
theorem fc: ∀(l:List Nat) (Aa:Array Bool) (k:Nat),k∈l->k<Aa.size->(Dr l Aa).getD k false=true
 |i::r,Aa,k,h,hk=>by
  simp only [Dr]
  by_cases hr:k∈r
  ·exact fc r _ k hr (by simpa using hk)
  ·have:k=i:=(List.mem_cons.1 h).resolve_right hr
   subst this
   have hs: ∀(l:List Nat) (A:Array Bool),A.getD k false=true->(Dr l A).getD k false=true:=by
    intro l
    induction l with
    |nil=>exact λA h=>h
    |cons j l ih=>exact λA h=>ih _ (getD_set_true h)
   exact hs r _ (by simp [hk])
theorem cK: ∀(l:List Nat) (Aa:Array Bool) (k:Nat),k∉l->(Dr l Aa).getD k false=Aa.getD k false
 | [],_,_,_=>rfl
 |i::r,Aa,k,h=>by
  simp only [Dr]
  rw [cK r _ k λhk=>h (List.mem_cons_of_mem _ hk),getD_set_ne false (λe=>h (by rw [e];simp))]
theorem DW {Aa:Array Bool} {Q:List Nat} (h: ∀i∈Q,i∈Region.ready .any ops Aa):zm (Dr Q Aa) Aa Q:=by
 have hr: ∀i∈Q,i<Aa.size/\Aa.getD i false=false:= λi hi=>by
  have h1:=(mem_ready.1 (h i hi)).1
  refine ⟨?_,getD_both h1⟩
  rcases Nat.lt_or_ge i Aa.size with h'|h'
  ·exact h'
  ·simp [Array.getElem?_eq_none h'] at h1
 exact ⟨(aQ Q Aa).symm,λk hk=>⟨(hr k hk).1,(hr k hk).2,fc Q Aa k hk (hr k hk).1⟩,λk hk=>(cK Q Aa k hk).symm⟩
theorem sY: ∀(Q:List (Nat×Nat×AV×OB)) (t s:St),(∀a∈Q,∃o,ops[a.1]?=some o/\Xd T o=some a.2)->(∀a∈Q,Ds a.2.1 t)->(Q.Pairwise λa c=>a.2.1≠c.2.1)->Ic T Γ ops (Q.map (·.1)) t=some s->oB (Q.map (·.2)) s t
 | [],t,s,_,_,_,h=>by
  have h:some t=some s:=h
  exact (Option.some.inj h).symm
 |a::Q,t,s,hQ,hn,hp,h=>by
  obtain ⟨o,ho,OC⟩:=hQ a (by simp)
  obtain ⟨_,hL,Ra⟩:=Xe (Γ:=Γ) (ops:=ops) OC
  obtain ⟨qQ,xW⟩:=List.pairwise_cons.1 hp
  simp only [List.map_cons,Ic,ho] at h
  rw [Ra t (hn a (by simp))] at h
  refine ⟨hn a (by simp),sY Q _ s (λc hc=>hQ c (List.mem_cons_of_mem _ hc)) (λc hc=>?_) xW h⟩
  exact (hn c (List.mem_cons_of_mem _ hc)).plus (Ne.symm (qQ c hc)) (λh=>qQ c hc (hL.v1 _ h).symm) (by rw [hL.b1];simp)
end
end Go.Proofs.Ytjbdmibbbpdnnaa
