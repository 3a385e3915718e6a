/-
  Part 30 of the proof that the statement FnExactExactStateCount holds.
-/
import Derived.Test.YtjbdmibbbpdnnaaCExactStateCount28
namespace Go.Proofs.Ytjbdmibbbpdnnaa
open Go.RowKit
def Ew (d:Nat) (v:AV) (b:OB) (st:St):St:= {tmps:=No st.tmps d v,heap:=Ix st.heap d b}
def iW (d:Nat) (st:St):Bool:=(st.get d).refs.isEmpty&&((st.tmps.all λv=>!v.refs.contains d)&&st.heap.all λp=>!Nat.beq p.1 d&&!p.2.refs.contains d)
structure Eh (d:Nat) (st:St):Prop where
 own:(st.get d).refs= []
 tmps: ∀v∈st.tmps,d∉v.refs
 heap: ∀p∈st.heap,p.1≠d/\d∉p.2.refs
theorem mP {d:Nat} {st:St} (h:iW d st=true):Eh d st:=by
 unfold iW at h
 rw [Bool.and_eq_true,Bool.and_eq_true,List.all_eq_true,List.all_eq_true] at h
 obtain ⟨h0,h⟩:=h
 refine ⟨List.isEmpty_iff.1 h0,λv hv=>?_,λp hp=>?_⟩
 ·have:=h.1 v hv
  intro hd
  rw [List.contains_iff_mem.2 hd] at this
  cases this
 ·have:=h.2 p hp
  rw [Bool.and_eq_true] at this
  refine ⟨λe=>?_,λhd=>?_⟩
  ·have h1:=this.1
   rw [e,Nat.beq_refl] at h1
   cases h1
  ·have h1:=this.2
   rw [List.contains_iff_mem.2 hd] at h1
   cases h1
theorem CR {d:Nat} {st:St} (h:Eh d st):iW d st=true:=by
 unfold iW
 rw [Bool.and_eq_true,Bool.and_eq_true,List.all_eq_true,List.all_eq_true]
 refine ⟨by rw [h.own];rfl,λv hv=>?_,λp hp=>?_⟩
 ·rw [Bool.not_eq_true',<-Bool.not_eq_true,List.contains_iff_mem];exact h.tmps v hv
 ·rw [Bool.and_eq_true]
  refine ⟨?_,?_⟩
  ·rw [Bool.not_eq_true',<-Bool.not_eq_true]
   exact λe=>(h.heap p hp).1 (Nat.eq_of_beq_eq_true e)
  ·rw [Bool.not_eq_true',<-Bool.not_eq_true,List.contains_iff_mem];exact (h.heap p hp).2
structure lA (d:Nat) (v:AV) (b:OB):Prop where
 v1: ∀l,l∈v.refs->l=d
 b1:b.refs= []
 v2: ∀l,l≠d->v.map (Az l)=v
 b2: ∀l,b.map (Az l)=b
theorem Xr {α:Type} : ∀(xs:List α) (d t:Nat) (v x:α),d≠t->(No xs d v).getD t x=xs.getD t x
 | [],_,_,_,_,_=>rfl
 |y::r,0,0,_,_,h=>absurd rfl h
 |y::r,0,t+1,_,_,_=>by simp [No]
 |y::r,d+1,0,_,_,_=>by simp [No]
 |y::r,d+1,t+1,v,x,h=>by simpa [No] using Xr r d t v x (by omega)
theorem je {α:Type} : ∀(xs:List α) (d e:Nat) (v w:α),d≠e->No (No xs d v) e w=No (No xs e w) d v
 | [],_,_,_,_,_=>rfl
 |y::r,0,0,_,_,h=>absurd rfl h
 |y::r,0,e+1,_,_,_=>rfl
 |y::r,d+1,0,_,_,_=>rfl
 |y::r,d+1,e+1,v,w,h=>by simp only [No];rw [je r d e v w (by omega)]
theorem q9: ∀(H:List (Nat×OB)) (d l:Nat) (b:OB),d≠l->Ad (Ix H d b) l=Ad H l
 | [],d,l,b,h=>by simp [Ix,Ad,h]
 |(k,c)::r,d,l,b,h=>by
  simp only [Ix]
  split
  ·simp only [Ad];rw [if_neg h]
  ·simp only [Ad]
   split
   ·rfl
   ·exact q9 r d l b h
theorem qd: ∀(H:List (Nat×OB)) (d e:Nat) (b c:OB),d≠e->Ix (Ix H d b) e c=Ix (Ix H e c) d b
 | [],d,e,b,c,h=>by
  simp only [Ix]
  by_cases h1:e<d
  ·rw [if_pos h1,if_neg (by omega)]
  ·rw [if_neg h1,if_pos (by omega)]
 |(k,a)::r,d,e,b,c,h=>by
  simp only [Ix]
  by_cases h1:d<k<;>by_cases h2:e<k
  ·rw [if_pos h1,if_pos h2]
   simp only [Ix]
   by_cases h3:e<d
   ·rw [if_pos h3,if_neg (by omega),if_pos h1]
   ·rw [if_neg h3,if_pos h2,if_pos (by omega)]
  ·rw [if_pos h1,if_neg h2]
   simp only [Ix]
   rw [if_neg (by omega),if_neg h2,if_pos h1]
  ·rw [if_neg h1,if_pos h2]
   simp only [Ix]
   rw [if_pos h2,if_neg (by omega),if_neg h1]
  ·rw [if_neg h1,if_neg h2]
   simp only [Ix]
   rw [if_neg h1,if_neg h2,qd r d e b c h]
theorem qO: ∀(H:List (Nat×OB)) (d l:Nat) (b c:OB),d≠l->Ww (Ix H d b) l c=Ix (Ww H l c) d b
 | [],d,l,b,c,h=>by simp [Ix,Ww,h]
 |(k,a)::r,d,l,b,c,h=>by
  simp only [Ix,Ww]
  by_cases h1:d<k<;>by_cases h2:k=l
  ·rw [if_pos h1,if_pos h2]
   simp only [Ww,Ix]
   rw [if_neg h,if_pos h2,if_pos h1]
  ·rw [if_pos h1,if_neg h2]
   simp only [Ww,Ix]
   rw [if_neg h,if_neg h2,if_pos h1]
  ·rw [if_neg h1,if_pos h2]
   simp only [Ww,Ix]
   rw [if_pos h2,if_neg h1]
  ·rw [if_neg h1,if_neg h2]
   simp only [Ww,Ix]
   rw [if_neg h2,if_neg h1,qO r d l b c h]
theorem jE {l:Nat} : ∀ {c:AC},l∉c.refs->Az l c=c:=by
 intro c h
 cases c<;>simp only [Az]<;>simp only [AC.refs,List.mem_singleton] at h
 case clo f Bw=>rw [if_neg (by simpa using h)]
 all_goals (first|rfl|rw [if_neg (Ne.symm h)])
theorem Th {l:Nat} : ∀ {cs:List AC},l∉cs.flatMap AC.refs->cs.map (Az l)=cs
 | [],_=>rfl
 |c::r,h=>by
  rw [List.flatMap_cons,List.mem_append] at h
  rw [List.map_cons,jE (λhh=>h (.inl hh)),Th (λhh=>h (.inr hh))]
theorem uM {l:Nat} : ∀ {v:AV},l∉v.refs->v.map (Az l)=v
 | .at a,h=>by simp only [AV.map];rw [jE h]
 | .agg cs,h=>by simp only [AV.map];rw [Th h]
 | .Uf _ _ _,_=>rfl
 | .Ir ps,h=>by
  simp only [AV.map]
  congr 1
  simp only [AV.refs] at h
  induction ps with
  |nil=>rfl
  |cons p r ih=>
   rw [List.flatMap_cons,List.mem_append] at h
   rw [List.map_cons,Th (λhh=>h (.inl hh)),ih (λhh=>h (.inr hh))]
theorem uN {l:Nat} : ∀ {b:OB},l∉b.refs->b.map (Az l)=b
 | .arr _ _ _ _ _,_=>rfl
 | .Dc _ _ _,_=>rfl
 | .var _ vs,h=>by simp only [OB.map];rw [Th h]
 | .Ak _ _ _ _ _,_=>rfl
 | .Oh _ _,_=>rfl
theorem uz {l:Nat} : ∀ {H:List (Nat×OB)},(∀p∈H,p.1≠l)->Ss H l=H
 | [],_=>rfl
 |(k,b)::r,h=>by
  simp only [Ss]
  rw [if_neg (h (k,b) (by simp)),uz λp hp=>h p (by simp [hp])]
theorem Eh.forget {l:Nat} {st:St} (h:Eh l st):st.forget l=st:=by
 have e1:st.tmps.map (λv=>v.map (Az l))=st.tmps:=(List.map_congr_left λv hv=>uM (h.tmps v hv)).trans (List.map_id _)
 have e2:st.heap.map (λp=>(p.1,p.2.map (Az l)))=st.heap:=(List.map_congr_left λp hp=>by rw [uN (h.heap p hp).2];rfl).trans (List.map_id _)
 unfold St.forget St.Ge
 simp only [e1,e2]
 rw [uz λp hp=>(h.heap p hp).1]
theorem Eh.new {l:Nat} {st:St} (h:Eh l st) (b:OB) (v:AV):(st.new l b).put (some l) v=Ew l v b st:=by
 unfold St.new
 rw [h.forget]
 rfl
theorem mM {α:Type} : ∀ {xs:List α} {d:Nat} {v x:α},x∈No xs d v->x∈xs\/x=v
 | [],_,_,_,h=>by cases h
 |y::r,0,v,x,h=>by
  rcases List.mem_cons.1 h with h|h
  ·exact .inr h
  ·exact .inl (List.mem_cons_of_mem _ h)
 |y::r,d+1,v,x,h=>by
  rcases List.mem_cons.1 h with h|h
  ·exact .inl (by rw [h];simp)
  ·exact (mM h).imp (List.mem_cons_of_mem _) id
theorem vL: ∀ {H:List (Nat×OB)} {d:Nat} {b:OB} {p:Nat×OB},p∈Ix H d b->p∈H\/p=(d,b)
 | [],d,b,p,h=> .inr (by simpa [Ix] using h)
 |(k,c)::r,d,b,p,h=>by
  simp only [Ix] at h
  split at h
  ·rcases List.mem_cons.1 h with h|h
   ·exact .inr h
   ·exact .inl h
  ·rcases List.mem_cons.1 h with h|h
   ·exact .inl (by rw [h];simp)
   ·exact (vL h).imp (List.mem_cons_of_mem _) id
theorem LJ {d:Nat} {v:AV} {b:OB} {st:St} {x:Operand} (h:x≠ .tmp d):(Ew d v b st).ev x=st.ev x:=by
 cases x with
 |tmp t=>exact Xr _ _ _ _ _ (λe=>h (by rw [e]))
 |_=>rfl
theorem zJ {d l:Nat} {v:AV} {b:OB} {st:St} (h:d≠l):(Ew d v b st).at l=st.at l:=q9 _ _ _ _ h
theorem GB {d e:Nat} {v u:AV} {b:OB} {st:St} (h:d≠e):(Ew d v b st).put (some e) u=Ew d v b (st.put (some e) u):=by
 unfold Ew St.put
 simp only
 rw [je _ _ _ _ _ h]
theorem BH {d l:Nat} {v:AV} {b c:OB} {st:St} (h:d≠l):(Ew d v b st).Fz l c=Ew d v b (st.Fz l c):=by
 unfold Ew St.Fz
 simp only
 rw [qO _ _ _ _ _ h]
theorem pM {d e:Nat} {v u:AV} {b c:OB} {st:St} (h:d≠e):Ew e u c (Ew d v b st)=Ew d v b (Ew e u c st):=by
 unfold Ew
 rw [je _ _ _ _ _ h,qd _ _ _ _ _ h]
theorem Eh.put {d:Nat} {st:St} {e:Nat} {u:AV} (h:Eh d st) (GS:e≠d) (hu:d∉u.refs):Eh d (st.put (some e) u):=
 ⟨by show (List.getD (No st.tmps e u) d .undef).refs= [];rw [Xr _ _ _ _ _ GS];exact h.own,λv hv=>(mM hv).elim (h.tmps v) λe=>by rw [e];exact hu,h.heap⟩
theorem Eh.plus {d e:Nat} {u:AV} {c:OB} {st:St} (h:Eh d st) (GS:d≠e) (hu:d∉u.refs) (hc:d∉c.refs):Eh d (Ew e u c st):=
 ⟨by show (List.getD (No st.tmps e u) d .undef).refs= [];rw [Xr _ _ _ _ _ (Ne.symm GS)];exact h.own,λv hv=>(mM hv).elim (h.tmps v) λe=>by rw [e];exact hu,λp hp=>(vL hp).elim (h.heap p) λe'=>by rw [e'];exact ⟨Ne.symm GS,hc⟩⟩
theorem Eh.SU {d e:Nat} {u:AV} {c:OB} {st:St} (h:Eh d (Ew e u c st)): ∀p∈st.heap,p.1≠d/\d∉p.2.refs:= λp hp=>h.heap p (by
 show p∈Ix st.heap e c
 generalize st.heap=H at hp
 induction H with
 |nil=>cases hp
 |cons q r ih=>
  obtain ⟨k,a⟩:=q
  simp only [Ix]
  split
  ·exact List.mem_cons_of_mem _ hp
  ·rcases List.mem_cons.1 hp with hp|hp
   ·rw [hp];simp
   ·exact List.mem_cons_of_mem _ (ih hp))
theorem l4 {st st':St} : ∀(τ:Ty) (cs:List AC),cs.all (·.settled)=true->Cn st' τ cs=Cn st τ cs:=by
 intro τ
 induction τ with
 |unit=>intro cs _;cases cs<;>rfl
 |pair a r fD db=>
  intro cs h
  simp only [Cn]
  rw [List.all_eq_true] at h
  rw [fD _ (List.all_eq_true.2 λc hc=>h c (List.mem_of_mem_take hc)),db _ (List.all_eq_true.2 λc hc=>h c (List.mem_of_mem_drop hc))]
 |_=>
  intro cs h
  rcases cs with _|⟨c,_|⟨c',cs⟩⟩
  ·rfl
  ·simp only [List.all_cons,List.all_nil,Bool.and_true] at h
   simp only [Cn]
   exact Tp h
  ·rfl
theorem an {st st':St} {τ:Ty} {v:AV} (h:v.settled=true):Cr st' τ v=Cr st τ v:=by
 cases v with
 | «at»a=>
  have ha:a.settled=true:=h
  cases a<;>simp only [AC.settled,Bool.false_eq_true] at ha
  all_goals
   simp only [Cr]
   rw [Ki rfl,Ki rfl]
   rw [Tp (st:=st) (st':=st') rfl]
 |agg cs=>simp only [Cr];rw [l4 _ _ h]
 |Uf _ _ _=>rfl
 |Ir _=>rfl
theorem cM {st st':St} : ∀(τ:Ty) (vs:List AV),vs.all (·.settled)=true->Bs st' τ vs=Bs st τ vs
 | .pair a r,v::vs,h=>by
  rw [List.all_cons,Bool.and_eq_true] at h
  simp only [Bs]
  rw [an (st:=st) (st':=st') h.1,cM r vs h.2]
 | .pair _ _,[],_=>rfl
 | .unit,[],_=>rfl
 | .unit,_::_,_=>rfl
 | .int _,vs,_=>by cases vs<;>rfl
 | .bool,vs,_=>by cases vs<;>rfl
 | .str,vs,_=>by cases vs<;>rfl
 | .slice _,vs,_=>by cases vs<;>rfl
 | .oslice _,vs,_=>by cases vs<;>rfl
 | .ptr _,vs,_=>by cases vs<;>rfl
 | .optr _,vs,_=>by cases vs<;>rfl
 | .smap _,vs,_=>by cases vs<;>rfl
 | .clo _ _,vs,_=>by cases vs<;>rfl
def Pd:AV->Bool
 | .at (.data _ _ _)=>true
 |_=>false
def cK (o:Oper):List Operand:=match o.op with
 | .move x=> [x]
 | .load _ x=> [x]
 | .call {callee:= .value (.func _),args, .. } =>args.toList
 | .insert _ m k x=> [m,k,x]
 | .buildSlice _ _ parts=>parts.toList.map (·.2)
 |_=> []
def c8 (d:Nat):Operand->Bool
 | .tmp t=>!Nat.beq t d
 |_=>true
theorem CT {d:Nat} {x:Operand} (h:c8 d x=true):x≠ .tmp d:= λe=>by
 subst e
 simp [c8] at h
def Pg (Γ:Env) (st:St) (o:Oper):Bool:=match o.guard with
 |some _=>false
 |none=>match o.op with
  | .move _=>true
  | .load _ x=>(match st.ev x with
   | .at (.Dx _ _)=>true
   |_=>false)
  | .call {callee:= .value (.func f),args, .. } =>(match Γ f with
   |some (.q _)=>true
   |_=>false)&&args.toList.all λx=>(st.ev x).settled
  | .insert _ m k x=>(match st.ev m with
   | .at (.Gf _)=>true
   |_=>false)&&Pd (st.ev k)&&(st.ev x).settled
  | .buildSlice _ _ parts=>(parts.toList.all λp=>Pd (st.ev p.2))&&(match o.dst with
   |some e=>iW e st
   |none=>false)
  |_=>false
theorem Eh.ev {d:Nat} {st:St} (h:Eh d st) (x:Operand):d∉(st.ev x).refs:=by
 cases x with
 |tmp t=>
  simp only [St.ev,St.get]
  rw [List.getD_eq_getElem?_getD]
  by_cases hl:t<st.tmps.length
  ·rw [List.getElem?_eq_getElem hl];exact h.tmps _ (List.getElem_mem hl)
  ·rw [List.getElem?_eq_none (Nat.le_of_not_lt hl)];simp [AV.refs,AC.refs]
 |const c=>
  simp only [St.ev]
  unfold fQ
  split<;>simp [AV.refs,AC.refs]
 |func f=>simp [St.ev,AV.refs,AC.refs]
 |_=>simp [St.ev,AV.refs,AC.refs]
theorem uV: ∀ {H:List (Nat×OB)} {l:Nat} {b:OB},Ad H l=some b->(l,b)∈H
 |(k,c)::r,l,b,h=>by
  simp only [Ad] at h
  split at h
  ·rename_i e;subst e;cases h;simp
  ·exact List.mem_cons_of_mem _ (uV h)
section
variable {T:Tab} {Γ:Env} {ops:Array Oper} {d:Nat} {v:AV} {b:OB} {t:St}
theorem qE {e:Option Tmp} (h:e≠some d) (hn:Eh d t) {y:AV} (hy:d∉y.refs):(Ew d v b t).put e y=Ew d v b (t.put e y)/\Eh d (t.put e y):=by
 cases e with
 |none=>exact ⟨rfl,hn⟩
 |some k=>exact ⟨GB (λe=>h (by rw [e])),hn.put (λe=>h (by rw [e])) hy⟩
theorem cj {o:Oper} (hg:o.guard=none) (Xu:o.dst≠some d) (hn:Eh d t) {q:Option AV} (h1:evalOp T Γ (Ew d v b t) o=q.map λy=>(y,Ew d v b t)) (h2:evalOp T Γ t o=q.map λy=>(y,t)) (hq: ∀y,q=some y->d∉y.refs) {s':St}
  (he:Cf T Γ ops (Ew d v b t) o=some s'): ∃t',Cf T Γ ops t o=some t'/\s'=Ew d v b t'/\Eh d t':=by
 unfold Cf at he⊢
 rw [hg] at he⊢
 simp only at he⊢
 rw [h1] at he
 cases q with
 |none=>cases he
 |some y=>
  obtain ⟨p1,p2⟩:=qE (v:=v) (b:=b) Xu hn (hq y rfl)
  refine ⟨_,by rw [h2];rfl,?_,p2⟩
  simp only [Option.map_some,Option.some.injEq] at he
  rw [<-he,p1]
theorem Rl {l:List Operand} (hu:l.all (c8 d)=true): ∀x∈l,(Ew d v b t).ev x=t.ev x:= λx hx=>LJ (CT (List.all_eq_true.1 hu x hx))
theorem yq {dst:Option Tmp} {x:Operand} {ty:TypeId} {pos:String} {after:Array Edge} (hn:Eh d t) (hx:(Ew d v b t).ev x=t.ev x) (Xu:dst≠some d) {s':St}
  (he:Cf T Γ ops (Ew d v b t) {dst:=dst,op:= .move x,type:=ty,pos:=pos,after:=after,guard:=none} =some s'):
  ∃t',Cf T Γ ops t {dst:=dst,op:= .move x,type:=ty,pos:=pos,after:=after,guard:=none} =some t'/\s'=Ew d v b t'/\Eh d t':=
 cj rfl Xu hn (q:=some (t.ev x)) (by simp only [evalOp,Ce,hx]) (by simp only [evalOp,Ce]) (λy hy=>by cases hy;exact hn.ev x) he
def loadVar (T:Tab) (o:Option OB) (t0:TypeId) (i:Nat):Option AV:=match T.ty t0 with
 |some τ=>(match o with
  |some (.var _ vs)=>if τ.Ac then (if i+τ.size<=vs.length then some (.agg ((vs.drop i).take τ.size)) else none) else vs[i]?.map .at
  |_=>none)
 |none=>none
theorem dG {st:St} {t0:TypeId} {l i:Nat} :Kd T st t0 (.at (.Dx l i))=loadVar T (st.at l) t0 i:=by
 unfold Kd loadVar
 cases T.ty t0<;>rfl
theorem yi {dst:Option Tmp} {t0:TypeId} {x:Operand} {ty:TypeId} {pos:String} {after:Array Edge} (hn:Eh d t) (hx:(Ew d v b t).ev x=t.ev x) (Xu:dst≠some d) {l i:Nat} (hp:t.ev x= .at (.Dx l i)) {s':St}
  (he:Cf T Γ ops (Ew d v b t) {dst:=dst,op:= .load t0 x,type:=ty,pos:=pos,after:=after,guard:=none} =some s'):
  ∃t',Cf T Γ ops t {dst:=dst,op:= .load t0 x,type:=ty,pos:=pos,after:=after,guard:=none} =some t'/\s'=Ew d v b t'/\Eh d t':=by
 have hld:d≠l:= λe=>by
  have:=hn.ev x
  rw [hp,e] at this
  exact this (by simp [AV.refs,AC.refs])
 refine cj rfl Xu hn (q:=loadVar T (t.at l) t0 i) ?_ ?_ (λy hy=>?_) he
 ·simp only [evalOp,Ce,hx,hp]
  rw [dG,zJ hld]
 ·simp only [evalOp,Ce,hp]
  rw [dG]
 ·unfold loadVar at hy
  split at hy
  ·split at hy
   ·rename_i vs hb
    have hr:d∉vs.flatMap AC.refs:=(hn.heap _ (uV hb)).2
    have eX: ∀c∈vs,d∉c.refs:= λc hc hd=>hr (List.mem_flatMap.2 ⟨c,hc,hd⟩)
    split at hy
    ·split at hy
     ·cases hy
      intro hd
      obtain ⟨c,hc,hd⟩:=List.mem_flatMap.1 hd
      exact eX c (List.mem_of_mem_drop (List.mem_of_mem_take hc)) hd
     ·cases hy
    ·cases hv:vs[i]? with
     |none=>rw [hv] at hy;cases hy
     |some c=>
      rw [hv] at hy
      cases hy
      exact eX c (List.mem_of_getElem? hv)
   ·cases hy
  ·cases hy
theorem BK {l:List Operand} (hu:l.all (c8 d)=true):l.map (Ew d v b t).ev=l.map t.ev:=List.map_congr_left λx hx=>Rl hu x hx
theorem xx {dst:Option Tmp} {f:FuncId} {args:Array Operand} {tys:Array TypeId} {ty:TypeId} {pos:String} {after:Array Edge} {sp:Spec} (Mb:Γ f=some (.q sp)) (hn:Eh d t) (hx:args.toList.map (Ew d v b t).ev=args.toList.map t.ev) (Xu:dst≠some d)
  (hs:(args.toList.map t.ev).all (·.settled)=true) {s':St} (he:Cf T Γ ops (Ew d v b t) {dst:=dst,op:= .call {callee:= .value (.func f),args:=args,argTypes:=tys},type:=ty,pos:=pos,after:=after,guard:=none} =some s'):
  ∃t',Cf T Γ ops t {dst:=dst,op:= .call {callee:= .value (.func f),args:=args,argTypes:=tys},type:=ty,pos:=pos,after:=after,guard:=none} =some t'/\s'=Ew d v b t'/\Eh d t':=by
 have AH:Zr sp (args.toList.map t.ev)=false:=by unfold Zr;rw [hs];simp
 have xN: ∀st:St,Jc Γ st f (args.toList.map t.ev)=(match Bs t sp.arg (args.toList.map t.ev) with
   |none=>none
   |some (_,x)=>(sp.fn x).map λy=>if sp.Ef then .Uf (sp.fresh||sp.res.flat) sp.res y else .at (.data (sp.fresh||sp.res.flat) sp.res y)):= λst=>by
  unfold Jc
  rw [Mb]
  simp only
  rw [hs,cM (st:=t) _ _ hs]
  simp only [Bool.or_true,if_true]
  cases Bs t sp.arg (args.toList.map t.ev)<;>rfl
 refine cj rfl Xu hn (q:=Jc Γ t f (args.toList.map t.ev)) ?_ ?_ (λy hy=>?_) he
 ·simp only [evalOp,Ce,Mb,hx,AH]
  rw [xN,xN t]
  simp
 ·simp only [evalOp,Ce,Mb,AH]
  simp
 ·rw [xN t] at hy
  split at hy
  ·cases hy
  ·rename_i x _
   cases hf:sp.fn x with
   |none=>rw [hf] at hy;cases hy
   |some z=>
    rw [hf] at hy
    simp only [Option.map_some,Option.some.injEq] at hy
    rw [<-hy]
    split<;>simp [AV.refs,AC.refs]
def gG (T:Tab) (o:Option OB) (t0:TypeId) (s:ByteArray) (vw:(v:Ty)->Option (Bool×v.den)):Option OB:=match T.mapOf t0 with
 |some v=>(match o,vw v with
  |some (.Oh v' f),some (_,y)=>if h:v'=v/\v.flat=true/\v.Ac=false then some (.Oh v (Sb (h.1▸f:ByteArray->Option v.den) s y)) else none
  |_,_=>none)
 |none=>none
theorem dH {st:St} {t0:TypeId} {l:Nat} {fr:Bool} {s:ByteArray} {x:AV} :Et T st t0 (.at (.Gf l)) (.at (.data fr .str s)) x=(gG T (st.at l) t0 s λv=>Cr st v x).map λc=>st.Fz l c:=by
 unfold Et gG
 cases T.mapOf t0 with
 |none=>rfl
 |some v0=>
  simp only
  cases st.at l with
  |none=>rfl
  |some c=>
   cases c with
   |Oh v' f=>
    cases Cr st v0 x with
    |none=>rfl
    |some p=>
     simp only
     split<;>rfl
   |_=>rfl
theorem vI {o:Option OB} {t0:TypeId} {s:ByteArray} {vw:(v:Ty)->Option (Bool×v.den)} {c:OB} (h:gG T o t0 s vw=some c):c.refs= []:=by
 unfold gG at h
 split at h
 ·split at h
  ·split at h
   ·cases h;rfl
   ·cases h
  ·cases h
 ·cases h
theorem m4 {st:St} {t0:TypeId} {m k x:AV} {s':St} (h:Et T st t0 m k x=some s'): ∃l fr s,m= .at (.Gf l)/\k= .at (.data fr .str s):=by
 unfold Et at h
 split at h
 ·exact ⟨_,_,_,rfl,rfl⟩
 ·cases h
theorem vM: ∀ {H:List (Nat×OB)} {l:Nat} {c:OB} {p:Nat×OB},p∈Ww H l c->p∈H\/(p.2=c/\p.1=l/\ ∃c',(l,c')∈H)
 |(k,a)::r,l,c,p,h=>by
  simp only [Ww] at h
  split at h
  ·rename_i e
   rcases List.mem_cons.1 h with h|h
   ·subst h;exact .inr ⟨rfl,e,a,by rw [e];simp⟩
   ·exact .inl (List.mem_cons_of_mem _ h)
  ·rcases List.mem_cons.1 h with h|h
   ·exact .inl (by rw [h];simp)
   ·exact (vM h).imp (List.mem_cons_of_mem _) λ⟨h1,h2,c',h3⟩=>⟨h1,h2,c',List.mem_cons_of_mem _ h3⟩
theorem Eh.Fz {st:St} {l:Nat} {c:OB} (h:Eh d st) (hc:d∉c.refs):Eh d (st.Fz l c):=
 ⟨h.own,h.tmps,λp hp=>(vM hp).elim (h.heap p) λ⟨h1,h2,c',h3⟩=>⟨by rw [h2];exact (h.heap _ h3).1,by rw [h1];exact hc⟩⟩
theorem rZ {dst:Option Tmp} {t0:TypeId} {m k x:Operand} {ty:TypeId} {pos:String} {after:Array Edge} (hn:Eh d t) (hm:(Ew d v b t).ev m=t.ev m) (hk:(Ew d v b t).ev k=t.ev k) (hx:(Ew d v b t).ev x=t.ev x) (Xu:dst≠some d)
  (hs:(t.ev x).settled=true) {s':St} (he:Cf T Γ ops (Ew d v b t) {dst:=dst,op:= .insert t0 m k x,type:=ty,pos:=pos,after:=after,guard:=none} =some s'):
  ∃t',Cf T Γ ops t {dst:=dst,op:= .insert t0 m k x,type:=ty,pos:=pos,after:=after,guard:=none} =some t'/\s'=Ew d v b t'/\Eh d t':=by
 unfold Cf at he⊢
 simp only [evalOp,hm,hk,hx] at he⊢
 cases AF:Et T (Ew d v b t) t0 (t.ev m) (t.ev k) (t.ev x) with
 |none=>rw [AF] at he;cases he
 |some s1=>
  rw [AF] at he
  simp only [Option.map_some,Option.some.injEq] at he
  obtain ⟨l,fr,s,e1,e2⟩:=m4 AF
  have hld:d≠l:= λe=>by
   have:=hn.ev m
   rw [e1,e] at this
   exact this (by simp [AV.refs,AC.refs])
  rw [e1,e2,dH,zJ hld] at AF
  have hvw:(λv0=>Cr (Ew d v b t) v0 (t.ev x))= λv0=>Cr t v0 (t.ev x):=funext λv0=>an hs
  rw [hvw] at AF
  rw [e1,e2,dH]
  cases ho:gG T (t.at l) t0 s λv0=>Cr t v0 (t.ev x) with
  |none=>rw [ho] at AF;cases AF
  |some c=>
   rw [ho] at AF
   simp only [Option.map_some,Option.some.injEq] at AF
   have hc:=vI ho
   have lj:Eh d (t.Fz l c):=hn.Fz (by rw [hc];simp)
   obtain ⟨p1,p2⟩:=qE (v:=v) (b:=b) (y:= .undef) Xu lj (by simp [AV.refs,AC.refs])
   refine ⟨_,rfl,?_,p2⟩
   rw [<-he,<-AF,BH hld,p1]
theorem Eh.back {e:Nat} (h:Eh e (Ew d v b t)) (GS:e≠d) (hn:Eh d t):Eh e t:=by
 have hg: ∀k,k≠d->(Ew d v b t).get k=t.get k:= λk hk=>Xr _ _ _ _ _ (Ne.symm hk)
 refine ⟨by rw [<-hg e GS];exact h.own,λu hu hd=>?_,h.SU⟩
 obtain ⟨k,hk,rfl⟩:=List.mem_iff_getElem.1 hu
 have e1:t.get k=t.tmps[k]:=by unfold St.get;rw [List.getD_eq_getElem?_getD,List.getElem?_eq_getElem hk];rfl
 by_cases PC:k=d
 ·subst PC
  have:=hn.own
  rw [e1] at this
  rw [this] at hd
  cases hd
 ·have h1:=h.ev (.tmp k)
  have h2:(Ew d v b t).ev (.tmp k)=t.tmps[k]:=by show (Ew d v b t).get k=_;rw [hg k PC,e1]
  rw [h2] at h1
  exact h1 hd
def fi (e:Ty):Nat->List (Nat×AV)->Option (Bool×Bool×List e.den)
 |_,[]=>some (true,true,[])
 |i,(j,x)::r=>if i=j then match Cr ⟨[],[]⟩ e x with
  |some (fr,y)=>match fi e (i+1) r with
   |some (Oo,KG,ys)=>some (fr&&Oo,Mn ⟨[],[]⟩ x&&e.tree&&KG,y::ys)
   |none=>none
  |none=>none
  else none
theorem Xg {st:St} {e:Ty} : ∀(l:List (Nat×Operand)) (i:Nat),(l.all λp=>Pd (st.ev p.2))=true->Gj e i l st=(fi e i (l.map λp=>(p.1,st.ev p.2))).map λp=>(p.1,p.2.1,p.2.2,st)
 | [],i,_=>rfl
 |(j,x)::r,i,h=>by
  rw [List.all_cons,Bool.and_eq_true] at h
  have hx:Pd (st.ev x)=true:=h.1
  simp only [Gj,fi,List.map_cons]
  split
  ·generalize hxv:st.ev x=xv at hx
   unfold Pd at hx
   split at hx
   ·rename_i fr τ z
    have SC:settle st (.at (.data fr τ z))=some (.at (.data fr τ z),st):=rfl
    rw [SC]
    simp only
    rw [an (st:=⟨[],[]⟩) (st':=st) (v:= .at (.data fr τ z)) rfl]
    cases Cr ⟨[],[]⟩ e (.at (.data fr τ z)) with
    |none=>rfl
    |some p=>
     simp only
     rw [Xg r (i+1) h.2]
     cases fi e (i+1) (r.map λp=>(p.1,st.ev p.2)) with
     |none=>rfl
     |some q=>rfl
   ·cases hx
  ·rfl
def rowOf (T:Tab) (t0:TypeId) (len:Nat) (parts:List (Nat×AV)) (dst:Nat):Option (AV×OB):=match Xs T t0 with
 |some _=>none
 |none=>match T.elem t0 with
  |none=>none
  |some te=>match T.ty te with
   |none=>none
   |some e=>if parts.length=len/\len<=64/\e.size<=64/\dst<Aj then (fi e 0 parts).map λp=>(.at (.own dst 0 len), .arr ((T.og||e.flat)&&p.1) (T.tU&&p.2.1) e te p.2.2) else none
theorem bn {st:St} {t0:TypeId} {len dst:Nat} {parts:Array (Nat×Operand)} (h:(parts.toList.all λp=>Pd (st.ev p.2))=true):
  Er T st dst t0 len parts=(rowOf T t0 len (parts.toList.map λp=>(p.1,st.ev p.2)) dst).map λr=>(r.1,st.new dst r.2):=by
 unfold Er rowOf
 cases Xs T t0 with
 |some p=>
  obtain ⟨te,e⟩:=p
  simp only [Option.map_none]
  split
  ·rename_i x hp
   rw [hp,List.all_cons,Bool.and_eq_true] at h
   have hx:Pd (st.ev x)=true:=h.1
   unfold Pd at hx
   split at hx
   ·rename_i hv;simp only [hv]
   ·cases hx
  ·rfl
 |none=>
  simp only
  unfold He
  cases T.elem t0 with
  |none=>rfl
  |some te=>
   simp only
   cases T.ty te with
   |none=>rfl
   |some e=>
    simp only [List.length_map,Array.length_toList]
    split
    ·rw [Xg _ 0 h]
     cases fi e 0 (parts.toList.map λp=>(p.1,st.ev p.2))<;>rfl
    ·rfl
theorem jZ {t0:TypeId} {len dst:Nat} {parts:List (Nat×AV)} {r:AV×OB} (h:rowOf T t0 len parts dst=some r):lA dst r.1 r.2:=by
 unfold rowOf at h
 split at h
 ·cases h
 ·split at h
  ·cases h
  ·split at h
   ·cases h
   ·split at h
    ·rename_i e _ _
     cases hp:fi e 0 parts with
     |none=>rw [hp] at h;cases h
     |some p=>
      rw [hp] at h
      simp only [Option.map_some,Option.some.injEq] at h
      subst h
      exact ⟨λl hl=>by simpa [AV.refs,AC.refs] using hl,rfl,λl hl=>by simp only [AV.map,Az];rw [if_neg (Ne.symm hl)],λl=>rfl⟩
    ·cases h
theorem um {e:Nat} {t0:TypeId} {len:Nat} {parts:Array (Nat×Operand)} {ty:TypeId} {pos:String} {after:Array Edge} (_hl:lA d v b) (hn:Eh d t) (hx: ∀p∈parts.toList,(Ew d v b t).ev p.2=t.ev p.2) (Xu:e≠d)
  (hp:(parts.toList.all λp=>Pd (t.ev p.2))=true) (Fe:Eh e (Ew d v b t)) {s':St} (he:Cf T Γ ops (Ew d v b t) {dst:=some e,op:= .buildSlice t0 len parts,type:=ty,pos:=pos,after:=after,guard:=none} =some s'):
  ∃t',Cf T Γ ops t {dst:=some e,op:= .buildSlice t0 len parts,type:=ty,pos:=pos,after:=after,guard:=none} =some t'/\s'=Ew d v b t'/\Eh d t':=by
 have RT:=Fe.back Xu hn
 have AI:(parts.toList.all λp=>Pd ((Ew d v b t).ev p.2))=true:=List.all_eq_true.2 λp rW=>by rw [hx p rW];exact List.all_eq_true.1 hp p rW
 have hm:(parts.toList.map λp=>(p.1,(Ew d v b t).ev p.2))=parts.toList.map λp=>(p.1,t.ev p.2):=List.map_congr_left λp rW=>by rw [hx p rW]
 unfold Cf at he⊢
 simp only [evalOp] at he⊢
 rw [bn AI,hm] at he
 rw [bn hp]
 cases hr:rowOf T t0 len (parts.toList.map λp=>(p.1,t.ev p.2)) e with
 |none=>rw [hr] at he;cases he
 |some r=>
  rw [hr] at he
  have hL:=jZ hr
  simp only [Option.map_some,Option.some.injEq] at he
  rw [Fe.new] at he
  refine ⟨Ew e r.1 r.2 t,by simp only [Option.map_some];rw [RT.new],?_,hn.plus (Ne.symm Xu) (λh=>Xu (hL.v1 _ h).symm) (by rw [hL.b1];simp)⟩
  rw [<-he,pM (Ne.symm Xu)]
def QP:Operand->AV
 | .const c=>fQ c
 |_=> .undef
theorem QQ {st:St} {x:Operand} (h:Pd (QP x)=true):st.ev x=QP x:=by
 cases x<;>first|rfl|cases h
def Yw (T:Tab) (o:Oper):Option (Nat×AV×OB):=match o.guard with
 |some _=>none
 |none=>match o.dst with
  |none=>none
  |some d=>match o.op with
   | .buildSlice t0 len parts=>if (parts.toList.all λp=>Pd (QP p.2))=true then (rowOf T t0 len (parts.toList.map λp=>(p.1,QP p.2)) d).map λr=>(d,r.1,r.2) else none
   | .makeMap t0 none=>match T.mapOf t0 with
    |some τ=>if d<Aj then some (d, .at (.Gf d), .Oh τ λ_=>none) else none
    |none=>none
   |_=>none
theorem Yx {o:Oper} {r:Nat×AV×OB} (h:Yw T o=some r):o.dst=some r.1/\lA r.1 r.2.1 r.2.2/\ ∀st:St,Eh r.1 st->Cf T Γ ops st o=some (Ew r.1 r.2.1 r.2.2 st):=by
 obtain ⟨dst,op,ty,pos,after,guard⟩:=o
 unfold Yw at h
 cases guard with
 |some g=>cases h
 |none=>
  cases dst with
  |none=>cases h
  |some d=>
   cases op with
   |buildSlice t0 len parts=>
    simp only at h
    split at h
    ·rename_i hp
     cases hr:rowOf T t0 len (parts.toList.map λp=>(p.1,QP p.2)) d with
     |none=>rw [hr] at h;cases h
     |some q=>
      rw [hr] at h
      simp only [Option.map_some,Option.some.injEq] at h
      subst h
      refine ⟨rfl,jZ hr,λst Sf=>?_⟩
      have xN: ∀p∈parts.toList,st.ev p.2=QP p.2:= λp rW=>QQ (List.all_eq_true.1 hp p rW)
      have hm:(parts.toList.map λp=>(p.1,st.ev p.2))=parts.toList.map λp=>(p.1,QP p.2):=List.map_congr_left λp rW=>by rw [xN p rW]
      have AI:(parts.toList.all λp=>Pd (st.ev p.2))=true:=List.all_eq_true.2 λp rW=>by rw [xN p rW];exact List.all_eq_true.1 hp p rW
      unfold Cf
      simp only [evalOp]
      rw [bn AI,hm,hr]
      simp only [Option.map_some]
      rw [Sf.new]
    ·cases h
   |makeMap t0 hint=>
    cases hint with
    |some x=>cases h
    |none=>
     simp only at h
     split at h
     ·rename_i τ Mu
      split at h
      ·rename_i hd
       cases h
       refine ⟨rfl,⟨λl hl=>by simpa [AV.refs,AC.refs] using hl,rfl,λl hl=>by simp only [AV.map,Az];rw [if_neg (Ne.symm hl)],λl=>rfl⟩,λst Sf=>?_⟩
       unfold Cf
       simp only [evalOp,Nr,Mu,if_pos hd,Option.map_some]
       rw [Sf.new]
      ·cases h
     ·cases h
   |_=>cases h
theorem sR {l:List Operand} (h: ∀x∈l,(Ew d v b t).ev x=t.ev x):(l.all λx=>((Ew d v b t).ev x).settled)=(l.map t.ev).all (·.settled):=by
 rw [List.all_map]
 induction l with
 |nil=>rfl
 |cons x r ih=>
  simp only [List.all_cons,Function.comp]
  rw [h x (by simp),ih λy hy=>h y (by simp [hy])]
theorem sS {o:Oper} (hl:lA d v b) (hn:Eh d t) (hs:Pg Γ (Ew d v b t) o=true) (hu:(cK o).all (c8 d)=true) (Xu:o.dst≠some d) {s':St} (he:Cf T Γ ops (Ew d v b t) o=some s'):
  ∃t',Cf T Γ ops t o=some t'/\s'=Ew d v b t'/\Eh d t'/\Pg Γ t o=true:=by
 obtain ⟨dst,op,ty,pos,after,guard⟩:=o
 unfold Pg at hs
 cases guard with
 |some g=>cases hs
 |none=>
  simp only at hs
  split at hs
  ·rename_i x
   have hx:=Rl (v:=v) (b:=b) (t:=t) hu x (by simp [cK])
   obtain ⟨t',h1,h2,h3⟩:=yq hn hx Xu he
   exact ⟨t',h1,h2,h3,rfl⟩
  ·rename_i t0 x
   have hx:=Rl (v:=v) (b:=b) (t:=t) hu x (by simp [cK])
   rw [hx] at hs
   split at hs
   ·rename_i l i hp
    obtain ⟨t',h1,h2,h3⟩:=yi hn hx Xu hp he
    exact ⟨t',h1,h2,h3,by simp only [Pg,hp]⟩
   ·cases hs
  ·rename_i f args tys
   rw [Bool.and_eq_true] at hs
   obtain ⟨fC,oq⟩:=hs
   split at fC
   ·rename_i sp Mb
    have xN:=Rl (v:=v) (b:=b) (t:=t) (l:=args.toList) hu
    rw [sR xN] at oq
    obtain ⟨t',h1,h2,h3⟩:=xx Mb hn (BK hu) Xu oq he
    refine ⟨t',h1,h2,h3,?_⟩
    simp only [Pg,Mb,Bool.true_and]
    rw [List.all_map] at oq
    exact oq
   ·cases fC
  ·rename_i t0 m k x
   have hm:=Rl (v:=v) (b:=b) (t:=t) hu m (by simp [cK])
   have hk:=Rl (v:=v) (b:=b) (t:=t) hu k (by simp [cK])
   have hx:=Rl (v:=v) (b:=b) (t:=t) hu x (by simp [cK])
   rw [hm,hk,hx] at hs
   have hs0:=hs
   rw [Bool.and_eq_true] at hs
   obtain ⟨t',h1,h2,h3⟩:=rZ hn hm hk hx Xu hs.2 he
   exact ⟨t',h1,h2,h3,hs0⟩
  ·rename_i t0 len parts
   rw [Bool.and_eq_true] at hs
   obtain ⟨fC,oq⟩:=hs
   cases dst with
   |none=>cases oq
   |some e=>
    simp only at oq
    have hed:e≠d:= λh=>Xu (by rw [h])
    have aX:(parts.toList.map (λp=>p.2)).all (c8 d)=true:=hu
    have xN:=Rl (v:=v) (b:=b) (t:=t) aX
    have hx: ∀p∈parts.toList,(Ew d v b t).ev p.2=t.ev p.2:= λp hp=>xN p.2 (List.mem_map.2 ⟨p,hp,rfl⟩)
    have hp:(parts.toList.all λp=>Pd (t.ev p.2))=true:=List.all_eq_true.2 λp hp=>by rw [<-hx p hp];exact List.all_eq_true.1 fC p hp
    have Fe:=mP oq
    obtain ⟨t',h1,h2,h3⟩:=um hl hn hx hed hp Fe he
    refine ⟨t',h1,h2,h3,?_⟩
    simp only [Pg,hp,Bool.true_and]
    exact CR (Fe.back hed hn)
  ·cases hs
def r8:List (Nat×AV×OB)->St->St->Prop
 | [],s,t=>s=t
 |q::Q,s,t=>Eh q.1 t/\r8 Q s (Ew q.1 q.2.1 q.2.2 t)
theorem qy {o:Oper} : ∀(Q:List (Nat×AV×OB)) (s t s':St),r8 Q s t->(∀q∈Q,lA q.1 q.2.1 q.2.2/\(cK o).all (c8 q.1)=true/\o.dst≠some q.1)->Pg Γ s o=true->Cf T Γ ops s o=some s'->
  ∃t',Cf T Γ ops t o=some t'/\r8 Q s' t'/\Pg Γ t o=true
 | [],s,t,s',h,_,hs,he=>by
  have h:s=t:=h
  subst h
  exact ⟨s',he,rfl,hs⟩
 |q::Q,s,t,s',⟨h1,h2⟩,hq,hs,he=>by
  obtain ⟨u',e1,e2,e3⟩:=qy Q s _ s' h2 (λp hp=>hq p (List.mem_cons_of_mem _ hp)) hs he
  obtain ⟨l1,l2,l3⟩:=hq q (by simp)
  obtain ⟨t',f1,f2,f3,f4⟩:=sS l1 h1 e3 l2 l3 e1
  exact ⟨t',f1,⟨f3,by rw [<-f2];exact e2⟩,f4⟩
theorem qz {q:Nat×AV×OB} : ∀(Q1:List (Nat×AV×OB)) {Q2:List (Nat×AV×OB)} {s t:St},r8 (Q1++q::Q2) s t->(∀p∈Q1++q::Q2,lA p.1 p.2.1 p.2.2)->(∀p∈Q1,p.1≠q.1)->
  Eh q.1 t/\r8 (Q1++Q2) s (Ew q.1 q.2.1 q.2.2 t)
 | [],Q2,s,t,h,_,_=>h
 |p::Q1,Q2,s,t,⟨h1,h2⟩,hL,Fe=>by
  have UY:=Fe p (by simp)
  have hLp:=hL p (by simp)
  have hLq:=hL q (by simp)
  obtain ⟨g1,g2⟩:=qz Q1 h2 (λr hr=>hL r (List.mem_cons_of_mem _ hr)) λr hr=>Fe r (List.mem_cons_of_mem _ hr)
  refine ⟨g1.back (Ne.symm UY) h1,h1.plus UY (λh=>UY (hLq.v1 _ h)) (by rw [hLq.b1];simp),?_⟩
  show r8 (Q1++Q2) s (Ew p.1 p.2.1 p.2.2 (Ew q.1 q.2.1 q.2.2 t))
  rw [pM (Ne.symm UY)]
  exact g2
def fw (ops:Array Oper):Nat->Nat->Nat->Bool
 |0,_,_=>false
 |f+1,i,a=>Region.waitsFor .any ops i a||(List.range ops.size).any λk=>Region.waitsFor .any ops i k&&fw ops f k a
def Sy (ops:Array Oper) (Ab:Array Bool):Prop:= ∀k a,Ab.getD k false=true->Region.waitsFor .any ops k a=true->Ab.getD a false=true
theorem ck {Ab:Array Bool} {i a:Nat} (h:i∈Region.ready .any ops Ab) (hw:Region.waitsFor .any ops i a=true):Ab.getD a false=true:=by
 obtain ⟨_,o,ho,Hg⟩:=mem_ready.1 h
 obtain ⟨o',UW,e,he,hb,rfl⟩:=Region.waitsFor_spec hw
 rw [ho] at UW
 cases UW
 exact Hg e he hb
theorem ew {Ab:Array Bool} (hc:Sy ops Ab) {a:Nat} : ∀(f i:Nat),(∀x,Region.waitsFor .any ops i x=true->Ab.getD x false=true)->fw ops f i a=true->Ab.getD a false=true
 |0,_,_,h=>by cases h
 |f+1,i,hi,h=>by
  simp only [fw,Bool.or_eq_true,List.any_eq_true,Bool.and_eq_true] at h
  rcases h with h|⟨k,_,h1,h2⟩
  ·exact hi a h
  ·exact ew hc f k (λx hx=>hc k x (hi k h1) hx) h2
theorem Sy.set {Ab:Array Bool} (hc:Sy ops Ab) {i:Nat} (hi:i∈Region.ready .any ops Ab):Sy ops (Ab.setIfInBounds i true):= λk a hk hw=>by
 by_cases hik:i=k
 ·subst hik
  exact getD_set_true (ck hi hw)
 ·rw [getD_set_ne false hik] at hk
  exact getD_set_true (hc k a hk hw)
def yw (P:List (Nat×Nat×AV×OB)) (Γ:Env) (ops:Array Oper) (st:St) (o:Oper) (i:Nat):Bool:=
 (P.all λa=>fw ops 5 i a.1)||(Pg Γ st o&&P.all λa=>fw ops 5 i a.1||((cK o).all (c8 a.2.1)&&(match o.dst with
  |some e=>!Nat.beq e a.2.1
  |none=>true)))
def QM (T:Tab) (Γ:Env) (ops:Array Oper) (P:List (Nat×Nat×AV×OB)) (K:St->Prop):Nat->Array Bool->St->Prop
 |0,Ab,st=>Region.ready .any ops Ab= []/\K st
 |f+1,Ab,st=>Region.ready .any ops Ab≠ []/\ ∀i∈Region.ready .any ops Ab,∃o st',ops[i]?=some o/\yw P Γ ops st o i=true/\Cf T Γ ops st o=some st'/\QM T Γ ops P K f (Ab.setIfInBounds i true) st'
structure FK (lc la:Array Bool) (Q:List Nat):Prop where
 size:la.size=lc.size
 off: ∀k∈Q,k<la.size/\la.getD k false=false/\lc.getD k false=true
 same: ∀k,k∉Q->la.getD k false=lc.getD k false
theorem FK.ready {lc la:Array Bool} {Q:List Nat} (h:FK lc la Q) {i:Nat} (hi:i∈Region.ready .any ops la) (hn:i∉Q):i∈Region.ready .any ops lc:=by
 obtain ⟨h1,o,ho,Hg⟩:=mem_ready.1 hi
 have Gu:i<la.size:=by
  rcases Nat.lt_or_ge i la.size with h'|h'
  ·exact h'
  ·simp [Array.getElem?_eq_none h'] at h1
 have h2:=getD_both h1
 rw [h.same i hn] at h2
 refine mem_ready.2 ⟨getD_in (by rw [<-h.size];exact Gu) h2,o,ho,λe he hb=>?_⟩
 have h3:=Hg e he hb
 by_cases hq:e.on∈Q
 ·exact (h.off _ hq).2.2
 ·rw [<-h.same _ hq];exact h3
theorem FK.nil {lc la:Array Bool} (h:FK lc la []):la=lc:=by
 refine Array.ext h.size λk h1 h2=>?_
 have:=h.same k (by simp)
 simpa [h1,h2] using this
theorem FK.one {lc la:Array Bool} {Q Q':List Nat} {i:Nat} (h:FK lc la Q) (hi:i∈Q) (hs: ∀k,k∈Q'↔k∈Q/\k≠i):FK lc (la.setIfInBounds i true) Q':=by
 refine ⟨by simp [h.size],λk hk=>?_,λk hk=>?_⟩
 ·obtain ⟨h1,h2⟩:=(hs k).1 hk
  obtain ⟨g1,g2,g3⟩:=h.off k h1
  exact ⟨by simpa using g1,by rw [getD_set_ne false (Ne.symm h2)];exact g2,g3⟩
 ·by_cases e:i=k
  ·subst e
   obtain ⟨g1,g2,g3⟩:=h.off i hi
   rw [g3]
   simp [g1]
  ·rw [getD_set_ne false e]
   exact h.same k λhq=>hk ((hs k).2 ⟨hq,Ne.symm e⟩)
theorem FK.both {lc la:Array Bool} {Q:List Nat} {i:Nat} (h:FK lc la Q) (hi:i∉Q):FK (lc.setIfInBounds i true) (la.setIfInBounds i true) Q:=by
 refine ⟨by simp [h.size],λk hk=>?_,λk hk=>?_⟩
 ·obtain ⟨g1,g2,g3⟩:=h.off k hk
  have Fe:i≠k:= λe=>hi (by rw [e];exact hk)
  exact ⟨by simpa using g1,by rw [getD_set_ne false Fe];exact g2,by rw [getD_set_ne false Fe];exact g3⟩
 ·by_cases e:i=k
  ·subst e
   have hs:=h.same i hi
   have hz:=h.size
   by_cases hl:i<la.size
   ·simp [hl,hz▸hl]
   ·have Gt: ¬i<lc.size:=by omega
    simp [hl,Gt]
  ·rw [getD_set_ne false e,getD_set_ne false e];exact h.same k hk
theorem yt {dst:Option Tmp} {d:Nat} (h:(match dst with
  |some e=>!Nat.beq e d
  |none=>true)=true):dst≠some d:= λe=>by
 subst e
 simp at h
theorem BI {P:List (Nat×Nat×AV×OB)} {K:St->Prop} (hP: ∀a∈P,∃o,ops[a.1]?=some o/\Yw T o=some a.2):
  ∀(n f:Nat) (Q:List (Nat×Nat×AV×OB)) (lc la:Array Bool) (s t:St),n=f+Q.length->QM T Γ ops P K f lc s->r8 (Q.map (·.2)) s t->FK lc la (Q.map (·.1))->(∀a∈Q,a∈P)->
   (Q.Pairwise λa c=>a.2.1≠c.2.1/\a.1≠c.1)->Sy ops la->(∀a∈Q,∀x,Region.waitsFor .any ops a.1 x=true->la.getD x false=true)->anyS T Γ ops K n la t:=by
 intro n
 induction n with
 |zero=>
  intro f Q lc la s t hn hC hp hb hQ hpw Lt hw
  have hf:f=0:=by omega
  have hq:Q= []:=List.eq_nil_of_length_eq_zero (by omega)
  subst hf hq
  have hp:s=t:=hp
  subst hp
  rw [hb.nil]
  exact hC
 |succ n ih=>
  intro f Q lc la s t hn hC hp hb hQ hpw Lt hw
  refine ⟨?_,λi hi=>?_⟩
  ·cases Q with
   |nil=>
    rw [hb.nil]
    cases f with
    |zero=>simp at hn
    |succ f=>exact hC.1
   |cons a Q=>
    obtain ⟨o,ho,_⟩:=hP a (hQ a (by simp))
    obtain ⟨g1,g2,_⟩:=hb.off a.1 (by simp)
    have:a.1∈Region.ready .any ops la:=mem_ready.2 ⟨getD_in g1 g2,o,ho,λe he hbd=>hw a (by simp) e.on (by
     unfold Region.waitsFor
     rw [ho]
     exact Array.any_eq_true'.2 ⟨e,he,by simp [hbd]⟩)⟩
    intro e
    rw [e] at this
    cases this
  ·by_cases hiQ:i∈Q.map (·.1)
   ·obtain ⟨a,ha,rfl⟩:=List.mem_map.1 hiQ
    obtain ⟨Q1,Q2,rfl⟩:=List.append_of_mem ha
    obtain ⟨o,ho,VZ⟩:=hP a (hQ a ha)
    obtain ⟨_,_,Sf⟩:=Yx (Γ:=Γ) (ops:=ops) VZ
    have HH:=List.pairwise_append.1 hpw
    have XG:=List.pairwise_cons.1 HH.2.1
    rw [List.map_append,List.map_cons] at hp
    have hL: ∀p∈Q1.map (·.2)++a.2::Q2.map (·.2),lA p.1 p.2.1 p.2.2:= λp rW=>by
     have:p∈(Q1++a::Q2).map (·.2):=by rw [List.map_append,List.map_cons];exact rW
     obtain ⟨c,hc,rfl⟩:=List.mem_map.1 this
     obtain ⟨o',_,Ac7⟩:=hP c (hQ c hc)
     exact (Yx (Γ:=Γ) (ops:=ops) Ac7).2.1
    obtain ⟨p1,p2⟩:=qz _ hp hL λp rW=>by
     obtain ⟨c,hc,rfl⟩:=List.mem_map.1 rW
     exact (HH.2.2 c hc a (by simp)).1
    refine ⟨o,_,ho,Sf t p1,ih f (Q1++Q2) lc _ s _ ?_ hC (by rw [List.map_append];exact p2) (hb.one hiQ λk=>?_) (λc hc=>hQ c ?_) ?_ (Lt.set hi) λc hc x hx=>getD_set_true (hw c ?_ x hx)⟩
    ·simp only [List.length_append,List.length_cons] at hn⊢;omega
    ·simp only [List.map_append,List.map_cons,List.mem_append,List.mem_cons]
     constructor
     ·intro h
      rcases h with h|h
      ·obtain ⟨c,hc,rfl⟩:=List.mem_map.1 h
       exact ⟨.inl h,(HH.2.2 c hc a (by simp)).2⟩
      ·obtain ⟨c,hc,rfl⟩:=List.mem_map.1 h
       exact ⟨.inr (.inr h),Ne.symm (XG.1 c hc).2⟩
     ·rintro ⟨h|h|h,Fe⟩
      ·exact .inl h
      ·exact absurd h Fe
      ·exact .inr h
    ·rcases List.mem_append.1 hc with hc|hc
     ·exact List.mem_append_left _ hc
     ·exact List.mem_append_right _ (List.mem_cons_of_mem _ hc)
    ·exact List.pairwise_append.2 ⟨HH.1,XG.2,λc hc e he=>HH.2.2 c hc e (List.mem_cons_of_mem _ he)⟩
    ·rcases List.mem_append.1 hc with hc|hc
     ·exact List.mem_append_left _ hc
     ·exact List.mem_append_right _ (List.mem_cons_of_mem _ hc)
   ·have hic:=hb.ready hi hiQ
    cases f with
    |zero=>
     rw [hC.1] at hic
     cases hic
    |succ f=>
     obtain ⟨o,s',ho,bO,he,dR⟩:=hC.2 i hic
     have MH: ∀a∈Q,fw ops 5 i a.1=false:= λa ha=>by
      cases hwt:fw ops 5 i a.1 with
      |false=>rfl
      |true=>
       have h1:=ew Lt _ i (λx hx=>ck hi hx) hwt
       rw [(hb.off a.1 (List.mem_map.2 ⟨a,ha,rfl⟩)).2.1] at h1
       cases h1
     have key: ∃t',Cf T Γ ops t o=some t'/\r8 (Q.map (·.2)) s' t':=by
      unfold yw at bO
      rw [Bool.or_eq_true,Bool.and_eq_true] at bO
      rcases bO with bO|⟨h1,h2⟩
      ·cases Q with
       |nil=>
        have hp:s=t:=hp
        subst hp
        exact ⟨s',he,rfl⟩
       |cons a Q=>
        have:=List.all_eq_true.1 bO a (hQ a (by simp))
        rw [MH a (by simp)] at this
        cases this
      ·obtain ⟨t',g1,g2,_⟩:=qy (T:=T) (ops:=ops) _ s t s' hp (λq hq=>by
        obtain ⟨a,ha,rfl⟩:=List.mem_map.1 hq
        obtain ⟨o',_,VZ⟩:=hP a (hQ a ha)
        have h3:=List.all_eq_true.1 h2 a (hQ a ha)
        rw [MH a ha,Bool.false_or,Bool.and_eq_true] at h3
        exact ⟨(Yx (Γ:=Γ) (ops:=ops) VZ).2.1,h3.1,yt h3.2⟩) h1 he
       exact ⟨t',g1,g2⟩
     obtain ⟨t',g1,g2⟩:=key
     exact ⟨o,t',ho,g1,ih f Q _ _ s' t' (by omega) dR g2 (hb.both hiQ) hQ hpw (Lt.set hi) λc hc x hx=>getD_set_true (hw c hc x hx)⟩
def Rj (T:Tab) (ops:Array Oper) (Ab:Array Bool):List (Nat×Nat×AV×OB):=(Region.ready .any ops Ab).filterMap λi=>((ops[i]?).bind (Yw T)).map λr=>(i,r)
theorem ri {Ab:Array Bool} {a:Nat×Nat×AV×OB} (h:a∈Rj T ops Ab):a.1∈Region.ready .any ops Ab/\ ∃o,ops[a.1]?=some o/\Yw T o=some a.2:=by
 unfold Rj at h
 obtain ⟨i,hi,he⟩:=List.mem_filterMap.1 h
 cases ho:ops[i]? with
 |none=>rw [ho] at he;cases he
 |some o=>
  rw [ho] at he
  simp only [Option.bind_some,Option.map_eq_some_iff] at he
  obtain ⟨r,h1,rfl⟩:=he
  exact ⟨hi,o,ho,h1⟩
theorem ur:Sy ops (Array.replicate ops.size false):= λk a hk _=>by
 rw [getD_replicate_false] at hk
 cases hk
theorem Zc (q:Bool): ∀(l:List Nat) (Ab:Array Bool),Sy ops Ab->Sy ops (Eg (Ez q ops l Ab) Ab)
 | [],Ab,h=>h
 |i::r,Ab,h=>by
  simp only [Ez]
  split
  ·rename_i hc
   rw [Bool.and_eq_true,Bool.and_eq_true] at hc
   have hi:i∈Region.ready .any ops Ab:=by simpa using hc.2.1
   exact Zc q r _ (h.set hi)
  ·exact Zc q r Ab h
theorem bX: ∀(l:List Nat) (Ab:Array Bool),(Eg l Ab).size=Ab.size
 | [],_=>rfl
 |i::r,Ab=>by simp only [Eg];rw [bX r];simp
theorem gC: ∀(l:List Nat) (Ab:Array Bool) (k:Nat),k∈l->k<Ab.size->(Eg l Ab).getD k false=true
 |i::r,Ab,k,h,hk=>by
  simp only [Eg]
  by_cases hr:k∈r
  ·exact gC r _ k hr (by simpa using hk)
  ·have:k=i:=(List.mem_cons.1 h).resolve_right hr
   subst this
   have hs: ∀(l:List Nat) (A:Array Bool),A.getD k false=true->(Eg l A).getD k false=true:=by
    intro l
    induction l with
    |nil=>exact λA h=>h
    |cons j l ih=>exact λA h=>ih _ (getD_set_true h)
   exact hs r _ (by simp [hk])
theorem dW: ∀(l:List Nat) (Ab:Array Bool) (k:Nat),k∉l->(Eg l Ab).getD k false=Ab.getD k false
 | [],_,_,_=>rfl
 |i::r,Ab,k,h=>by
  simp only [Eg]
  rw [dW r _ k λhk=>h (List.mem_cons_of_mem _ hk),getD_set_ne false (λe=>h (by rw [e];simp))]
theorem LM {Ab:Array Bool} {Q:List Nat} (h: ∀i∈Q,i∈Region.ready .any ops Ab):FK (Eg Q Ab) Ab Q:=by
 have hr: ∀i∈Q,i<Ab.size/\Ab.getD i false=false:= λi hi=>by
  have h1:=(mem_ready.1 (h i hi)).1
  refine ⟨?_,getD_both h1⟩
  rcases Nat.lt_or_ge i Ab.size with h'|h'
  ·exact h'
  ·simp [Array.getElem?_eq_none h'] at h1
 exact ⟨(bX Q Ab).symm,λk hk=>⟨(hr k hk).1,(hr k hk).2,gC Q Ab k hk (hr k hk).1⟩,λk hk=>(dW Q Ab k hk).symm⟩
theorem wj: ∀(Q:List (Nat×Nat×AV×OB)) (t s:St),(∀a∈Q,∃o,ops[a.1]?=some o/\Yw T o=some a.2)->(∀a∈Q,Eh a.2.1 t)->(Q.Pairwise λa c=>a.2.1≠c.2.1)->Iy T Γ ops (Q.map (·.1)) t=some s->r8 (Q.map (·.2)) s t
 | [],t,s,_,_,_,h=>by
  have h:some t=some s:=h
  exact (Option.some.inj h).symm
 |a::Q,t,s,hQ,hn,hp,h=>by
  obtain ⟨o,ho,VZ⟩:=hQ a (by simp)
  obtain ⟨_,hL,Sf⟩:=Yx (Γ:=Γ) (ops:=ops) VZ
  obtain ⟨tT,BY⟩:=List.pairwise_cons.1 hp
  simp only [List.map_cons,Iy,ho] at h
  rw [Sf t (hn a (by simp))] at h
  refine ⟨hn a (by simp),wj Q _ s (λc hc=>hQ c (List.mem_cons_of_mem _ hc)) (λc hc=>?_) BY h⟩
  exact (hn c (List.mem_cons_of_mem _ hc)).plus (Ne.symm (tT c hc)) (λh=>tT c hc (hL.v1 _ h).symm) (by rw [hL.b1];simp)
end
end Go.Proofs.Ytjbdmibbbpdnnaa
