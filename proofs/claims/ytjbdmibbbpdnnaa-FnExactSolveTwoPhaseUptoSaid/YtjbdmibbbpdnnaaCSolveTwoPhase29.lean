/-
  Part 30 of the proof that the statement FnExactSolveTwoPhase holds.
-/
import Derived.Test.YtjbdmibbbpdnnaaCSolveTwoPhase28
namespace Go.Proofs.Ytjbdmibbbpdnnaa
open Go.RowKit
def Fg (d:Nat) (v:AV) (b:OB) (st:St):St:= {tmps:=Ou st.tmps d v,heap:=Ju st.heap d b}
def ky (d:Nat) (st:St):Bool:=(st.get d).refs.isEmpty&&((st.tmps.all λv=>!v.refs.contains d)&&st.heap.all λp=>!Nat.beq p.1 d&&!p.2.refs.contains d)
structure El (d:Nat) (st:St):Prop where
 own:(st.get d).refs= []
 tmps: ∀v∈st.tmps,d∉v.refs
 heap: ∀p∈st.heap,p.1≠d/\d∉p.2.refs
theorem oz {d:Nat} {st:St} (h:ky d st=true):El d st:=by
 unfold ky at h
 rw [Bool.and_eq_true,Bool.and_eq_true,List.all_eq_true,List.all_eq_true] at h
 obtain ⟨h0,h⟩:=h
 refine ⟨List.isEmpty_iff.1 h0,λv hv=>?_,λp hp=>?_⟩
 ·have:=h.1 v hv
  intro hd
  rw [List.contains_iff_mem.2 hd] at this
  cases this
 ·have:=h.2 p hp
  rw [Bool.and_eq_true] at this
  refine ⟨λe=>?_,λhd=>?_⟩
  ·have h1:=this.1
   rw [e,Nat.beq_refl] at h1
   cases h1
  ·have h1:=this.2
   rw [List.contains_iff_mem.2 hd] at h1
   cases h1
theorem HI {d:Nat} {st:St} (h:El d st):ky d st=true:=by
 unfold ky
 rw [Bool.and_eq_true,Bool.and_eq_true,List.all_eq_true,List.all_eq_true]
 refine ⟨by rw [h.own];rfl,λv hv=>?_,λp hp=>?_⟩
 ·rw [Bool.not_eq_true',<-Bool.not_eq_true,List.contains_iff_mem];exact h.tmps v hv
 ·rw [Bool.and_eq_true]
  refine ⟨?_,?_⟩
  ·rw [Bool.not_eq_true',<-Bool.not_eq_true]
   exact λe=>(h.heap p hp).1 (Nat.eq_of_beq_eq_true e)
  ·rw [Bool.not_eq_true',<-Bool.not_eq_true,List.contains_iff_mem];exact (h.heap p hp).2
structure mZ (d:Nat) (v:AV) (b:OB):Prop where
 v1: ∀l,l∈v.refs->l=d
 b1:b.refs= []
 v2: ∀l,l≠d->v.map (Be l)=v
 b2: ∀l,b.map (Be l)=b
theorem Zl {α:Type} : ∀(xs:List α) (d t:Nat) (v x:α),d≠t->(Ou xs d v).getD t x=xs.getD t x
 | [],_,_,_,_,_=>rfl
 |y::r,0,0,_,_,h=>absurd rfl h
 |y::r,0,t+1,_,_,_=>by simp [Ou]
 |y::r,d+1,0,_,_,_=>by simp [Ou]
 |y::r,d+1,t+1,v,x,h=>by simpa [Ou] using Zl r d t v x (by omega)
theorem kQ {α:Type} : ∀(xs:List α) (d e:Nat) (v w:α),d≠e->Ou (Ou xs d v) e w=Ou (Ou xs e w) d v
 | [],_,_,_,_,_=>rfl
 |y::r,0,0,_,_,h=>absurd rfl h
 |y::r,0,e+1,_,_,_=>rfl
 |y::r,d+1,0,_,_,_=>rfl
 |y::r,d+1,e+1,v,w,h=>by simp only [Ou];rw [kQ r d e v w (by omega)]
theorem rC: ∀(H:List (Nat×OB)) (d l:Nat) (b:OB),d≠l->Ag (Ju H d b) l=Ag H l
 | [],d,l,b,h=>by simp [Ju,Ag,h]
 |(k,c)::r,d,l,b,h=>by
  simp only [Ju]
  split
  ·simp only [Ag];rw [if_neg h]
  ·simp only [Ag]
   split
   ·rfl
   ·exact rC r d l b h
theorem rF: ∀(H:List (Nat×OB)) (d e:Nat) (b c:OB),d≠e->Ju (Ju H d b) e c=Ju (Ju H e c) d b
 | [],d,e,b,c,h=>by
  simp only [Ju]
  by_cases h1:e<d
  ·rw [if_pos h1,if_neg (by omega)]
  ·rw [if_neg h1,if_pos (by omega)]
 |(k,a)::r,d,e,b,c,h=>by
  simp only [Ju]
  by_cases h1:d<k<;>by_cases h2:e<k
  ·rw [if_pos h1,if_pos h2]
   simp only [Ju]
   by_cases h3:e<d
   ·rw [if_pos h3,if_neg (by omega),if_pos h1]
   ·rw [if_neg h3,if_pos h2,if_pos (by omega)]
  ·rw [if_pos h1,if_neg h2]
   simp only [Ju]
   rw [if_neg (by omega),if_neg h2,if_pos h1]
  ·rw [if_neg h1,if_pos h2]
   simp only [Ju]
   rw [if_pos h2,if_neg (by omega),if_neg h1]
  ·rw [if_neg h1,if_neg h2]
   simp only [Ju]
   rw [if_neg h1,if_neg h2,rF r d e b c h]
theorem sq: ∀(H:List (Nat×OB)) (d l:Nat) (b c:OB),d≠l->Ys (Ju H d b) l c=Ju (Ys H l c) d b
 | [],d,l,b,c,h=>by simp [Ju,Ys,h]
 |(k,a)::r,d,l,b,c,h=>by
  simp only [Ju,Ys]
  by_cases h1:d<k<;>by_cases h2:k=l
  ·rw [if_pos h1,if_pos h2]
   simp only [Ys,Ju]
   rw [if_neg h,if_pos h2,if_pos h1]
  ·rw [if_pos h1,if_neg h2]
   simp only [Ys,Ju]
   rw [if_neg h,if_neg h2,if_pos h1]
  ·rw [if_neg h1,if_pos h2]
   simp only [Ys,Ju]
   rw [if_pos h2,if_neg h1]
  ·rw [if_neg h1,if_neg h2]
   simp only [Ys,Ju]
   rw [if_neg h2,if_neg h1,sq r d l b c h]
theorem lr {l:Nat} : ∀ {c:AC},l∉c.refs->Be l c=c:=by
 intro c h
 cases c<;>simp only [Be]<;>simp only [AC.refs,List.mem_singleton] at h
 case clo f Cd=>rw [if_neg (by simpa using h)]
 all_goals (first|rfl|rw [if_neg (Ne.symm h)])
theorem Ut {l:Nat} : ∀ {cs:List AC},l∉cs.flatMap AC.refs->cs.map (Be l)=cs
 | [],_=>rfl
 |c::r,h=>by
  rw [List.flatMap_cons,List.mem_append] at h
  rw [List.map_cons,lr (λhh=>h (.inl hh)),Ut (λhh=>h (.inr hh))]
theorem wM {l:Nat} : ∀ {v:AV},l∉v.refs->v.map (Be l)=v
 | .at a,h=>by simp only [AV.map];rw [lr h]
 | .agg cs,h=>by simp only [AV.map];rw [Ut h]
 | .Vn _ _ _,_=>rfl
 | .Jq ps,h=>by
  simp only [AV.map]
  congr 1
  simp only [AV.refs] at h
  induction ps with
  |nil=>rfl
  |cons p r ih=>
   rw [List.flatMap_cons,List.mem_append] at h
   rw [List.map_cons,Ut (λhh=>h (.inl hh)),ih (λhh=>h (.inr hh))]
theorem wN {l:Nat} : ∀ {b:OB},l∉b.refs->b.map (Be l)=b
 | .arr _ _ _ _ _,_=>rfl
 | .Dl _ _ _,_=>rfl
 | .var _ vs,h=>by simp only [OB.map];rw [Ut h]
 | .Ao _ _ _ _ _,_=>rfl
 | .Pp _ _,_=>rfl
theorem wz {l:Nat} : ∀ {H:List (Nat×OB)},(∀p∈H,p.1≠l)->Ug H l=H
 | [],_=>rfl
 |(k,b)::r,h=>by
  simp only [Ug]
  rw [if_neg (h (k,b) (by simp)),wz λp hp=>h p (by simp [hp])]
theorem El.forget {l:Nat} {st:St} (h:El l st):st.forget l=st:=by
 have e1:st.tmps.map (λv=>v.map (Be l))=st.tmps:=(List.map_congr_left λv hv=>wM (h.tmps v hv)).trans (List.map_id _)
 have e2:st.heap.map (λp=>(p.1,p.2.map (Be l)))=st.heap:=(List.map_congr_left λp hp=>by rw [wN (h.heap p hp).2];rfl).trans (List.map_id _)
 unfold St.forget St.Gs
 simp only [e1,e2]
 rw [wz λp hp=>(h.heap p hp).1]
theorem El.new {l:Nat} {st:St} (h:El l st) (b:OB) (v:AV):(st.new l b).put (some l) v=Fg l v b st:=by
 unfold St.new
 rw [h.forget]
 rfl
theorem oq {α:Type} : ∀ {xs:List α} {d:Nat} {v x:α},x∈Ou xs d v->x∈xs\/x=v
 | [],_,_,_,h=>by cases h
 |y::r,0,v,x,h=>by
  rcases List.mem_cons.1 h with h|h
  ·exact .inr h
  ·exact .inl (List.mem_cons_of_mem _ h)
 |y::r,d+1,v,x,h=>by
  rcases List.mem_cons.1 h with h|h
  ·exact .inl (by rw [h];simp)
  ·exact (oq h).imp (List.mem_cons_of_mem _) id
theorem xx: ∀ {H:List (Nat×OB)} {d:Nat} {b:OB} {p:Nat×OB},p∈Ju H d b->p∈H\/p=(d,b)
 | [],d,b,p,h=> .inr (by simpa [Ju] using h)
 |(k,c)::r,d,b,p,h=>by
  simp only [Ju] at h
  split at h
  ·rcases List.mem_cons.1 h with h|h
   ·exact .inr h
   ·exact .inl h
  ·rcases List.mem_cons.1 h with h|h
   ·exact .inl (by rw [h];simp)
   ·exact (xx h).imp (List.mem_cons_of_mem _) id
theorem QY {d:Nat} {v:AV} {b:OB} {st:St} {x:Operand} (h:x≠ .tmp d):(Fg d v b st).ev x=st.ev x:=by
 cases x with
 |tmp t=>exact Zl _ _ _ _ _ (λe=>h (by rw [e]))
 |_=>rfl
theorem DE {d l:Nat} {v:AV} {b:OB} {st:St} (h:d≠l):(Fg d v b st).at l=st.at l:=rC _ _ _ _ h
theorem KL {d e:Nat} {v u:AV} {b:OB} {st:St} (h:d≠e):(Fg d v b st).put (some e) u=Fg d v b (st.put (some e) u):=by
 unfold Fg St.put
 simp only
 rw [kQ _ _ _ _ _ h]
theorem FP {d l:Nat} {v:AV} {b c:OB} {st:St} (h:d≠l):(Fg d v b st).Gk l c=Fg d v b (st.Gk l c):=by
 unfold Fg St.Gk
 simp only
 rw [sq _ _ _ _ _ h]
theorem qZ {d e:Nat} {v u:AV} {b c:OB} {st:St} (h:d≠e):Fg e u c (Fg d v b st)=Fg d v b (Fg e u c st):=by
 unfold Fg
 rw [kQ _ _ _ _ _ h,rF _ _ _ _ _ h]
theorem El.put {d:Nat} {st:St} {e:Nat} {u:AV} (h:El d st) (zI:e≠d) (hu:d∉u.refs):El d (st.put (some e) u):=
 ⟨by show (List.getD (Ou st.tmps e u) d .undef).refs= [];rw [Zl _ _ _ _ _ zI];exact h.own,λv hv=>(oq hv).elim (h.tmps v) λe=>by rw [e];exact hu,h.heap⟩
theorem El.plus {d e:Nat} {u:AV} {c:OB} {st:St} (h:El d st) (zI:d≠e) (hu:d∉u.refs) (hc:d∉c.refs):El d (Fg e u c st):=
 ⟨by show (List.getD (Ou st.tmps e u) d .undef).refs= [];rw [Zl _ _ _ _ _ (Ne.symm zI)];exact h.own,λv hv=>(oq hv).elim (h.tmps v) λe=>by rw [e];exact hu,λp hp=>(xx hp).elim (h.heap p) λe'=>by rw [e'];exact ⟨Ne.symm zI,hc⟩⟩
theorem El.ZG {d e:Nat} {u:AV} {c:OB} {st:St} (h:El d (Fg e u c st)): ∀p∈st.heap,p.1≠d/\d∉p.2.refs:= λp hp=>h.heap p (by
 show p∈Ju st.heap e c
 generalize st.heap=H at hp
 induction H with
 |nil=>cases hp
 |cons q r ih=>
  obtain ⟨k,a⟩:=q
  simp only [Ju]
  split
  ·exact List.mem_cons_of_mem _ hp
  ·rcases List.mem_cons.1 hp with hp|hp
   ·rw [hp];simp
   ·exact List.mem_cons_of_mem _ (ih hp))
theorem mF {st st':St} : ∀(τ:Ty) (cs:List AC),cs.all (·.settled)=true->Cv st' τ cs=Cv st τ cs:=by
 intro τ
 induction τ with
 |unit=>intro cs _;cases cs<;>rfl
 |pair a r ij eE=>
  intro cs h
  simp only [Cv]
  rw [List.all_eq_true] at h
  rw [ij _ (List.all_eq_true.2 λc hc=>h c (List.mem_of_mem_take hc)),eE _ (List.all_eq_true.2 λc hc=>h c (List.mem_of_mem_drop hc))]
 |_=>
  intro cs h
  rcases cs with _|⟨c,_|⟨c',cs⟩⟩
  ·rfl
  ·simp only [List.all_cons,List.all_nil,Bool.and_true] at h
   simp only [Cv]
   exact Vb h
  ·rfl
theorem bC {st st':St} {τ:Ty} {v:AV} (h:v.settled=true):Cy st' τ v=Cy st τ v:=by
 cases v with
 | «at»a=>
  have ha:a.settled=true:=h
  cases a<;>simp only [AC.settled,Bool.false_eq_true] at ha
  all_goals
   simp only [Cy]
   rw [Lb rfl,Lb rfl]
   rw [Vb (st:=st) (st':=st') rfl]
 |agg cs=>simp only [Cy];rw [mF _ _ h]
 |Vn _ _ _=>rfl
 |Jq _=>rfl
theorem ee {st st':St} : ∀(τ:Ty) (vs:List AV),vs.all (·.settled)=true->Ca st' τ vs=Ca st τ vs
 | .pair a r,v::vs,h=>by
  rw [List.all_cons,Bool.and_eq_true] at h
  simp only [Ca]
  rw [bC (st:=st) (st':=st') h.1,ee r vs h.2]
 | .pair _ _,[],_=>rfl
 | .unit,[],_=>rfl
 | .unit,_::_,_=>rfl
 | .int _,vs,_=>by cases vs<;>rfl
 | .bool,vs,_=>by cases vs<;>rfl
 | .str,vs,_=>by cases vs<;>rfl
 | .slice _,vs,_=>by cases vs<;>rfl
 | .oslice _,vs,_=>by cases vs<;>rfl
 | .ptr _,vs,_=>by cases vs<;>rfl
 | .optr _,vs,_=>by cases vs<;>rfl
 | .smap _,vs,_=>by cases vs<;>rfl
 | .clo _ _,vs,_=>by cases vs<;>rfl
def Qj:AV->Bool
 | .at (.data _ _ _)=>true
 |_=>false
def ec (o:Oper):List Operand:=match o.op with
 | .move x=> [x]
 | .load _ x=> [x]
 | .call {callee:= .value (.func _),args, .. } =>args.toList
 | .insert _ m k x=> [m,k,x]
 | .buildSlice _ _ parts=>parts.toList.map (·.2)
 |_=> []
def dr (d:Nat):Operand->Bool
 | .tmp t=>!Nat.beq t d
 |_=>true
theorem HK {d:Nat} {x:Operand} (h:dr d x=true):x≠ .tmp d:= λe=>by
 subst e
 simp [dr] at h
def Qm (Γ:Env) (st:St) (o:Oper):Bool:=match o.guard with
 |some _=>false
 |none=>match o.op with
  | .move _=>true
  | .load _ x=>(match st.ev x with
   | .at (.Eb _ _)=>true
   |_=>false)
  | .call {callee:= .value (.func f),args, .. } =>(match Γ f with
   |some (.q _)=>true
   |_=>false)&&args.toList.all λx=>(st.ev x).settled
  | .insert _ m k x=>(match st.ev m with
   | .at (.Gt _)=>true
   |_=>false)&&Qj (st.ev k)&&(st.ev x).settled
  | .buildSlice _ _ parts=>(parts.toList.all λp=>Qj (st.ev p.2))&&(match o.dst with
   |some e=>ky e st
   |none=>false)
  |_=>false
theorem El.ev {d:Nat} {st:St} (h:El d st) (x:Operand):d∉(st.ev x).refs:=by
 cases x with
 |tmp t=>
  simp only [St.ev,St.get]
  rw [List.getD_eq_getElem?_getD]
  by_cases hl:t<st.tmps.length
  ·rw [List.getElem?_eq_getElem hl];exact h.tmps _ (List.getElem_mem hl)
  ·rw [List.getElem?_eq_none (Nat.le_of_not_lt hl)];simp [AV.refs,AC.refs]
 |const c=>
  simp only [St.ev]
  unfold iz
  split<;>simp [AV.refs,AC.refs]
 |func f=>simp [St.ev,AV.refs,AC.refs]
 |_=>simp [St.ev,AV.refs,AC.refs]
theorem wW: ∀ {H:List (Nat×OB)} {l:Nat} {b:OB},Ag H l=some b->(l,b)∈H
 |(k,c)::r,l,b,h=>by
  simp only [Ag] at h
  split at h
  ·rename_i e;subst e;cases h;simp
  ·exact List.mem_cons_of_mem _ (wW h)
section
variable {T:Tab} {Γ:Env} {ops:Array Oper} {d:Nat} {v:AV} {b:OB} {t:St}
theorem sa {e:Option Tmp} (h:e≠some d) (hn:El d t) {y:AV} (hy:d∉y.refs):(Fg d v b t).put e y=Fg d v b (t.put e y)/\El d (t.put e y):=by
 cases e with
 |none=>exact ⟨rfl,hn⟩
 |some k=>exact ⟨KL (λe=>h (by rw [e])),hn.put (λe=>h (by rw [e])) hy⟩
theorem dB {o:Oper} (hg:o.guard=none) (Zo:o.dst≠some d) (hn:El d t) {q:Option AV} (h1:evalOp T Γ (Fg d v b t) o=q.map λy=>(y,Fg d v b t)) (h2:evalOp T Γ t o=q.map λy=>(y,t)) (hq: ∀y,q=some y->d∉y.refs) {s':St}
  (he:Cq T Γ ops (Fg d v b t) o=some s'): ∃t',Cq T Γ ops t o=some t'/\s'=Fg d v b t'/\El d t':=by
 unfold Cq at he⊢
 rw [hg] at he⊢
 simp only at he⊢
 rw [h1] at he
 cases q with
 |none=>cases he
 |some y=>
  obtain ⟨p1,p2⟩:=sa (v:=v) (b:=b) Zo hn (hq y rfl)
  refine ⟨_,by rw [h2];rfl,?_,p2⟩
  simp only [Option.map_some,Option.some.injEq] at he
  rw [<-he,p1]
theorem Td {l:List Operand} (hu:l.all (dr d)=true): ∀x∈l,(Fg d v b t).ev x=t.ev x:= λx hx=>QY (HK (List.all_eq_true.1 hu x hx))
theorem AH {dst:Option Tmp} {x:Operand} {ty:TypeId} {pos:String} {after:Array Edge} (hn:El d t) (hx:(Fg d v b t).ev x=t.ev x) (Zo:dst≠some d) {s':St}
  (he:Cq T Γ ops (Fg d v b t) {dst:=dst,op:= .move x,type:=ty,pos:=pos,after:=after,guard:=none} =some s'):
  ∃t',Cq T Γ ops t {dst:=dst,op:= .move x,type:=ty,pos:=pos,after:=after,guard:=none} =some t'/\s'=Fg d v b t'/\El d t':=
 dB rfl Zo hn (q:=some (t.ev x)) (by simp only [evalOp,Cp,hx]) (by simp only [evalOp,Cp]) (λy hy=>by cases hy;exact hn.ev x) he
def loadVar (T:Tab) (o:Option OB) (t0:TypeId) (i:Nat):Option AV:=match T.ty t0 with
 |some τ=>(match o with
  |some (.var _ vs)=>if τ.Ac then (if i+τ.size<=vs.length then some (.agg ((vs.drop i).take τ.size)) else none) else vs[i]?.map .at
  |_=>none)
 |none=>none
theorem ff {st:St} {t0:TypeId} {l i:Nat} :Ku T st t0 (.at (.Eb l i))=loadVar T (st.at l) t0 i:=by
 unfold Ku loadVar
 cases T.ty t0<;>rfl
theorem AD {dst:Option Tmp} {t0:TypeId} {x:Operand} {ty:TypeId} {pos:String} {after:Array Edge} (hn:El d t) (hx:(Fg d v b t).ev x=t.ev x) (Zo:dst≠some d) {l i:Nat} (hp:t.ev x= .at (.Eb l i)) {s':St}
  (he:Cq T Γ ops (Fg d v b t) {dst:=dst,op:= .load t0 x,type:=ty,pos:=pos,after:=after,guard:=none} =some s'):
  ∃t',Cq T Γ ops t {dst:=dst,op:= .load t0 x,type:=ty,pos:=pos,after:=after,guard:=none} =some t'/\s'=Fg d v b t'/\El d t':=by
 have hld:d≠l:= λe=>by
  have:=hn.ev x
  rw [hp,e] at this
  exact this (by simp [AV.refs,AC.refs])
 refine dB rfl Zo hn (q:=loadVar T (t.at l) t0 i) ?_ ?_ (λy hy=>?_) he
 ·simp only [evalOp,Cp,hx,hp]
  rw [ff,DE hld]
 ·simp only [evalOp,Cp,hp]
  rw [ff]
 ·unfold loadVar at hy
  split at hy
  ·split at hy
   ·rename_i vs hb
    have hr:d∉vs.flatMap AC.refs:=(hn.heap _ (wW hb)).2
    have gE: ∀c∈vs,d∉c.refs:= λc hc hd=>hr (List.mem_flatMap.2 ⟨c,hc,hd⟩)
    split at hy
    ·split at hy
     ·cases hy
      intro hd
      obtain ⟨c,hc,hd⟩:=List.mem_flatMap.1 hd
      exact gE c (List.mem_of_mem_drop (List.mem_of_mem_take hc)) hd
     ·cases hy
    ·cases hv:vs[i]? with
     |none=>rw [hv] at hy;cases hy
     |some c=>
      rw [hv] at hy
      cases hy
      exact gE c (List.mem_of_getElem? hv)
   ·cases hy
  ·cases hy
theorem FT {l:List Operand} (hu:l.all (dr d)=true):l.map (Fg d v b t).ev=l.map t.ev:=List.map_congr_left λx hx=>Td hu x hx
theorem zp {dst:Option Tmp} {f:FuncId} {args:Array Operand} {tys:Array TypeId} {ty:TypeId} {pos:String} {after:Array Edge} {sp:Spec} (Nb:Γ f=some (.q sp)) (hn:El d t) (hx:args.toList.map (Fg d v b t).ev=args.toList.map t.ev) (Zo:dst≠some d)
  (hs:(args.toList.map t.ev).all (·.settled)=true) {s':St} (he:Cq T Γ ops (Fg d v b t) {dst:=dst,op:= .call {callee:= .value (.func f),args:=args,argTypes:=tys},type:=ty,pos:=pos,after:=after,guard:=none} =some s'):
  ∃t',Cq T Γ ops t {dst:=dst,op:= .call {callee:= .value (.func f),args:=args,argTypes:=tys},type:=ty,pos:=pos,after:=after,guard:=none} =some t'/\s'=Fg d v b t'/\El d t':=by
 have EI:aW sp (args.toList.map t.ev)=false:=by unfold aW;rw [hs];simp
 have zJ: ∀st:St,Ka Γ st f (args.toList.map t.ev)=(match Ca t sp.arg (args.toList.map t.ev) with
   |none=>none
   |some (_,x)=>(sp.fn x).map λy=>if sp.Ej then .Vn (sp.fresh||sp.res.flat) sp.res y else .at (.data (sp.fresh||sp.res.flat) sp.res y)):= λst=>by
  unfold Ka
  rw [Nb]
  simp only
  rw [hs,ee (st:=t) _ _ hs]
  simp only [Bool.or_true,if_true]
  cases Ca t sp.arg (args.toList.map t.ev)<;>rfl
 refine dB rfl Zo hn (q:=Ka Γ t f (args.toList.map t.ev)) ?_ ?_ (λy hy=>?_) he
 ·simp only [evalOp,Cp,Nb,hx,EI]
  rw [zJ,zJ t]
  simp
 ·simp only [evalOp,Cp,Nb,EI]
  simp
 ·rw [zJ t] at hy
  split at hy
  ·cases hy
  ·rename_i x _
   cases hf:sp.fn x with
   |none=>rw [hf] at hy;cases hy
   |some z=>
    rw [hf] at hy
    simp only [Option.map_some,Option.some.injEq] at hy
    rw [<-hy]
    split<;>simp [AV.refs,AC.refs]
def jc (T:Tab) (o:Option OB) (t0:TypeId) (s:ByteArray) (vw:(v:Ty)->Option (Bool×v.den)):Option OB:=match T.mapOf t0 with
 |some v=>(match o,vw v with
  |some (.Pp v' f),some (_,y)=>if h:v'=v/\v.flat=true/\v.Ac=false then some (.Pp v (bB (h.1▸f:ByteArray->Option v.den) s y)) else none
  |_,_=>none)
 |none=>none
theorem fg {st:St} {t0:TypeId} {l:Nat} {fr:Bool} {s:ByteArray} {x:AV} :Fc T st t0 (.at (.Gt l)) (.at (.data fr .str s)) x=(jc T (st.at l) t0 s λv=>Cy st v x).map λc=>st.Gk l c:=by
 unfold Fc jc
 cases T.mapOf t0 with
 |none=>rfl
 |some v0=>
  simp only
  cases st.at l with
  |none=>rfl
  |some c=>
   cases c with
   |Pp v' f=>
    cases Cy st v0 x with
    |none=>rfl
    |some p=>
     simp only
     split<;>rfl
   |_=>rfl
theorem xt {o:Option OB} {t0:TypeId} {s:ByteArray} {vw:(v:Ty)->Option (Bool×v.den)} {c:OB} (h:jc T o t0 s vw=some c):c.refs= []:=by
 unfold jc at h
 split at h
 ·split at h
  ·split at h
   ·cases h;rfl
   ·cases h
  ·cases h
 ·cases h
theorem nI {st:St} {t0:TypeId} {m k x:AV} {s':St} (h:Fc T st t0 m k x=some s'): ∃l fr s,m= .at (.Gt l)/\k= .at (.data fr .str s):=by
 unfold Fc at h
 split at h
 ·exact ⟨_,_,_,rfl,rfl⟩
 ·cases h
theorem xy: ∀ {H:List (Nat×OB)} {l:Nat} {c:OB} {p:Nat×OB},p∈Ys H l c->p∈H\/(p.2=c/\p.1=l/\ ∃c',(l,c')∈H)
 |(k,a)::r,l,c,p,h=>by
  simp only [Ys] at h
  split at h
  ·rename_i e
   rcases List.mem_cons.1 h with h|h
   ·subst h;exact .inr ⟨rfl,e,a,by rw [e];simp⟩
   ·exact .inl (List.mem_cons_of_mem _ h)
  ·rcases List.mem_cons.1 h with h|h
   ·exact .inl (by rw [h];simp)
   ·exact (xy h).imp (List.mem_cons_of_mem _) λ⟨h1,h2,c',h3⟩=>⟨h1,h2,c',List.mem_cons_of_mem _ h3⟩
theorem El.Gk {st:St} {l:Nat} {c:OB} (h:El d st) (hc:d∉c.refs):El d (st.Gk l c):=
 ⟨h.own,h.tmps,λp hp=>(xy hp).elim (h.heap p) λ⟨h1,h2,c',h3⟩=>⟨by rw [h2];exact (h.heap _ h3).1,by rw [h1];exact hc⟩⟩
theorem tE {dst:Option Tmp} {t0:TypeId} {m k x:Operand} {ty:TypeId} {pos:String} {after:Array Edge} (hn:El d t) (hm:(Fg d v b t).ev m=t.ev m) (hk:(Fg d v b t).ev k=t.ev k) (hx:(Fg d v b t).ev x=t.ev x) (Zo:dst≠some d)
  (hs:(t.ev x).settled=true) {s':St} (he:Cq T Γ ops (Fg d v b t) {dst:=dst,op:= .insert t0 m k x,type:=ty,pos:=pos,after:=after,guard:=none} =some s'):
  ∃t',Cq T Γ ops t {dst:=dst,op:= .insert t0 m k x,type:=ty,pos:=pos,after:=after,guard:=none} =some t'/\s'=Fg d v b t'/\El d t':=by
 unfold Cq at he⊢
 simp only [evalOp,hm,hk,hx] at he⊢
 cases QP:Fc T (Fg d v b t) t0 (t.ev m) (t.ev k) (t.ev x) with
 |none=>rw [QP] at he;cases he
 |some s1=>
  rw [QP] at he
  simp only [Option.map_some,Option.some.injEq] at he
  obtain ⟨l,fr,s,e1,e2⟩:=nI QP
  have hld:d≠l:= λe=>by
   have:=hn.ev m
   rw [e1,e] at this
   exact this (by simp [AV.refs,AC.refs])
  rw [e1,e2,fg,DE hld] at QP
  have hvw:(λv0=>Cy (Fg d v b t) v0 (t.ev x))= λv0=>Cy t v0 (t.ev x):=funext λv0=>bC hs
  rw [hvw] at QP
  rw [e1,e2,fg]
  cases ho:jc T (t.at l) t0 s λv0=>Cy t v0 (t.ev x) with
  |none=>rw [ho] at QP;cases QP
  |some c=>
   rw [ho] at QP
   simp only [Option.map_some,Option.some.injEq] at QP
   have hc:=xt ho
   have jI:El d (t.Gk l c):=hn.Gk (by rw [hc];simp)
   obtain ⟨p1,p2⟩:=sa (v:=v) (b:=b) (y:= .undef) Zo jI (by simp [AV.refs,AC.refs])
   refine ⟨_,rfl,?_,p2⟩
   rw [<-he,<-QP,FP hld,p1]
theorem El.back {e:Nat} (h:El e (Fg d v b t)) (zI:e≠d) (hn:El d t):El e t:=by
 have hg: ∀k,k≠d->(Fg d v b t).get k=t.get k:= λk hk=>Zl _ _ _ _ _ (Ne.symm hk)
 refine ⟨by rw [<-hg e zI];exact h.own,λu hu hd=>?_,h.ZG⟩
 obtain ⟨k,hk,rfl⟩:=List.mem_iff_getElem.1 hu
 have e1:t.get k=t.tmps[k]:=by unfold St.get;rw [List.getD_eq_getElem?_getD,List.getElem?_eq_getElem hk];rfl
 by_cases VH:k=d
 ·subst VH
  have:=hn.own
  rw [e1] at this
  rw [this] at hd
  cases hd
 ·have h1:=h.ev (.tmp k)
  have h2:(Fg d v b t).ev (.tmp k)=t.tmps[k]:=by show (Fg d v b t).get k=_;rw [hg k VH,e1]
  rw [h2] at h1
  exact h1 hd
def gP (e:Ty):Nat->List (Nat×AV)->Option (Bool×Bool×List e.den)
 |_,[]=>some (true,true,[])
 |i,(j,x)::r=>if i=j then match Cy ⟨[],[]⟩ e x with
  |some (fr,y)=>match gP e (i+1) r with
   |some (Py,PK,ys)=>some (fr&&Py,Nr ⟨[],[]⟩ x&&e.tree&&PK,y::ys)
   |none=>none
  |none=>none
  else none
theorem Zb {st:St} {e:Ty} : ∀(l:List (Nat×Operand)) (i:Nat),(l.all λp=>Qj (st.ev p.2))=true->Hc e i l st=(gP e i (l.map λp=>(p.1,st.ev p.2))).map λp=>(p.1,p.2.1,p.2.2,st)
 | [],i,_=>rfl
 |(j,x)::r,i,h=>by
  rw [List.all_cons,Bool.and_eq_true] at h
  have hx:Qj (st.ev x)=true:=h.1
  simp only [Hc,gP,List.map_cons]
  split
  ·generalize hxv:st.ev x=xv at hx
   unfold Qj at hx
   split at hx
   ·rename_i fr τ z
    have YQ:settle st (.at (.data fr τ z))=some (.at (.data fr τ z),st):=rfl
    rw [YQ]
    simp only
    rw [bC (st:=⟨[],[]⟩) (st':=st) (v:= .at (.data fr τ z)) rfl]
    cases Cy ⟨[],[]⟩ e (.at (.data fr τ z)) with
    |none=>rfl
    |some p=>
     simp only
     rw [Zb r (i+1) h.2]
     cases gP e (i+1) (r.map λp=>(p.1,st.ev p.2)) with
     |none=>rfl
     |some q=>rfl
   ·cases hx
  ·rfl
def rowOf (T:Tab) (t0:TypeId) (len:Nat) (parts:List (Nat×AV)) (dst:Nat):Option (AV×OB):=match Zm T t0 with
 |some _=>none
 |none=>match T.elem t0 with
  |none=>none
  |some te=>match T.ty te with
   |none=>none
   |some e=>if parts.length=len/\len<=64/\e.size<=64/\dst<Am then (gP e 0 parts).map λp=>(.at (.own dst 0 len), .arr ((T.nM||e.flat)&&p.1) (T.vo&&p.2.1) e te p.2.2) else none
theorem cz {st:St} {t0:TypeId} {len dst:Nat} {parts:Array (Nat×Operand)} (h:(parts.toList.all λp=>Qj (st.ev p.2))=true):
  Ez T st dst t0 len parts=(rowOf T t0 len (parts.toList.map λp=>(p.1,st.ev p.2)) dst).map λr=>(r.1,st.new dst r.2):=by
 unfold Ez rowOf
 cases Zm T t0 with
 |some p=>
  obtain ⟨te,e⟩:=p
  simp only [Option.map_none]
  split
  ·rename_i x hp
   rw [hp,List.all_cons,Bool.and_eq_true] at h
   have hx:Qj (st.ev x)=true:=h.1
   unfold Qj at hx
   split at hx
   ·rename_i hv;simp only [hv]
   ·cases hx
  ·rfl
 |none=>
  simp only
  unfold Hz
  cases T.elem t0 with
  |none=>rfl
  |some te=>
   simp only
   cases T.ty te with
   |none=>rfl
   |some e=>
    simp only [List.length_map,Array.length_toList]
    split
    ·rw [Zb _ 0 h]
     cases gP e 0 (parts.toList.map λp=>(p.1,st.ev p.2))<;>rfl
    ·rfl
theorem lP {t0:TypeId} {len dst:Nat} {parts:List (Nat×AV)} {r:AV×OB} (h:rowOf T t0 len parts dst=some r):mZ dst r.1 r.2:=by
 unfold rowOf at h
 split at h
 ·cases h
 ·split at h
  ·cases h
  ·split at h
   ·cases h
   ·split at h
    ·rename_i e _ _
     cases hp:gP e 0 parts with
     |none=>rw [hp] at h;cases h
     |some p=>
      rw [hp] at h
      simp only [Option.map_some,Option.some.injEq] at h
      subst h
      exact ⟨λl hl=>by simpa [AV.refs,AC.refs] using hl,rfl,λl hl=>by simp only [AV.map,Be];rw [if_neg (Ne.symm hl)],λl=>rfl⟩
    ·cases h
theorem wj {e:Nat} {t0:TypeId} {len:Nat} {parts:Array (Nat×Operand)} {ty:TypeId} {pos:String} {after:Array Edge} (_hl:mZ d v b) (hn:El d t) (hx: ∀p∈parts.toList,(Fg d v b t).ev p.2=t.ev p.2) (Zo:e≠d)
  (hp:(parts.toList.all λp=>Qj (t.ev p.2))=true) (Et:El e (Fg d v b t)) {s':St} (he:Cq T Γ ops (Fg d v b t) {dst:=some e,op:= .buildSlice t0 len parts,type:=ty,pos:=pos,after:=after,guard:=none} =some s'):
  ∃t',Cq T Γ ops t {dst:=some e,op:= .buildSlice t0 len parts,type:=ty,pos:=pos,after:=after,guard:=none} =some t'/\s'=Fg d v b t'/\El d t':=by
 have YF:=Et.back Zo hn
 have EJ:(parts.toList.all λp=>Qj ((Fg d v b t).ev p.2))=true:=List.all_eq_true.2 λp tB=>by rw [hx p tB];exact List.all_eq_true.1 hp p tB
 have hm:(parts.toList.map λp=>(p.1,(Fg d v b t).ev p.2))=parts.toList.map λp=>(p.1,t.ev p.2):=List.map_congr_left λp tB=>by rw [hx p tB]
 unfold Cq at he⊢
 simp only [evalOp] at he⊢
 rw [cz EJ,hm] at he
 rw [cz hp]
 cases hr:rowOf T t0 len (parts.toList.map λp=>(p.1,t.ev p.2)) e with
 |none=>rw [hr] at he;cases he
 |some r=>
  rw [hr] at he
  have hL:=lP hr
  simp only [Option.map_some,Option.some.injEq] at he
  rw [Et.new] at he
  refine ⟨Fg e r.1 r.2 t,by simp only [Option.map_some];rw [YF.new],?_,hn.plus (Ne.symm Zo) (λh=>Zo (hL.v1 _ h).symm) (by rw [hL.b1];simp)⟩
  rw [<-he,qZ (Ne.symm Zo)]
def WY:Operand->AV
 | .const c=>iz c
 |_=> .undef
theorem WZ {st:St} {x:Operand} (h:Qj (WY x)=true):st.ev x=WY x:=by
 cases x<;>first|rfl|cases h
def aB (T:Tab) (o:Oper):Option (Nat×AV×OB):=match o.guard with
 |some _=>none
 |none=>match o.dst with
  |none=>none
  |some d=>match o.op with
   | .buildSlice t0 len parts=>if (parts.toList.all λp=>Qj (WY p.2))=true then (rowOf T t0 len (parts.toList.map λp=>(p.1,WY p.2)) d).map λr=>(d,r.1,r.2) else none
   | .makeMap t0 none=>match T.mapOf t0 with
    |some τ=>if d<Am then some (d, .at (.Gt d), .Pp τ λ_=>none) else none
    |none=>none
   |_=>none
theorem aC {o:Oper} {r:Nat×AV×OB} (h:aB T o=some r):o.dst=some r.1/\mZ r.1 r.2.1 r.2.2/\ ∀st:St,El r.1 st->Cq T Γ ops st o=some (Fg r.1 r.2.1 r.2.2 st):=by
 obtain ⟨dst,op,ty,pos,after,guard⟩:=o
 unfold aB at h
 cases guard with
 |some g=>cases h
 |none=>
  cases dst with
  |none=>cases h
  |some d=>
   cases op with
   |buildSlice t0 len parts=>
    simp only at h
    split at h
    ·rename_i hp
     cases hr:rowOf T t0 len (parts.toList.map λp=>(p.1,WY p.2)) d with
     |none=>rw [hr] at h;cases h
     |some q=>
      rw [hr] at h
      simp only [Option.map_some,Option.some.injEq] at h
      subst h
      refine ⟨rfl,lP hr,λst Qv=>?_⟩
      have zJ: ∀p∈parts.toList,st.ev p.2=WY p.2:= λp tB=>WZ (List.all_eq_true.1 hp p tB)
      have hm:(parts.toList.map λp=>(p.1,st.ev p.2))=parts.toList.map λp=>(p.1,WY p.2):=List.map_congr_left λp tB=>by rw [zJ p tB]
      have EJ:(parts.toList.all λp=>Qj (st.ev p.2))=true:=List.all_eq_true.2 λp tB=>by rw [zJ p tB];exact List.all_eq_true.1 hp p tB
      unfold Cq
      simp only [evalOp]
      rw [cz EJ,hm,hr]
      simp only [Option.map_some]
      rw [Qv.new]
    ·cases h
   |makeMap t0 hint=>
    cases hint with
    |some x=>cases h
    |none=>
     simp only at h
     split at h
     ·rename_i τ Nx
      split at h
      ·rename_i hd
       cases h
       refine ⟨rfl,⟨λl hl=>by simpa [AV.refs,AC.refs] using hl,rfl,λl hl=>by simp only [AV.map,Be];rw [if_neg (Ne.symm hl)],λl=>rfl⟩,λst Qv=>?_⟩
       unfold Cq
       simp only [evalOp,Oy,Nx,if_pos hd,Option.map_some]
       rw [Qv.new]
      ·cases h
     ·cases h
   |_=>cases h
theorem uF {l:List Operand} (h: ∀x∈l,(Fg d v b t).ev x=t.ev x):(l.all λx=>((Fg d v b t).ev x).settled)=(l.map t.ev).all (·.settled):=by
 rw [List.all_map]
 induction l with
 |nil=>rfl
 |cons x r ih=>
  simp only [List.all_cons,Function.comp]
  rw [h x (by simp),ih λy hy=>h y (by simp [hy])]
theorem uG {o:Oper} (hl:mZ d v b) (hn:El d t) (hs:Qm Γ (Fg d v b t) o=true) (hu:(ec o).all (dr d)=true) (Zo:o.dst≠some d) {s':St} (he:Cq T Γ ops (Fg d v b t) o=some s'):
  ∃t',Cq T Γ ops t o=some t'/\s'=Fg d v b t'/\El d t'/\Qm Γ t o=true:=by
 obtain ⟨dst,op,ty,pos,after,guard⟩:=o
 unfold Qm at hs
 cases guard with
 |some g=>cases hs
 |none=>
  simp only at hs
  split at hs
  ·rename_i x
   have hx:=Td (v:=v) (b:=b) (t:=t) hu x (by simp [ec])
   obtain ⟨t',h1,h2,h3⟩:=AH hn hx Zo he
   exact ⟨t',h1,h2,h3,rfl⟩
  ·rename_i t0 x
   have hx:=Td (v:=v) (b:=b) (t:=t) hu x (by simp [ec])
   rw [hx] at hs
   split at hs
   ·rename_i l i hp
    obtain ⟨t',h1,h2,h3⟩:=AD hn hx Zo hp he
    exact ⟨t',h1,h2,h3,by simp only [Qm,hp]⟩
   ·cases hs
  ·rename_i f args tys
   rw [Bool.and_eq_true] at hs
   obtain ⟨mO,EL⟩:=hs
   split at mO
   ·rename_i sp Nb
    have zJ:=Td (v:=v) (b:=b) (t:=t) (l:=args.toList) hu
    rw [uF zJ] at EL
    obtain ⟨t',h1,h2,h3⟩:=zp Nb hn (FT hu) Zo EL he
    refine ⟨t',h1,h2,h3,?_⟩
    simp only [Qm,Nb,Bool.true_and]
    rw [List.all_map] at EL
    exact EL
   ·cases mO
  ·rename_i t0 m k x
   have hm:=Td (v:=v) (b:=b) (t:=t) hu m (by simp [ec])
   have hk:=Td (v:=v) (b:=b) (t:=t) hu k (by simp [ec])
   have hx:=Td (v:=v) (b:=b) (t:=t) hu x (by simp [ec])
   rw [hm,hk,hx] at hs
   have hs0:=hs
   rw [Bool.and_eq_true] at hs
   obtain ⟨t',h1,h2,h3⟩:=tE hn hm hk hx Zo hs.2 he
   exact ⟨t',h1,h2,h3,hs0⟩
  ·rename_i t0 len parts
   rw [Bool.and_eq_true] at hs
   obtain ⟨mO,EL⟩:=hs
   cases dst with
   |none=>cases EL
   |some e=>
    simp only at EL
    have hed:e≠d:= λh=>Zo (by rw [h])
    have cg:(parts.toList.map (λp=>p.2)).all (dr d)=true:=hu
    have zJ:=Td (v:=v) (b:=b) (t:=t) cg
    have hx: ∀p∈parts.toList,(Fg d v b t).ev p.2=t.ev p.2:= λp hp=>zJ p.2 (List.mem_map.2 ⟨p,hp,rfl⟩)
    have hp:(parts.toList.all λp=>Qj (t.ev p.2))=true:=List.all_eq_true.2 λp hp=>by rw [<-hx p hp];exact List.all_eq_true.1 mO p hp
    have Et:=oz EL
    obtain ⟨t',h1,h2,h3⟩:=wj hl hn hx hed hp Et he
    refine ⟨t',h1,h2,h3,?_⟩
    simp only [Qm,hp,Bool.true_and]
    exact HI (Et.back hed hn)
  ·cases hs
def sE:List (Nat×AV×OB)->St->St->Prop
 | [],s,t=>s=t
 |q::Q,s,t=>El q.1 t/\sE Q s (Fg q.1 q.2.1 q.2.2 t)
theorem s5 {o:Oper} : ∀(Q:List (Nat×AV×OB)) (s t s':St),sE Q s t->(∀q∈Q,mZ q.1 q.2.1 q.2.2/\(ec o).all (dr q.1)=true/\o.dst≠some q.1)->Qm Γ s o=true->Cq T Γ ops s o=some s'->
  ∃t',Cq T Γ ops t o=some t'/\sE Q s' t'/\Qm Γ t o=true
 | [],s,t,s',h,_,hs,he=>by
  have h:s=t:=h
  subst h
  exact ⟨s',he,rfl,hs⟩
 |q::Q,s,t,s',⟨h1,h2⟩,hq,hs,he=>by
  obtain ⟨u',e1,e2,e3⟩:=s5 Q s _ s' h2 (λp hp=>hq p (List.mem_cons_of_mem _ hp)) hs he
  obtain ⟨l1,l2,l3⟩:=hq q (by simp)
  obtain ⟨t',f1,f2,f3,f4⟩:=uG l1 h1 e3 l2 l3 e1
  exact ⟨t',f1,⟨f3,by rw [<-f2];exact e2⟩,f4⟩
theorem s6 {q:Nat×AV×OB} : ∀(Q1:List (Nat×AV×OB)) {Q2:List (Nat×AV×OB)} {s t:St},sE (Q1++q::Q2) s t->(∀p∈Q1++q::Q2,mZ p.1 p.2.1 p.2.2)->(∀p∈Q1,p.1≠q.1)->
  El q.1 t/\sE (Q1++Q2) s (Fg q.1 q.2.1 q.2.2 t)
 | [],Q2,s,t,h,_,_=>h
 |p::Q1,Q2,s,t,⟨h1,h2⟩,hL,Et=>by
  have hpq:=Et p (by simp)
  have hLp:=hL p (by simp)
  have hLq:=hL q (by simp)
  obtain ⟨g1,g2⟩:=s6 Q1 h2 (λr hr=>hL r (List.mem_cons_of_mem _ hr)) λr hr=>Et r (List.mem_cons_of_mem _ hr)
  refine ⟨g1.back (Ne.symm hpq) h1,h1.plus hpq (λh=>hpq (hLq.v1 _ h)) (by rw [hLq.b1];simp),?_⟩
  show sE (Q1++Q2) s (Fg p.1 p.2.1 p.2.2 (Fg q.1 q.2.1 q.2.2 t))
  rw [qZ (Ne.symm hpq)]
  exact g2
def ib (ops:Array Oper):Nat->Nat->Nat->Bool
 |0,_,_=>false
 |f+1,i,a=>Region.waitsFor .any ops i a||(List.range ops.size).any λk=>Region.waitsFor .any ops i k&&ib ops f k a
def Uk (ops:Array Oper) (Ad:Array Bool):Prop:= ∀k a,Ad.getD k false=true->Region.waitsFor .any ops k a=true->Ad.getD a false=true
theorem dC {Ad:Array Bool} {i a:Nat} (h:i∈Region.ready .any ops Ad) (hw:Region.waitsFor .any ops i a=true):Ad.getD a false=true:=by
 obtain ⟨_,o,ho,Ir⟩:=mem_ready.1 h
 obtain ⟨o',ho',e,he,hb,rfl⟩:=Region.waitsFor_spec hw
 rw [ho] at ho'
 cases ho'
 exact Ir e he hb
theorem fW {Ad:Array Bool} (hc:Uk ops Ad) {a:Nat} : ∀(f i:Nat),(∀x,Region.waitsFor .any ops i x=true->Ad.getD x false=true)->ib ops f i a=true->Ad.getD a false=true
 |0,_,_,h=>by cases h
 |f+1,i,hi,h=>by
  simp only [ib,Bool.or_eq_true,List.any_eq_true,Bool.and_eq_true] at h
  rcases h with h|⟨k,_,h1,h2⟩
  ·exact hi a h
  ·exact fW hc f k (λx hx=>hc k x (hi k h1) hx) h2
theorem Uk.set {Ad:Array Bool} (hc:Uk ops Ad) {i:Nat} (hi:i∈Region.ready .any ops Ad):Uk ops (Ad.setIfInBounds i true):= λk a hk hw=>by
 by_cases hik:i=k
 ·subst hik
  exact getD_set_true (dC hi hw)
 ·rw [getD_set_ne false hik] at hk
  exact getD_set_true (hc k a hk hw)
def AM (P:List (Nat×Nat×AV×OB)) (Γ:Env) (ops:Array Oper) (st:St) (o:Oper) (i:Nat):Bool:=
 (P.all λa=>ib ops 5 i a.1)||(Qm Γ st o&&P.all λa=>ib ops 5 i a.1||((ec o).all (dr a.2.1)&&(match o.dst with
  |some e=>!Nat.beq e a.2.1
  |none=>true)))
def WU (T:Tab) (Γ:Env) (ops:Array Oper) (P:List (Nat×Nat×AV×OB)) (K:St->Prop):Nat->Array Bool->St->Prop
 |0,Ad,st=>Region.ready .any ops Ad= []/\K st
 |f+1,Ad,st=>Region.ready .any ops Ad≠ []/\ ∀i∈Region.ready .any ops Ad,∃o st',ops[i]?=some o/\AM P Γ ops st o i=true/\Cq T Γ ops st o=some st'/\WU T Γ ops P K f (Ad.setIfInBounds i true) st'
structure JV (lc la:Array Bool) (Q:List Nat):Prop where
 size:la.size=lc.size
 off: ∀k∈Q,k<la.size/\la.getD k false=false/\lc.getD k false=true
 same: ∀k,k∉Q->la.getD k false=lc.getD k false
theorem JV.ready {lc la:Array Bool} {Q:List Nat} (h:JV lc la Q) {i:Nat} (hi:i∈Region.ready .any ops la) (hn:i∉Q):i∈Region.ready .any ops lc:=by
 obtain ⟨h1,o,ho,Ir⟩:=mem_ready.1 hi
 have Hm:i<la.size:=by
  rcases Nat.lt_or_ge i la.size with h'|h'
  ·exact h'
  ·simp [Array.getElem?_eq_none h'] at h1
 have h2:=getD_both h1
 rw [h.same i hn] at h2
 refine mem_ready.2 ⟨getD_in (by rw [<-h.size];exact Hm) h2,o,ho,λe he hb=>?_⟩
 have h3:=Ir e he hb
 by_cases hq:e.on∈Q
 ·exact (h.off _ hq).2.2
 ·rw [<-h.same _ hq];exact h3
theorem JV.nil {lc la:Array Bool} (h:JV lc la []):la=lc:=by
 refine Array.ext h.size λk h1 h2=>?_
 have:=h.same k (by simp)
 simpa [h1,h2] using this
theorem JV.one {lc la:Array Bool} {Q Q':List Nat} {i:Nat} (h:JV lc la Q) (hi:i∈Q) (hs: ∀k,k∈Q'↔k∈Q/\k≠i):JV lc (la.setIfInBounds i true) Q':=by
 refine ⟨by simp [h.size],λk hk=>?_,λk hk=>?_⟩
 ·obtain ⟨h1,h2⟩:=(hs k).1 hk
  obtain ⟨g1,g2,g3⟩:=h.off k h1
  exact ⟨by simpa using g1,by rw [getD_set_ne false (Ne.symm h2)];exact g2,g3⟩
 ·by_cases e:i=k
  ·subst e
   obtain ⟨g1,g2,g3⟩:=h.off i hi
   rw [g3]
   simp [g1]
  ·rw [getD_set_ne false e]
   exact h.same k λhq=>hk ((hs k).2 ⟨hq,Ne.symm e⟩)
theorem JV.both {lc la:Array Bool} {Q:List Nat} {i:Nat} (h:JV lc la Q) (hi:i∉Q):JV (lc.setIfInBounds i true) (la.setIfInBounds i true) Q:=by
 refine ⟨by simp [h.size],λk hk=>?_,λk hk=>?_⟩
 ·obtain ⟨g1,g2,g3⟩:=h.off k hk
  have Et:i≠k:= λe=>hi (by rw [e];exact hk)
  exact ⟨by simpa using g1,by rw [getD_set_ne false Et];exact g2,by rw [getD_set_ne false Et];exact g3⟩
 ·by_cases e:i=k
  ·subst e
   have hs:=h.same i hi
   have hz:=h.size
   by_cases hl:i<la.size
   ·simp [hl,hz▸hl]
   ·have Hl: ¬i<lc.size:=by omega
    simp [hl,Hl]
  ·rw [getD_set_ne false e,getD_set_ne false e];exact h.same k hk
theorem AJ {dst:Option Tmp} {d:Nat} (h:(match dst with
  |some e=>!Nat.beq e d
  |none=>true)=true):dst≠some d:= λe=>by
 subst e
 simp at h
theorem FQ {P:List (Nat×Nat×AV×OB)} {K:St->Prop} (hP: ∀a∈P,∃o,ops[a.1]?=some o/\aB T o=some a.2):
  ∀(n f:Nat) (Q:List (Nat×Nat×AV×OB)) (lc la:Array Bool) (s t:St),n=f+Q.length->WU T Γ ops P K f lc s->sE (Q.map (·.2)) s t->JV lc la (Q.map (·.1))->(∀a∈Q,a∈P)->
   (Q.Pairwise λa c=>a.2.1≠c.2.1/\a.1≠c.1)->Uk ops la->(∀a∈Q,∀x,Region.waitsFor .any ops a.1 x=true->la.getD x false=true)->anyS T Γ ops K n la t:=by
 intro n
 induction n with
 |zero=>
  intro f Q lc la s t hn hC hp hb hQ hpw Ob hw
  have hf:f=0:=by omega
  have hq:Q= []:=List.eq_nil_of_length_eq_zero (by omega)
  subst hf hq
  have hp:s=t:=hp
  subst hp
  rw [hb.nil]
  exact hC
 |succ n ih=>
  intro f Q lc la s t hn hC hp hb hQ hpw Ob hw
  refine ⟨?_,λi hi=>?_⟩
  ·cases Q with
   |nil=>
    rw [hb.nil]
    cases f with
    |zero=>simp at hn
    |succ f=>exact hC.1
   |cons a Q=>
    obtain ⟨o,ho,_⟩:=hP a (hQ a (by simp))
    obtain ⟨g1,g2,_⟩:=hb.off a.1 (by simp)
    have:a.1∈Region.ready .any ops la:=mem_ready.2 ⟨getD_in g1 g2,o,ho,λe he hbd=>hw a (by simp) e.on (by
     unfold Region.waitsFor
     rw [ho]
     exact Array.any_eq_true'.2 ⟨e,he,by simp [hbd]⟩)⟩
    intro e
    rw [e] at this
    cases this
  ·by_cases hiQ:i∈Q.map (·.1)
   ·obtain ⟨a,ha,rfl⟩:=List.mem_map.1 hiQ
    obtain ⟨Q1,Q2,rfl⟩:=List.append_of_mem ha
    obtain ⟨o,ho,hal⟩:=hP a (hQ a ha)
    obtain ⟨_,_,Qv⟩:=aC (Γ:=Γ) (ops:=ops) hal
    have MC:=List.pairwise_append.1 hpw
    have Adb:=List.pairwise_cons.1 MC.2.1
    rw [List.map_append,List.map_cons] at hp
    have hL: ∀p∈Q1.map (·.2)++a.2::Q2.map (·.2),mZ p.1 p.2.1 p.2.2:= λp tB=>by
     have:p∈(Q1++a::Q2).map (·.2):=by rw [List.map_append,List.map_cons];exact tB
     obtain ⟨c,hc,rfl⟩:=List.mem_map.1 this
     obtain ⟨o',_,Ahd⟩:=hP c (hQ c hc)
     exact (aC (Γ:=Γ) (ops:=ops) Ahd).2.1
    obtain ⟨p1,p2⟩:=s6 _ hp hL λp tB=>by
     obtain ⟨c,hc,rfl⟩:=List.mem_map.1 tB
     exact (MC.2.2 c hc a (by simp)).1
    refine ⟨o,_,ho,Qv t p1,ih f (Q1++Q2) lc _ s _ ?_ hC (by rw [List.map_append];exact p2) (hb.one hiQ λk=>?_) (λc hc=>hQ c ?_) ?_ (Ob.set hi) λc hc x hx=>getD_set_true (hw c ?_ x hx)⟩
    ·simp only [List.length_append,List.length_cons] at hn⊢;omega
    ·simp only [List.map_append,List.map_cons,List.mem_append,List.mem_cons]
     constructor
     ·intro h
      rcases h with h|h
      ·obtain ⟨c,hc,rfl⟩:=List.mem_map.1 h
       exact ⟨.inl h,(MC.2.2 c hc a (by simp)).2⟩
      ·obtain ⟨c,hc,rfl⟩:=List.mem_map.1 h
       exact ⟨.inr (.inr h),Ne.symm (Adb.1 c hc).2⟩
     ·rintro ⟨h|h|h,Et⟩
      ·exact .inl h
      ·exact absurd h Et
      ·exact .inr h
    ·rcases List.mem_append.1 hc with hc|hc
     ·exact List.mem_append_left _ hc
     ·exact List.mem_append_right _ (List.mem_cons_of_mem _ hc)
    ·exact List.pairwise_append.2 ⟨MC.1,Adb.2,λc hc e he=>MC.2.2 c hc e (List.mem_cons_of_mem _ he)⟩
    ·rcases List.mem_append.1 hc with hc|hc
     ·exact List.mem_append_left _ hc
     ·exact List.mem_append_right _ (List.mem_cons_of_mem _ hc)
   ·have hic:=hb.ready hi hiQ
    cases f with
    |zero=>
     rw [hC.1] at hic
     cases hic
    |succ f=>
     obtain ⟨o,s',ho,bL,he,Zt⟩:=hC.2 i hic
     have SF: ∀a∈Q,ib ops 5 i a.1=false:= λa ha=>by
      cases hwt:ib ops 5 i a.1 with
      |false=>rfl
      |true=>
       have h1:=fW Ob _ i (λx hx=>dC hi hx) hwt
       rw [(hb.off a.1 (List.mem_map.2 ⟨a,ha,rfl⟩)).2.1] at h1
       cases h1
     have key: ∃t',Cq T Γ ops t o=some t'/\sE (Q.map (·.2)) s' t':=by
      unfold AM at bL
      rw [Bool.or_eq_true,Bool.and_eq_true] at bL
      rcases bL with bL|⟨h1,h2⟩
      ·cases Q with
       |nil=>
        have hp:s=t:=hp
        subst hp
        exact ⟨s',he,rfl⟩
       |cons a Q=>
        have:=List.all_eq_true.1 bL a (hQ a (by simp))
        rw [SF a (by simp)] at this
        cases this
      ·obtain ⟨t',g1,g2,_⟩:=s5 (T:=T) (ops:=ops) _ s t s' hp (λq hq=>by
        obtain ⟨a,ha,rfl⟩:=List.mem_map.1 hq
        obtain ⟨o',_,hal⟩:=hP a (hQ a ha)
        have h3:=List.all_eq_true.1 h2 a (hQ a ha)
        rw [SF a ha,Bool.false_or,Bool.and_eq_true] at h3
        exact ⟨(aC (Γ:=Γ) (ops:=ops) hal).2.1,h3.1,AJ h3.2⟩) h1 he
       exact ⟨t',g1,g2⟩
     obtain ⟨t',g1,g2⟩:=key
     exact ⟨o,t',ho,g1,ih f Q _ _ s' t' (by omega) Zt g2 (hb.both hiQ) hQ hpw (Ob.set hi) λc hc x hx=>getD_set_true (hw c hc x hx)⟩
def Tb (T:Tab) (ops:Array Oper) (Ad:Array Bool):List (Nat×Nat×AV×OB):=(Region.ready .any ops Ad).filterMap λi=>((ops[i]?).bind (aB T)).map λr=>(i,r)
theorem sJ {Ad:Array Bool} {a:Nat×Nat×AV×OB} (h:a∈Tb T ops Ad):a.1∈Region.ready .any ops Ad/\ ∃o,ops[a.1]?=some o/\aB T o=some a.2:=by
 unfold Tb at h
 obtain ⟨i,hi,he⟩:=List.mem_filterMap.1 h
 cases ho:ops[i]? with
 |none=>rw [ho] at he;cases he
 |some o=>
  rw [ho] at he
  simp only [Option.bind_some,Option.map_eq_some_iff] at he
  obtain ⟨r,h1,rfl⟩:=he
  exact ⟨hi,o,ho,h1⟩
theorem wo:Uk ops (Array.replicate ops.size false):= λk a hk _=>by
 rw [getD_replicate_false] at hk
 cases hk
theorem aH (q:Bool): ∀(l:List Nat) (Ad:Array Bool),Uk ops Ad->Uk ops (Ek (Fp q ops l Ad) Ad)
 | [],Ad,h=>h
 |i::r,Ad,h=>by
  simp only [Fp]
  split
  ·rename_i hc
   rw [Bool.and_eq_true,Bool.and_eq_true] at hc
   have hi:i∈Region.ready .any ops Ad:=by simpa using hc.2.1
   exact aH q r _ (h.set hi)
  ·exact aH q r Ad h
theorem dh: ∀(l:List Nat) (Ad:Array Bool),(Ek l Ad).size=Ad.size
 | [],_=>rfl
 |i::r,Ad=>by simp only [Ek];rw [dh r];simp
theorem j6: ∀(l:List Nat) (Ad:Array Bool) (k:Nat),k∈l->k<Ad.size->(Ek l Ad).getD k false=true
 |i::r,Ad,k,h,hk=>by
  simp only [Ek]
  by_cases hr:k∈r
  ·exact j6 r _ k hr (by simpa using hk)
  ·have:k=i:=(List.mem_cons.1 h).resolve_right hr
   subst this
   have hs: ∀(l:List Nat) (A:Array Bool),A.getD k false=true->(Ek l A).getD k false=true:=by
    intro l
    induction l with
    |nil=>exact λA h=>h
    |cons j l ih=>exact λA h=>ih _ (getD_set_true h)
   exact hs r _ (by simp [hk])
theorem fE: ∀(l:List Nat) (Ad:Array Bool) (k:Nat),k∉l->(Ek l Ad).getD k false=Ad.getD k false
 | [],_,_,_=>rfl
 |i::r,Ad,k,h=>by
  simp only [Ek]
  rw [fE r _ k λhk=>h (List.mem_cons_of_mem _ hk),getD_set_ne false (λe=>h (by rw [e];simp))]
theorem RE {Ad:Array Bool} {Q:List Nat} (h: ∀i∈Q,i∈Region.ready .any ops Ad):JV (Ek Q Ad) Ad Q:=by
 have hr: ∀i∈Q,i<Ad.size/\Ad.getD i false=false:= λi hi=>by
  have h1:=(mem_ready.1 (h i hi)).1
  refine ⟨?_,getD_both h1⟩
  rcases Nat.lt_or_ge i Ad.size with h'|h'
  ·exact h'
  ·simp [Array.getElem?_eq_none h'] at h1
 exact ⟨(dh Q Ad).symm,λk hk=>⟨(hr k hk).1,(hr k hk).2,j6 Q Ad k hk (hr k hk).1⟩,λk hk=>(fE Q Ad k hk).symm⟩
theorem xV: ∀(Q:List (Nat×Nat×AV×OB)) (t s:St),(∀a∈Q,∃o,ops[a.1]?=some o/\aB T o=some a.2)->(∀a∈Q,El a.2.1 t)->(Q.Pairwise λa c=>a.2.1≠c.2.1)->Jw T Γ ops (Q.map (·.1)) t=some s->sE (Q.map (·.2)) s t
 | [],t,s,_,_,_,h=>by
  have h:some t=some s:=h
  exact (Option.some.inj h).symm
 |a::Q,t,s,hQ,hn,hp,h=>by
  obtain ⟨o,ho,hal⟩:=hQ a (by simp)
  obtain ⟨_,hL,Qv⟩:=aC (Γ:=Γ) (ops:=ops) hal
  obtain ⟨vN,GK⟩:=List.pairwise_cons.1 hp
  simp only [List.map_cons,Jw,ho] at h
  rw [Qv t (hn a (by simp))] at h
  refine ⟨hn a (by simp),xV Q _ s (λc hc=>hQ c (List.mem_cons_of_mem _ hc)) (λc hc=>?_) GK h⟩
  exact (hn c (List.mem_cons_of_mem _ hc)).plus (Ne.symm (vN c hc)) (λh=>vN c hc (hL.v1 _ h).symm) (by rw [hL.b1];simp)
end
end Go.Proofs.Ytjbdmibbbpdnnaa
