/-
  Part 30 of the proof that the statement FnExactMethodLength holds.
-/
import Derived.Test.YtjbdmibbbpdnnaaCMethodLength28
namespace Go.Proofs.Ytjbdmibbbpdnnaa
open Go.RowKit
def Fc (d:Nat) (v:AV) (b:OB) (st:St):St:= {tmps:=Nv st.tmps d v,heap:=Jk st.heap d b}
def jI (d:Nat) (st:St):Bool:=(st.get d).refs.isEmpty&&((st.tmps.all λv=>!v.refs.contains d)&&st.heap.all λp=>!Nat.beq p.1 d&&!p.2.refs.contains d)
structure Ej (d:Nat) (st:St):Prop where
 own:(st.get d).refs= []
 tmps: ∀v∈st.tmps,d∉v.refs
 heap: ∀p∈st.heap,p.1≠d/\d∉p.2.refs
theorem nz {d:Nat} {st:St} (h:jI d st=true):Ej d st:=by
 unfold jI at h
 rw [Bool.and_eq_true,Bool.and_eq_true,List.all_eq_true,List.all_eq_true] at h
 obtain ⟨h0,h⟩:=h
 refine ⟨List.isEmpty_iff.1 h0,λv hv=>?_,λp hp=>?_⟩
 ·have:=h.1 v hv
  intro hd
  rw [List.contains_iff_mem.2 hd] at this
  cases this
 ·have:=h.2 p hp
  rw [Bool.and_eq_true] at this
  refine ⟨λe=>?_,λhd=>?_⟩
  ·have h1:=this.1
   rw [e,Nat.beq_refl] at h1
   cases h1
  ·have h1:=this.2
   rw [List.contains_iff_mem.2 hd] at h1
   cases h1
theorem EU {d:Nat} {st:St} (h:Ej d st):jI d st=true:=by
 unfold jI
 rw [Bool.and_eq_true,Bool.and_eq_true,List.all_eq_true,List.all_eq_true]
 refine ⟨by rw [h.own];rfl,λv hv=>?_,λp hp=>?_⟩
 ·rw [Bool.not_eq_true',<-Bool.not_eq_true,List.contains_iff_mem];exact h.tmps v hv
 ·rw [Bool.and_eq_true]
  refine ⟨?_,?_⟩
  ·rw [Bool.not_eq_true',<-Bool.not_eq_true]
   exact λe=>(h.heap p hp).1 (Nat.eq_of_beq_eq_true e)
  ·rw [Bool.not_eq_true',<-Bool.not_eq_true,List.contains_iff_mem];exact (h.heap p hp).2
structure ma (d:Nat) (v:AV) (b:OB):Prop where
 v1: ∀l,l∈v.refs->l=d
 b1:b.refs= []
 v2: ∀l,l≠d->v.map (Ba l)=v
 b2: ∀l,b.map (Ba l)=b
theorem Yi {α:Type} : ∀(xs:List α) (d t:Nat) (v x:α),d≠t->(Nv xs d v).getD t x=xs.getD t x
 | [],_,_,_,_,_=>rfl
 |y::r,0,0,_,_,h=>absurd rfl h
 |y::r,0,t+1,_,_,_=>by simp [Nv]
 |y::r,d+1,0,_,_,_=>by simp [Nv]
 |y::r,d+1,t+1,v,x,h=>by simpa [Nv] using Yi r d t v x (by omega)
theorem jZ {α:Type} : ∀(xs:List α) (d e:Nat) (v w:α),d≠e->Nv (Nv xs d v) e w=Nv (Nv xs e w) d v
 | [],_,_,_,_,_=>rfl
 |y::r,0,0,_,_,h=>absurd rfl h
 |y::r,0,e+1,_,_,_=>rfl
 |y::r,d+1,0,_,_,_=>rfl
 |y::r,d+1,e+1,v,w,h=>by simp only [Nv];rw [jZ r d e v w (by omega)]
theorem qG: ∀(H:List (Nat×OB)) (d l:Nat) (b:OB),d≠l->Ae (Jk H d b) l=Ae H l
 | [],d,l,b,h=>by simp [Jk,Ae,h]
 |(k,c)::r,d,l,b,h=>by
  simp only [Jk]
  split
  ·simp only [Ae];rw [if_neg h]
  ·simp only [Ae]
   split
   ·rfl
   ·exact qG r d l b h
theorem qL: ∀(H:List (Nat×OB)) (d e:Nat) (b c:OB),d≠e->Jk (Jk H d b) e c=Jk (Jk H e c) d b
 | [],d,e,b,c,h=>by
  simp only [Jk]
  by_cases h1:e<d
  ·rw [if_pos h1,if_neg (by omega)]
  ·rw [if_neg h1,if_pos (by omega)]
 |(k,a)::r,d,e,b,c,h=>by
  simp only [Jk]
  by_cases h1:d<k<;>by_cases h2:e<k
  ·rw [if_pos h1,if_pos h2]
   simp only [Jk]
   by_cases h3:e<d
   ·rw [if_pos h3,if_neg (by omega),if_pos h1]
   ·rw [if_neg h3,if_pos h2,if_pos (by omega)]
  ·rw [if_pos h1,if_neg h2]
   simp only [Jk]
   rw [if_neg (by omega),if_neg h2,if_pos h1]
  ·rw [if_neg h1,if_pos h2]
   simp only [Jk]
   rw [if_pos h2,if_neg (by omega),if_neg h1]
  ·rw [if_neg h1,if_neg h2]
   simp only [Jk]
   rw [if_neg h1,if_neg h2,qL r d e b c h]
theorem rJ: ∀(H:List (Nat×OB)) (d l:Nat) (b c:OB),d≠l->Xp (Jk H d b) l c=Jk (Xp H l c) d b
 | [],d,l,b,c,h=>by simp [Jk,Xp,h]
 |(k,a)::r,d,l,b,c,h=>by
  simp only [Jk,Xp]
  by_cases h1:d<k<;>by_cases h2:k=l
  ·rw [if_pos h1,if_pos h2]
   simp only [Xp,Jk]
   rw [if_neg h,if_pos h2,if_pos h1]
  ·rw [if_pos h1,if_neg h2]
   simp only [Xp,Jk]
   rw [if_neg h,if_neg h2,if_pos h1]
  ·rw [if_neg h1,if_pos h2]
   simp only [Xp,Jk]
   rw [if_pos h2,if_neg h1]
  ·rw [if_neg h1,if_neg h2]
   simp only [Xp,Jk]
   rw [if_neg h2,if_neg h1,rJ r d l b c h]
theorem kG {l:Nat} : ∀ {c:AC},l∉c.refs->Ba l c=c:=by
 intro c h
 cases c<;>simp only [Ba]<;>simp only [AC.refs,List.mem_singleton] at h
 case clo f Bx=>rw [if_neg (by simpa using h)]
 all_goals (first|rfl|rw [if_neg (Ne.symm h)])
theorem To {l:Nat} : ∀ {cs:List AC},l∉cs.flatMap AC.refs->cs.map (Ba l)=cs
 | [],_=>rfl
 |c::r,h=>by
  rw [List.flatMap_cons,List.mem_append] at h
  rw [List.map_cons,kG (λhh=>h (.inl hh)),To (λhh=>h (.inr hh))]
theorem vO {l:Nat} : ∀ {v:AV},l∉v.refs->v.map (Ba l)=v
 | .at a,h=>by simp only [AV.map];rw [kG h]
 | .agg cs,h=>by simp only [AV.map];rw [To h]
 | .Uk _ _ _,_=>rfl
 | .Jg ps,h=>by
  simp only [AV.map]
  congr 1
  simp only [AV.refs] at h
  induction ps with
  |nil=>rfl
  |cons p r ih=>
   rw [List.flatMap_cons,List.mem_append] at h
   rw [List.map_cons,To (λhh=>h (.inl hh)),ih (λhh=>h (.inr hh))]
theorem vP {l:Nat} : ∀ {b:OB},l∉b.refs->b.map (Ba l)=b
 | .arr _ _ _ _ _,_=>rfl
 | .Dj _ _ _,_=>rfl
 | .var _ vs,h=>by simp only [OB.map];rw [To h]
 | .Ak _ _ _ _ _,_=>rfl
 | .On _ _,_=>rfl
theorem vE {l:Nat} : ∀ {H:List (Nat×OB)},(∀p∈H,p.1≠l)->Sz H l=H
 | [],_=>rfl
 |(k,b)::r,h=>by
  simp only [Sz]
  rw [if_neg (h (k,b) (by simp)),vE λp hp=>h p (by simp [hp])]
theorem Ej.forget {l:Nat} {st:St} (h:Ej l st):st.forget l=st:=by
 have e1:st.tmps.map (λv=>v.map (Ba l))=st.tmps:=(List.map_congr_left λv hv=>vO (h.tmps v hv)).trans (List.map_id _)
 have e2:st.heap.map (λp=>(p.1,p.2.map (Ba l)))=st.heap:=(List.map_congr_left λp hp=>by rw [vP (h.heap p hp).2];rfl).trans (List.map_id _)
 unfold St.forget St.Gp
 simp only [e1,e2]
 rw [vE λp hp=>(h.heap p hp).1]
theorem Ej.new {l:Nat} {st:St} (h:Ej l st) (b:OB) (v:AV):(st.new l b).put (some l) v=Fc l v b st:=by
 unfold St.new
 rw [h.forget]
 rfl
theorem nv {α:Type} : ∀ {xs:List α} {d:Nat} {v x:α},x∈Nv xs d v->x∈xs\/x=v
 | [],_,_,_,h=>by cases h
 |y::r,0,v,x,h=>by
  rcases List.mem_cons.1 h with h|h
  ·exact .inr h
  ·exact .inl (List.mem_cons_of_mem _ h)
 |y::r,d+1,v,x,h=>by
  rcases List.mem_cons.1 h with h|h
  ·exact .inl (by rw [h];simp)
  ·exact (nv h).imp (List.mem_cons_of_mem _) id
theorem wE: ∀ {H:List (Nat×OB)} {d:Nat} {b:OB} {p:Nat×OB},p∈Jk H d b->p∈H\/p=(d,b)
 | [],d,b,p,h=> .inr (by simpa [Jk] using h)
 |(k,c)::r,d,b,p,h=>by
  simp only [Jk] at h
  split at h
  ·rcases List.mem_cons.1 h with h|h
   ·exact .inr h
   ·exact .inl h
  ·rcases List.mem_cons.1 h with h|h
   ·exact .inl (by rw [h];simp)
   ·exact (wE h).imp (List.mem_cons_of_mem _) id
theorem OP {d:Nat} {v:AV} {b:OB} {st:St} {x:Operand} (h:x≠ .tmp d):(Fc d v b st).ev x=st.ev x:=by
 cases x with
 |tmp t=>exact Yi _ _ _ _ _ (λe=>h (by rw [e]))
 |_=>rfl
theorem AT {d l:Nat} {v:AV} {b:OB} {st:St} (h:d≠l):(Fc d v b st).at l=st.at l:=qG _ _ _ _ h
theorem IN {d e:Nat} {v u:AV} {b:OB} {st:St} (h:d≠e):(Fc d v b st).put (some e) u=Fc d v b (st.put (some e) u):=by
 unfold Fc St.put
 simp only
 rw [jZ _ _ _ _ _ h]
theorem DA {d l:Nat} {v:AV} {b c:OB} {st:St} (h:d≠l):(Fc d v b st).Gf l c=Fc d v b (st.Gf l c):=by
 unfold Fc St.Gf
 simp only
 rw [rJ _ _ _ _ _ h]
theorem qj {d e:Nat} {v u:AV} {b c:OB} {st:St} (h:d≠e):Fc e u c (Fc d v b st)=Fc d v b (Fc e u c st):=by
 unfold Fc
 rw [jZ _ _ _ _ _ h,qL _ _ _ _ _ h]
theorem Ej.put {d:Nat} {st:St} {e:Nat} {u:AV} (h:Ej d st) (PS:e≠d) (hu:d∉u.refs):Ej d (st.put (some e) u):=
 ⟨by show (List.getD (Nv st.tmps e u) d .undef).refs= [];rw [Yi _ _ _ _ _ PS];exact h.own,λv hv=>(nv hv).elim (h.tmps v) λe=>by rw [e];exact hu,h.heap⟩
theorem Ej.plus {d e:Nat} {u:AV} {c:OB} {st:St} (h:Ej d st) (PS:d≠e) (hu:d∉u.refs) (hc:d∉c.refs):Ej d (Fc e u c st):=
 ⟨by show (List.getD (Nv st.tmps e u) d .undef).refs= [];rw [Yi _ _ _ _ _ (Ne.symm PS)];exact h.own,λv hv=>(nv hv).elim (h.tmps v) λe=>by rw [e];exact hu,λp hp=>(wE hp).elim (h.heap p) λe'=>by rw [e'];exact ⟨Ne.symm PS,hc⟩⟩
theorem Ej.XA {d e:Nat} {u:AV} {c:OB} {st:St} (h:Ej d (Fc e u c st)): ∀p∈st.heap,p.1≠d/\d∉p.2.refs:= λp hp=>h.heap p (by
 show p∈Jk st.heap e c
 generalize st.heap=H at hp
 induction H with
 |nil=>cases hp
 |cons q r ih=>
  obtain ⟨k,a⟩:=q
  simp only [Jk]
  split
  ·exact List.mem_cons_of_mem _ hp
  ·rcases List.mem_cons.1 hp with hp|hp
   ·rw [hp];simp
   ·exact List.mem_cons_of_mem _ (ih hp))
theorem lJ {st st':St} : ∀(τ:Ty) (cs:List AC),cs.all (·.settled)=true->Cp st' τ cs=Cp st τ cs:=by
 intro τ
 induction τ with
 |unit=>intro cs _;cases cs<;>rfl
 |pair a r gA dQ=>
  intro cs h
  simp only [Cp]
  rw [List.all_eq_true] at h
  rw [gA _ (List.all_eq_true.2 λc hc=>h c (List.mem_of_mem_take hc)),dQ _ (List.all_eq_true.2 λc hc=>h c (List.mem_of_mem_drop hc))]
 |_=>
  intro cs h
  rcases cs with _|⟨c,_|⟨c',cs⟩⟩
  ·rfl
  ·simp only [List.all_cons,List.all_nil,Bool.and_true] at h
   simp only [Cp]
   exact Tt h
  ·rfl
theorem aV {st st':St} {τ:Ty} {v:AV} (h:v.settled=true):Ct st' τ v=Ct st τ v:=by
 cases v with
 | «at»a=>
  have ha:a.settled=true:=h
  cases a<;>simp only [AC.settled,Bool.false_eq_true] at ha
  all_goals
   simp only [Ct]
   rw [Kq rfl,Kq rfl]
   rw [Tt (st:=st) (st':=st') rfl]
 |agg cs=>simp only [Ct];rw [lJ _ _ h]
 |Uk _ _ _=>rfl
 |Jg _=>rfl
theorem dy {st st':St} : ∀(τ:Ty) (vs:List AV),vs.all (·.settled)=true->Bs st' τ vs=Bs st τ vs
 | .pair a r,v::vs,h=>by
  rw [List.all_cons,Bool.and_eq_true] at h
  simp only [Bs]
  rw [aV (st:=st) (st':=st') h.1,dy r vs h.2]
 | .pair _ _,[],_=>rfl
 | .unit,[],_=>rfl
 | .unit,_::_,_=>rfl
 | .int _,vs,_=>by cases vs<;>rfl
 | .bool,vs,_=>by cases vs<;>rfl
 | .str,vs,_=>by cases vs<;>rfl
 | .slice _,vs,_=>by cases vs<;>rfl
 | .oslice _,vs,_=>by cases vs<;>rfl
 | .ptr _,vs,_=>by cases vs<;>rfl
 | .optr _,vs,_=>by cases vs<;>rfl
 | .smap _,vs,_=>by cases vs<;>rfl
 | .clo _ _,vs,_=>by cases vs<;>rfl
def Pj:AV->Bool
 | .at (.data _ _ _)=>true
 |_=>false
def dw (o:Oper):List Operand:=match o.op with
 | .move x=> [x]
 | .load _ x=> [x]
 | .call {callee:= .value (.func _),args, .. } =>args.toList
 | .insert _ m k x=> [m,k,x]
 | .buildSlice _ _ parts=>parts.toList.map (·.2)
 |_=> []
def cP (d:Nat):Operand->Bool
 | .tmp t=>!Nat.beq t d
 |_=>true
theorem EW {d:Nat} {x:Operand} (h:cP d x=true):x≠ .tmp d:= λe=>by
 subst e
 simp [cP] at h
def Pn (Γ:Env) (st:St) (o:Oper):Bool:=match o.guard with
 |some _=>false
 |none=>match o.op with
  | .move _=>true
  | .load _ x=>(match st.ev x with
   | .at (.Dz _ _)=>true
   |_=>false)
  | .call {callee:= .value (.func f),args, .. } =>(match Γ f with
   |some (.q _)=>true
   |_=>false)&&args.toList.all λx=>(st.ev x).settled
  | .insert _ m k x=>(match st.ev m with
   | .at (.Gi _)=>true
   |_=>false)&&Pj (st.ev k)&&(st.ev x).settled
  | .buildSlice _ _ parts=>(parts.toList.all λp=>Pj (st.ev p.2))&&(match o.dst with
   |some e=>jI e st
   |none=>false)
  |_=>false
theorem Ej.ev {d:Nat} {st:St} (h:Ej d st) (x:Operand):d∉(st.ev x).refs:=by
 cases x with
 |tmp t=>
  simp only [St.ev,St.get]
  rw [List.getD_eq_getElem?_getD]
  by_cases hl:t<st.tmps.length
  ·rw [List.getElem?_eq_getElem hl];exact h.tmps _ (List.getElem_mem hl)
  ·rw [List.getElem?_eq_none (Nat.le_of_not_lt hl)];simp [AV.refs,AC.refs]
 |const c=>
  simp only [St.ev]
  unfold gN
  split<;>simp [AV.refs,AC.refs]
 |func f=>simp [St.ev,AV.refs,AC.refs]
 |_=>simp [St.ev,AV.refs,AC.refs]
theorem vY: ∀ {H:List (Nat×OB)} {l:Nat} {b:OB},Ae H l=some b->(l,b)∈H
 |(k,c)::r,l,b,h=>by
  simp only [Ae] at h
  split at h
  ·rename_i e;subst e;cases h;simp
  ·exact List.mem_cons_of_mem _ (vY h)
section
variable {T:Tab} {Γ:Env} {ops:Array Oper} {d:Nat} {v:AV} {b:OB} {t:St}
theorem rm {e:Option Tmp} (h:e≠some d) (hn:Ej d t) {y:AV} (hy:d∉y.refs):(Fc d v b t).put e y=Fc d v b (t.put e y)/\Ej d (t.put e y):=by
 cases e with
 |none=>exact ⟨rfl,hn⟩
 |some k=>exact ⟨IN (λe=>h (by rw [e])),hn.put (λe=>h (by rw [e])) hy⟩
theorem cW {o:Oper} (hg:o.guard=none) (Yl:o.dst≠some d) (hn:Ej d t) {q:Option AV} (h1:evalOp T Γ (Fc d v b t) o=q.map λy=>(y,Fc d v b t)) (h2:evalOp T Γ t o=q.map λy=>(y,t)) (hq: ∀y,q=some y->d∉y.refs) {s':St}
  (he:Cl T Γ ops (Fc d v b t) o=some s'): ∃t',Cl T Γ ops t o=some t'/\s'=Fc d v b t'/\Ej d t':=by
 unfold Cl at he⊢
 rw [hg] at he⊢
 simp only at he⊢
 rw [h1] at he
 cases q with
 |none=>cases he
 |some y=>
  obtain ⟨p1,p2⟩:=rm (v:=v) (b:=b) Yl hn (hq y rfl)
  refine ⟨_,by rw [h2];rfl,?_,p2⟩
  simp only [Option.map_some,Option.some.injEq] at he
  rw [<-he,p1]
theorem Rz {l:List Operand} (hu:l.all (cP d)=true): ∀x∈l,(Fc d v b t).ev x=t.ev x:= λx hx=>OP (EW (List.all_eq_true.1 hu x hx))
theorem z9 {dst:Option Tmp} {x:Operand} {ty:TypeId} {pos:String} {after:Array Edge} (hn:Ej d t) (hx:(Fc d v b t).ev x=t.ev x) (Yl:dst≠some d) {s':St}
  (he:Cl T Γ ops (Fc d v b t) {dst:=dst,op:= .move x,type:=ty,pos:=pos,after:=after,guard:=none} =some s'):
  ∃t',Cl T Γ ops t {dst:=dst,op:= .move x,type:=ty,pos:=pos,after:=after,guard:=none} =some t'/\s'=Fc d v b t'/\Ej d t':=
 cW rfl Yl hn (q:=some (t.ev x)) (by simp only [evalOp,Ck,hx]) (by simp only [evalOp,Ck]) (λy hy=>by cases hy;exact hn.ev x) he
def loadVar (T:Tab) (o:Option OB) (t0:TypeId) (i:Nat):Option AV:=match T.ty t0 with
 |some τ=>(match o with
  |some (.var _ vs)=>if τ.Ac then (if i+τ.size<=vs.length then some (.agg ((vs.drop i).take τ.size)) else none) else vs[i]?.map .at
  |_=>none)
 |none=>none
theorem er {st:St} {t0:TypeId} {l i:Nat} :Kk T st t0 (.at (.Dz l i))=loadVar T (st.at l) t0 i:=by
 unfold Kk loadVar
 cases T.ty t0<;>rfl
theorem z0 {dst:Option Tmp} {t0:TypeId} {x:Operand} {ty:TypeId} {pos:String} {after:Array Edge} (hn:Ej d t) (hx:(Fc d v b t).ev x=t.ev x) (Yl:dst≠some d) {l i:Nat} (hp:t.ev x= .at (.Dz l i)) {s':St}
  (he:Cl T Γ ops (Fc d v b t) {dst:=dst,op:= .load t0 x,type:=ty,pos:=pos,after:=after,guard:=none} =some s'):
  ∃t',Cl T Γ ops t {dst:=dst,op:= .load t0 x,type:=ty,pos:=pos,after:=after,guard:=none} =some t'/\s'=Fc d v b t'/\Ej d t':=by
 have hld:d≠l:= λe=>by
  have:=hn.ev x
  rw [hp,e] at this
  exact this (by simp [AV.refs,AC.refs])
 refine cW rfl Yl hn (q:=loadVar T (t.at l) t0 i) ?_ ?_ (λy hy=>?_) he
 ·simp only [evalOp,Ck,hx,hp]
  rw [er,AT hld]
 ·simp only [evalOp,Ck,hp]
  rw [er]
 ·unfold loadVar at hy
  split at hy
  ·split at hy
   ·rename_i vs hb
    have hr:d∉vs.flatMap AC.refs:=(hn.heap _ (vY hb)).2
    have fN: ∀c∈vs,d∉c.refs:= λc hc hd=>hr (List.mem_flatMap.2 ⟨c,hc,hd⟩)
    split at hy
    ·split at hy
     ·cases hy
      intro hd
      obtain ⟨c,hc,hd⟩:=List.mem_flatMap.1 hd
      exact fN c (List.mem_of_mem_drop (List.mem_of_mem_take hc)) hd
     ·cases hy
    ·cases hv:vs[i]? with
     |none=>rw [hv] at hy;cases hy
     |some c=>
      rw [hv] at hy
      cases hy
      exact fN c (List.mem_of_getElem? hv)
   ·cases hy
  ·cases hy
theorem DD {l:List Operand} (hu:l.all (cP d)=true):l.map (Fc d v b t).ev=l.map t.ev:=List.map_congr_left λx hx=>Rz hu x hx
theorem yj {dst:Option Tmp} {f:FuncId} {args:Array Operand} {tys:Array TypeId} {ty:TypeId} {pos:String} {after:Array Edge} {sp:Spec} (Mi:Γ f=some (.q sp)) (hn:Ej d t) (hx:args.toList.map (Fc d v b t).ev=args.toList.map t.ev) (Yl:dst≠some d)
  (hs:(args.toList.map t.ev).all (·.settled)=true) {s':St} (he:Cl T Γ ops (Fc d v b t) {dst:=dst,op:= .call {callee:= .value (.func f),args:=args,argTypes:=tys},type:=ty,pos:=pos,after:=after,guard:=none} =some s'):
  ∃t',Cl T Γ ops t {dst:=dst,op:= .call {callee:= .value (.func f),args:=args,argTypes:=tys},type:=ty,pos:=pos,after:=after,guard:=none} =some t'/\s'=Fc d v b t'/\Ej d t':=by
 have BV:aq sp (args.toList.map t.ev)=false:=by unfold aq;rw [hs];simp
 have yF: ∀st:St,Jp Γ st f (args.toList.map t.ev)=(match Bs t sp.arg (args.toList.map t.ev) with
   |none=>none
   |some (_,x)=>(sp.fn x).map λy=>if sp.Gg then .Uk (sp.fresh||sp.res.flat) sp.res y else .at (.data (sp.fresh||sp.res.flat) sp.res y)):= λst=>by
  unfold Jp
  rw [Mi]
  simp only
  rw [hs,dy (st:=t) _ _ hs]
  simp only [Bool.or_true,if_true]
  cases Bs t sp.arg (args.toList.map t.ev)<;>rfl
 refine cW rfl Yl hn (q:=Jp Γ t f (args.toList.map t.ev)) ?_ ?_ (λy hy=>?_) he
 ·simp only [evalOp,Ck,Mi,hx,BV]
  rw [yF,yF t]
  simp
 ·simp only [evalOp,Ck,Mi,BV]
  simp
 ·rw [yF t] at hy
  split at hy
  ·cases hy
  ·rename_i x _
   cases hf:sp.fn x with
   |none=>rw [hf] at hy;cases hy
   |some z=>
    rw [hf] at hy
    simp only [Option.map_some,Option.some.injEq] at hy
    rw [<-hy]
    split<;>simp [AV.refs,AC.refs]
def iA (T:Tab) (o:Option OB) (t0:TypeId) (s:ByteArray) (vw:(v:Ty)->Option (Bool×v.den)):Option OB:=match T.mapOf t0 with
 |some v=>(match o,vw v with
  |some (.On v' f),some (_,y)=>if h:v'=v/\v.flat=true/\v.Ac=false then some (.On v (aU (h.1▸f:ByteArray->Option v.den) s y)) else none
  |_,_=>none)
 |none=>none
theorem eu {st:St} {t0:TypeId} {l:Nat} {fr:Bool} {s:ByteArray} {x:AV} :Fa T st t0 (.at (.Gi l)) (.at (.data fr .str s)) x=(iA T (st.at l) t0 s λv=>Ct st v x).map λc=>st.Gf l c:=by
 unfold Fa iA
 cases T.mapOf t0 with
 |none=>rfl
 |some v0=>
  simp only
  cases st.at l with
  |none=>rfl
  |some c=>
   cases c with
   |On v' f=>
    cases Ct st v0 x with
    |none=>rfl
    |some p=>
     simp only
     split<;>rfl
   |_=>rfl
theorem wB {o:Option OB} {t0:TypeId} {s:ByteArray} {vw:(v:Ty)->Option (Bool×v.den)} {c:OB} (h:iA T o t0 s vw=some c):c.refs= []:=by
 unfold iA at h
 split at h
 ·split at h
  ·split at h
   ·cases h;rfl
   ·cases h
  ·cases h
 ·cases h
theorem mG {st:St} {t0:TypeId} {m k x:AV} {s':St} (h:Fa T st t0 m k x=some s'): ∃l fr s,m= .at (.Gi l)/\k= .at (.data fr .str s):=by
 unfold Fa at h
 split at h
 ·exact ⟨_,_,_,rfl,rfl⟩
 ·cases h
theorem wF: ∀ {H:List (Nat×OB)} {l:Nat} {c:OB} {p:Nat×OB},p∈Xp H l c->p∈H\/(p.2=c/\p.1=l/\ ∃c',(l,c')∈H)
 |(k,a)::r,l,c,p,h=>by
  simp only [Xp] at h
  split at h
  ·rename_i e
   rcases List.mem_cons.1 h with h|h
   ·subst h;exact .inr ⟨rfl,e,a,by rw [e];simp⟩
   ·exact .inl (List.mem_cons_of_mem _ h)
  ·rcases List.mem_cons.1 h with h|h
   ·exact .inl (by rw [h];simp)
   ·exact (wF h).imp (List.mem_cons_of_mem _) λ⟨h1,h2,c',h3⟩=>⟨h1,h2,c',List.mem_cons_of_mem _ h3⟩
theorem Ej.Gf {st:St} {l:Nat} {c:OB} (h:Ej d st) (hc:d∉c.refs):Ej d (st.Gf l c):=
 ⟨h.own,h.tmps,λp hp=>(wF hp).elim (h.heap p) λ⟨h1,h2,c',h3⟩=>⟨by rw [h2];exact (h.heap _ h3).1,by rw [h1];exact hc⟩⟩
theorem sM {dst:Option Tmp} {t0:TypeId} {m k x:Operand} {ty:TypeId} {pos:String} {after:Array Edge} (hn:Ej d t) (hm:(Fc d v b t).ev m=t.ev m) (hk:(Fc d v b t).ev k=t.ev k) (hx:(Fc d v b t).ev x=t.ev x) (Yl:dst≠some d)
  (hs:(t.ev x).settled=true) {s':St} (he:Cl T Γ ops (Fc d v b t) {dst:=dst,op:= .insert t0 m k x,type:=ty,pos:=pos,after:=after,guard:=none} =some s'):
  ∃t',Cl T Γ ops t {dst:=dst,op:= .insert t0 m k x,type:=ty,pos:=pos,after:=after,guard:=none} =some t'/\s'=Fc d v b t'/\Ej d t':=by
 unfold Cl at he⊢
 simp only [evalOp,hm,hk,hx] at he⊢
 cases OI:Fa T (Fc d v b t) t0 (t.ev m) (t.ev k) (t.ev x) with
 |none=>rw [OI] at he;cases he
 |some s1=>
  rw [OI] at he
  simp only [Option.map_some,Option.some.injEq] at he
  obtain ⟨l,fr,s,e1,e2⟩:=mG OI
  have hld:d≠l:= λe=>by
   have:=hn.ev m
   rw [e1,e] at this
   exact this (by simp [AV.refs,AC.refs])
  rw [e1,e2,eu,AT hld] at OI
  have hvw:(λv0=>Ct (Fc d v b t) v0 (t.ev x))= λv0=>Ct t v0 (t.ev x):=funext λv0=>aV hs
  rw [hvw] at OI
  rw [e1,e2,eu]
  cases ho:iA T (t.at l) t0 s λv0=>Ct t v0 (t.ev x) with
  |none=>rw [ho] at OI;cases OI
  |some c=>
   rw [ho] at OI
   simp only [Option.map_some,Option.some.injEq] at OI
   have hc:=wB ho
   have lS:Ej d (t.Gf l c):=hn.Gf (by rw [hc];simp)
   obtain ⟨p1,p2⟩:=rm (v:=v) (b:=b) (y:= .undef) Yl lS (by simp [AV.refs,AC.refs])
   refine ⟨_,rfl,?_,p2⟩
   rw [<-he,<-OI,DA hld,p1]
theorem Ej.back {e:Nat} (h:Ej e (Fc d v b t)) (PS:e≠d) (hn:Ej d t):Ej e t:=by
 have hg: ∀k,k≠d->(Fc d v b t).get k=t.get k:= λk hk=>Yi _ _ _ _ _ (Ne.symm hk)
 refine ⟨by rw [<-hg e PS];exact h.own,λu hu hd=>?_,h.XA⟩
 obtain ⟨k,hk,rfl⟩:=List.mem_iff_getElem.1 hu
 have e1:t.get k=t.tmps[k]:=by unfold St.get;rw [List.getD_eq_getElem?_getD,List.getElem?_eq_getElem hk];rfl
 by_cases TJ:k=d
 ·subst TJ
  have:=hn.own
  rw [e1] at this
  rw [this] at hd
  cases hd
 ·have h1:=h.ev (.tmp k)
  have h2:(Fc d v b t).ev (.tmp k)=t.tmps[k]:=by show (Fc d v b t).get k=_;rw [hg k TJ,e1]
  rw [h2] at h1
  exact h1 hd
def fY (e:Ty):Nat->List (Nat×AV)->Option (Bool×Bool×List e.den)
 |_,[]=>some (true,true,[])
 |i,(j,x)::r=>if i=j then match Ct ⟨[],[]⟩ e x with
  |some (fr,y)=>match fY e (i+1) r with
   |some (Ow,ND,ys)=>some (fr&&Ow,Mu ⟨[],[]⟩ x&&e.tree&&ND,y::ys)
   |none=>none
  |none=>none
  else none
theorem Xy {st:St} {e:Ty} : ∀(l:List (Nat×Operand)) (i:Nat),(l.all λp=>Pj (st.ev p.2))=true->Gv e i l st=(fY e i (l.map λp=>(p.1,st.ev p.2))).map λp=>(p.1,p.2.1,p.2.2,st)
 | [],i,_=>rfl
 |(j,x)::r,i,h=>by
  rw [List.all_cons,Bool.and_eq_true] at h
  have hx:Pj (st.ev x)=true:=h.1
  simp only [Gv,fY,List.map_cons]
  split
  ·generalize hxv:st.ev x=xv at hx
   unfold Pj at hx
   split at hx
   ·rename_i fr τ z
    have WI:settle st (.at (.data fr τ z))=some (.at (.data fr τ z),st):=rfl
    rw [WI]
    simp only
    rw [aV (st:=⟨[],[]⟩) (st':=st) (v:= .at (.data fr τ z)) rfl]
    cases Ct ⟨[],[]⟩ e (.at (.data fr τ z)) with
    |none=>rfl
    |some p=>
     simp only
     rw [Xy r (i+1) h.2]
     cases fY e (i+1) (r.map λp=>(p.1,st.ev p.2)) with
     |none=>rfl
     |some q=>rfl
   ·cases hx
  ·rfl
def rowOf (T:Tab) (t0:TypeId) (len:Nat) (parts:List (Nat×AV)) (dst:Nat):Option (AV×OB):=match Yj T t0 with
 |some _=>none
 |none=>match T.elem t0 with
  |none=>none
  |some te=>match T.ty te with
   |none=>none
   |some e=>if parts.length=len/\len<=64/\e.size<=64/\dst<Ai then (fY e 0 parts).map λp=>(.at (.own dst 0 len), .arr ((T.mK||e.flat)&&p.1) (T.ur&&p.2.1) e te p.2.2) else none
theorem bU {st:St} {t0:TypeId} {len dst:Nat} {parts:Array (Nat×Operand)} (h:(parts.toList.all λp=>Pj (st.ev p.2))=true):
  Ew T st dst t0 len parts=(rowOf T t0 len (parts.toList.map λp=>(p.1,st.ev p.2)) dst).map λr=>(r.1,st.new dst r.2):=by
 unfold Ew rowOf
 cases Yj T t0 with
 |some p=>
  obtain ⟨te,e⟩:=p
  simp only [Option.map_none]
  split
  ·rename_i x hp
   rw [hp,List.all_cons,Bool.and_eq_true] at h
   have hx:Pj (st.ev x)=true:=h.1
   unfold Pj at hx
   split at hx
   ·rename_i hv;simp only [hv]
   ·cases hx
  ·rfl
 |none=>
  simp only
  unfold Hm
  cases T.elem t0 with
  |none=>rfl
  |some te=>
   simp only
   cases T.ty te with
   |none=>rfl
   |some e=>
    simp only [List.length_map,Array.length_toList]
    split
    ·rw [Xy _ 0 h]
     cases fY e 0 (parts.toList.map λp=>(p.1,st.ev p.2))<;>rfl
    ·rfl
theorem l6 {t0:TypeId} {len dst:Nat} {parts:List (Nat×AV)} {r:AV×OB} (h:rowOf T t0 len parts dst=some r):ma dst r.1 r.2:=by
 unfold rowOf at h
 split at h
 ·cases h
 ·split at h
  ·cases h
  ·split at h
   ·cases h
   ·split at h
    ·rename_i e _ _
     cases hp:fY e 0 parts with
     |none=>rw [hp] at h;cases h
     |some p=>
      rw [hp] at h
      simp only [Option.map_some,Option.some.injEq] at h
      subst h
      exact ⟨λl hl=>by simpa [AV.refs,AC.refs] using hl,rfl,λl hl=>by simp only [AV.map,Ba];rw [if_neg (Ne.symm hl)],λl=>rfl⟩
    ·cases h
theorem vh {e:Nat} {t0:TypeId} {len:Nat} {parts:Array (Nat×Operand)} {ty:TypeId} {pos:String} {after:Array Edge} (_hl:ma d v b) (hn:Ej d t) (hx: ∀p∈parts.toList,(Fc d v b t).ev p.2=t.ev p.2) (Yl:e≠d)
  (hp:(parts.toList.all λp=>Pj (t.ev p.2))=true) (Ex:Ej e (Fc d v b t)) {s':St} (he:Cl T Γ ops (Fc d v b t) {dst:=some e,op:= .buildSlice t0 len parts,type:=ty,pos:=pos,after:=after,guard:=none} =some s'):
  ∃t',Cl T Γ ops t {dst:=some e,op:= .buildSlice t0 len parts,type:=ty,pos:=pos,after:=after,guard:=none} =some t'/\s'=Fc d v b t'/\Ej d t':=by
 have VY:=Ex.back Yl hn
 have BW:(parts.toList.all λp=>Pj ((Fc d v b t).ev p.2))=true:=List.all_eq_true.2 λp sH=>by rw [hx p sH];exact List.all_eq_true.1 hp p sH
 have hm:(parts.toList.map λp=>(p.1,(Fc d v b t).ev p.2))=parts.toList.map λp=>(p.1,t.ev p.2):=List.map_congr_left λp sH=>by rw [hx p sH]
 unfold Cl at he⊢
 simp only [evalOp] at he⊢
 rw [bU BW,hm] at he
 rw [bU hp]
 cases hr:rowOf T t0 len (parts.toList.map λp=>(p.1,t.ev p.2)) e with
 |none=>rw [hr] at he;cases he
 |some r=>
  rw [hr] at he
  have hL:=l6 hr
  simp only [Option.map_some,Option.some.injEq] at he
  rw [Ex.new] at he
  refine ⟨Fc e r.1 r.2 t,by simp only [Option.map_some];rw [VY.new],?_,hn.plus (Ne.symm Yl) (λh=>Yl (hL.v1 _ h).symm) (by rw [hL.b1];simp)⟩
  rw [<-he,qj (Ne.symm Yl)]
def UR:Operand->AV
 | .const c=>gN c
 |_=> .undef
theorem US {st:St} {x:Operand} (h:Pj (UR x)=true):st.ev x=UR x:=by
 cases x<;>first|rfl|cases h
def Zr (T:Tab) (o:Oper):Option (Nat×AV×OB):=match o.guard with
 |some _=>none
 |none=>match o.dst with
  |none=>none
  |some d=>match o.op with
   | .buildSlice t0 len parts=>if (parts.toList.all λp=>Pj (UR p.2))=true then (rowOf T t0 len (parts.toList.map λp=>(p.1,UR p.2)) d).map λr=>(d,r.1,r.2) else none
   | .makeMap t0 none=>match T.mapOf t0 with
    |some τ=>if d<Ai then some (d, .at (.Gi d), .On τ λ_=>none) else none
    |none=>none
   |_=>none
theorem Zs {o:Oper} {r:Nat×AV×OB} (h:Zr T o=some r):o.dst=some r.1/\ma r.1 r.2.1 r.2.2/\ ∀st:St,Ej r.1 st->Cl T Γ ops st o=some (Fc r.1 r.2.1 r.2.2 st):=by
 obtain ⟨dst,op,ty,pos,after,guard⟩:=o
 unfold Zr at h
 cases guard with
 |some g=>cases h
 |none=>
  cases dst with
  |none=>cases h
  |some d=>
   cases op with
   |buildSlice t0 len parts=>
    simp only at h
    split at h
    ·rename_i hp
     cases hr:rowOf T t0 len (parts.toList.map λp=>(p.1,UR p.2)) d with
     |none=>rw [hr] at h;cases h
     |some q=>
      rw [hr] at h
      simp only [Option.map_some,Option.some.injEq] at h
      subst h
      refine ⟨rfl,l6 hr,λst Pc=>?_⟩
      have yF: ∀p∈parts.toList,st.ev p.2=UR p.2:= λp sH=>US (List.all_eq_true.1 hp p sH)
      have hm:(parts.toList.map λp=>(p.1,st.ev p.2))=parts.toList.map λp=>(p.1,UR p.2):=List.map_congr_left λp sH=>by rw [yF p sH]
      have BW:(parts.toList.all λp=>Pj (st.ev p.2))=true:=List.all_eq_true.2 λp sH=>by rw [yF p sH];exact List.all_eq_true.1 hp p sH
      unfold Cl
      simp only [evalOp]
      rw [bU BW,hm,hr]
      simp only [Option.map_some]
      rw [Pc.new]
    ·cases h
   |makeMap t0 hint=>
    cases hint with
    |some x=>cases h
    |none=>
     simp only at h
     split at h
     ·rename_i τ Nb
      split at h
      ·rename_i hd
       cases h
       refine ⟨rfl,⟨λl hl=>by simpa [AV.refs,AC.refs] using hl,rfl,λl hl=>by simp only [AV.map,Ba];rw [if_neg (Ne.symm hl)],λl=>rfl⟩,λst Pc=>?_⟩
       unfold Cl
       simp only [evalOp,Ny,Nb,if_pos hd,Option.map_some]
       rw [Pc.new]
      ·cases h
     ·cases h
   |_=>cases h
theorem tR {l:List Operand} (h: ∀x∈l,(Fc d v b t).ev x=t.ev x):(l.all λx=>((Fc d v b t).ev x).settled)=(l.map t.ev).all (·.settled):=by
 rw [List.all_map]
 induction l with
 |nil=>rfl
 |cons x r ih=>
  simp only [List.all_cons,Function.comp]
  rw [h x (by simp),ih λy hy=>h y (by simp [hy])]
theorem tS {o:Oper} (hl:ma d v b) (hn:Ej d t) (hs:Pn Γ (Fc d v b t) o=true) (hu:(dw o).all (cP d)=true) (Yl:o.dst≠some d) {s':St} (he:Cl T Γ ops (Fc d v b t) o=some s'):
  ∃t',Cl T Γ ops t o=some t'/\s'=Fc d v b t'/\Ej d t'/\Pn Γ t o=true:=by
 obtain ⟨dst,op,ty,pos,after,guard⟩:=o
 unfold Pn at hs
 cases guard with
 |some g=>cases hs
 |none=>
  simp only at hs
  split at hs
  ·rename_i x
   have hx:=Rz (v:=v) (b:=b) (t:=t) hu x (by simp [dw])
   obtain ⟨t',h1,h2,h3⟩:=z9 hn hx Yl he
   exact ⟨t',h1,h2,h3,rfl⟩
  ·rename_i t0 x
   have hx:=Rz (v:=v) (b:=b) (t:=t) hu x (by simp [dw])
   rw [hx] at hs
   split at hs
   ·rename_i l i hp
    obtain ⟨t',h1,h2,h3⟩:=z0 hn hx Yl hp he
    exact ⟨t',h1,h2,h3,by simp only [Pn,hp]⟩
   ·cases hs
  ·rename_i f args tys
   rw [Bool.and_eq_true] at hs
   obtain ⟨eJ,BY⟩:=hs
   split at eJ
   ·rename_i sp Mi
    have yF:=Rz (v:=v) (b:=b) (t:=t) (l:=args.toList) hu
    rw [tR yF] at BY
    obtain ⟨t',h1,h2,h3⟩:=yj Mi hn (DD hu) Yl BY he
    refine ⟨t',h1,h2,h3,?_⟩
    simp only [Pn,Mi,Bool.true_and]
    rw [List.all_map] at BY
    exact BY
   ·cases eJ
  ·rename_i t0 m k x
   have hm:=Rz (v:=v) (b:=b) (t:=t) hu m (by simp [dw])
   have hk:=Rz (v:=v) (b:=b) (t:=t) hu k (by simp [dw])
   have hx:=Rz (v:=v) (b:=b) (t:=t) hu x (by simp [dw])
   rw [hm,hk,hx] at hs
   have hs0:=hs
   rw [Bool.and_eq_true] at hs
   obtain ⟨t',h1,h2,h3⟩:=sM hn hm hk hx Yl hs.2 he
   exact ⟨t',h1,h2,h3,hs0⟩
  ·rename_i t0 len parts
   rw [Bool.and_eq_true] at hs
   obtain ⟨eJ,BY⟩:=hs
   cases dst with
   |none=>cases BY
   |some e=>
    simp only at BY
    have hed:e≠d:= λh=>Yl (by rw [h])
    have bJ:(parts.toList.map (λp=>p.2)).all (cP d)=true:=hu
    have yF:=Rz (v:=v) (b:=b) (t:=t) bJ
    have hx: ∀p∈parts.toList,(Fc d v b t).ev p.2=t.ev p.2:= λp hp=>yF p.2 (List.mem_map.2 ⟨p,hp,rfl⟩)
    have hp:(parts.toList.all λp=>Pj (t.ev p.2))=true:=List.all_eq_true.2 λp hp=>by rw [<-hx p hp];exact List.all_eq_true.1 eJ p hp
    have Ex:=nz BY
    obtain ⟨t',h1,h2,h3⟩:=vh hl hn hx hed hp Ex he
    refine ⟨t',h1,h2,h3,?_⟩
    simp only [Pn,hp,Bool.true_and]
    exact EU (Ex.back hed hn)
  ·cases hs
def rX:List (Nat×AV×OB)->St->St->Prop
 | [],s,t=>s=t
 |q::Q,s,t=>Ej q.1 t/\rX Q s (Fc q.1 q.2.1 q.2.2 t)
theorem rf {o:Oper} : ∀(Q:List (Nat×AV×OB)) (s t s':St),rX Q s t->(∀q∈Q,ma q.1 q.2.1 q.2.2/\(dw o).all (cP q.1)=true/\o.dst≠some q.1)->Pn Γ s o=true->Cl T Γ ops s o=some s'->
  ∃t',Cl T Γ ops t o=some t'/\rX Q s' t'/\Pn Γ t o=true
 | [],s,t,s',h,_,hs,he=>by
  have h:s=t:=h
  subst h
  exact ⟨s',he,rfl,hs⟩
 |q::Q,s,t,s',⟨h1,h2⟩,hq,hs,he=>by
  obtain ⟨u',e1,e2,e3⟩:=rf Q s _ s' h2 (λp hp=>hq p (List.mem_cons_of_mem _ hp)) hs he
  obtain ⟨l1,l2,l3⟩:=hq q (by simp)
  obtain ⟨t',f1,f2,f3,f4⟩:=tS l1 h1 e3 l2 l3 e1
  exact ⟨t',f1,⟨f3,by rw [<-f2];exact e2⟩,f4⟩
theorem rh {q:Nat×AV×OB} : ∀(Q1:List (Nat×AV×OB)) {Q2:List (Nat×AV×OB)} {s t:St},rX (Q1++q::Q2) s t->(∀p∈Q1++q::Q2,ma p.1 p.2.1 p.2.2)->(∀p∈Q1,p.1≠q.1)->
  Ej q.1 t/\rX (Q1++Q2) s (Fc q.1 q.2.1 q.2.2 t)
 | [],Q2,s,t,h,_,_=>h
 |p::Q1,Q2,s,t,⟨h1,h2⟩,hL,Ex=>by
  have ZG:=Ex p (by simp)
  have hLp:=hL p (by simp)
  have hLq:=hL q (by simp)
  obtain ⟨g1,g2⟩:=rh Q1 h2 (λr hr=>hL r (List.mem_cons_of_mem _ hr)) λr hr=>Ex r (List.mem_cons_of_mem _ hr)
  refine ⟨g1.back (Ne.symm ZG) h1,h1.plus ZG (λh=>ZG (hLq.v1 _ h)) (by rw [hLq.b1];simp),?_⟩
  show rX (Q1++Q2) s (Fc p.1 p.2.1 p.2.2 (Fc q.1 q.2.1 q.2.2 t))
  rw [qj (Ne.symm ZG)]
  exact g2
def gx (ops:Array Oper):Nat->Nat->Nat->Bool
 |0,_,_=>false
 |f+1,i,a=>Region.waitsFor .any ops i a||(List.range ops.size).any λk=>Region.waitsFor .any ops i k&&gx ops f k a
def Te (ops:Array Oper) (Ad:Array Bool):Prop:= ∀k a,Ad.getD k false=true->Region.waitsFor .any ops k a=true->Ad.getD a false=true
theorem cX {Ad:Array Bool} {i a:Nat} (h:i∈Region.ready .any ops Ad) (hw:Region.waitsFor .any ops i a=true):Ad.getD a false=true:=by
 obtain ⟨_,o,ho,Ia⟩:=mem_ready.1 h
 obtain ⟨o',ZD,e,he,hb,rfl⟩:=Region.waitsFor_spec hw
 rw [ho] at ZD
 cases ZD
 exact Ia e he hb
theorem fc {Ad:Array Bool} (hc:Te ops Ad) {a:Nat} : ∀(f i:Nat),(∀x,Region.waitsFor .any ops i x=true->Ad.getD x false=true)->gx ops f i a=true->Ad.getD a false=true
 |0,_,_,h=>by cases h
 |f+1,i,hi,h=>by
  simp only [gx,Bool.or_eq_true,List.any_eq_true,Bool.and_eq_true] at h
  rcases h with h|⟨k,_,h1,h2⟩
  ·exact hi a h
  ·exact fc hc f k (λx hx=>hc k x (hi k h1) hx) h2
theorem Te.set {Ad:Array Bool} (hc:Te ops Ad) {i:Nat} (hi:i∈Region.ready .any ops Ad):Te ops (Ad.setIfInBounds i true):= λk a hk hw=>by
 by_cases hik:i=k
 ·subst hik
  exact getD_set_true (cX hi hw)
 ·rw [getD_set_ne false hik] at hk
  exact getD_set_true (hc k a hk hw)
def ze (P:List (Nat×Nat×AV×OB)) (Γ:Env) (ops:Array Oper) (st:St) (o:Oper) (i:Nat):Bool:=
 (P.all λa=>gx ops 5 i a.1)||(Pn Γ st o&&P.all λa=>gx ops 5 i a.1||((dw o).all (cP a.2.1)&&(match o.dst with
  |some e=>!Nat.beq e a.2.1
  |none=>true)))
def UO (T:Tab) (Γ:Env) (ops:Array Oper) (P:List (Nat×Nat×AV×OB)) (K:St->Prop):Nat->Array Bool->St->Prop
 |0,Ad,st=>Region.ready .any ops Ad= []/\K st
 |f+1,Ad,st=>Region.ready .any ops Ad≠ []/\ ∀i∈Region.ready .any ops Ad,∃o st',ops[i]?=some o/\ze P Γ ops st o i=true/\Cl T Γ ops st o=some st'/\UO T Γ ops P K f (Ad.setIfInBounds i true) st'
structure HT (lc la:Array Bool) (Q:List Nat):Prop where
 size:la.size=lc.size
 off: ∀k∈Q,k<la.size/\la.getD k false=false/\lc.getD k false=true
 same: ∀k,k∉Q->la.getD k false=lc.getD k false
theorem HT.ready {lc la:Array Bool} {Q:List Nat} (h:HT lc la Q) {i:Nat} (hi:i∈Region.ready .any ops la) (hn:i∉Q):i∈Region.ready .any ops lc:=by
 obtain ⟨h1,o,ho,Ia⟩:=mem_ready.1 hi
 have Hq:i<la.size:=by
  rcases Nat.lt_or_ge i la.size with h'|h'
  ·exact h'
  ·simp [Array.getElem?_eq_none h'] at h1
 have h2:=getD_both h1
 rw [h.same i hn] at h2
 refine mem_ready.2 ⟨getD_in (by rw [<-h.size];exact Hq) h2,o,ho,λe he hb=>?_⟩
 have h3:=Ia e he hb
 by_cases hq:e.on∈Q
 ·exact (h.off _ hq).2.2
 ·rw [<-h.same _ hq];exact h3
theorem HT.nil {lc la:Array Bool} (h:HT lc la []):la=lc:=by
 refine Array.ext h.size λk h1 h2=>?_
 have:=h.same k (by simp)
 simpa [h1,h2] using this
theorem HT.one {lc la:Array Bool} {Q Q':List Nat} {i:Nat} (h:HT lc la Q) (hi:i∈Q) (hs: ∀k,k∈Q'↔k∈Q/\k≠i):HT lc (la.setIfInBounds i true) Q':=by
 refine ⟨by simp [h.size],λk hk=>?_,λk hk=>?_⟩
 ·obtain ⟨h1,h2⟩:=(hs k).1 hk
  obtain ⟨g1,g2,g3⟩:=h.off k h1
  exact ⟨by simpa using g1,by rw [getD_set_ne false (Ne.symm h2)];exact g2,g3⟩
 ·by_cases e:i=k
  ·subst e
   obtain ⟨g1,g2,g3⟩:=h.off i hi
   rw [g3]
   simp [g1]
  ·rw [getD_set_ne false e]
   exact h.same k λhq=>hk ((hs k).2 ⟨hq,Ne.symm e⟩)
theorem HT.both {lc la:Array Bool} {Q:List Nat} {i:Nat} (h:HT lc la Q) (hi:i∉Q):HT (lc.setIfInBounds i true) (la.setIfInBounds i true) Q:=by
 refine ⟨by simp [h.size],λk hk=>?_,λk hk=>?_⟩
 ·obtain ⟨g1,g2,g3⟩:=h.off k hk
  have Ex:i≠k:= λe=>hi (by rw [e];exact hk)
  exact ⟨by simpa using g1,by rw [getD_set_ne false Ex];exact g2,by rw [getD_set_ne false Ex];exact g3⟩
 ·by_cases e:i=k
  ·subst e
   have hs:=h.same i hi
   have hz:=h.size
   by_cases hl:i<la.size
   ·simp [hl,hz▸hl]
   ·have Gk: ¬i<lc.size:=by omega
    simp [hl,Gk]
  ·rw [getD_set_ne false e,getD_set_ne false e];exact h.same k hk
theorem zb {dst:Option Tmp} {d:Nat} (h:(match dst with
  |some e=>!Nat.beq e d
  |none=>true)=true):dst≠some d:= λe=>by
 subst e
 simp at h
theorem DB {P:List (Nat×Nat×AV×OB)} {K:St->Prop} (hP: ∀a∈P,∃o,ops[a.1]?=some o/\Zr T o=some a.2):
  ∀(n f:Nat) (Q:List (Nat×Nat×AV×OB)) (lc la:Array Bool) (s t:St),n=f+Q.length->UO T Γ ops P K f lc s->rX (Q.map (·.2)) s t->HT lc la (Q.map (·.1))->(∀a∈Q,a∈P)->
   (Q.Pairwise λa c=>a.2.1≠c.2.1/\a.1≠c.1)->Te ops la->(∀a∈Q,∀x,Region.waitsFor .any ops a.1 x=true->la.getD x false=true)->anyS T Γ ops K n la t:=by
 intro n
 induction n with
 |zero=>
  intro f Q lc la s t hn hC hp hb hQ hpw Na hw
  have hf:f=0:=by omega
  have hq:Q= []:=List.eq_nil_of_length_eq_zero (by omega)
  subst hf hq
  have hp:s=t:=hp
  subst hp
  rw [hb.nil]
  exact hC
 |succ n ih=>
  intro f Q lc la s t hn hC hp hb hQ hpw Na hw
  refine ⟨?_,λi hi=>?_⟩
  ·cases Q with
   |nil=>
    rw [hb.nil]
    cases f with
    |zero=>simp at hn
    |succ f=>exact hC.1
   |cons a Q=>
    obtain ⟨o,ho,_⟩:=hP a (hQ a (by simp))
    obtain ⟨g1,g2,_⟩:=hb.off a.1 (by simp)
    have:a.1∈Region.ready .any ops la:=mem_ready.2 ⟨getD_in g1 g2,o,ho,λe he hbd=>hw a (by simp) e.on (by
     unfold Region.waitsFor
     rw [ho]
     exact Array.any_eq_true'.2 ⟨e,he,by simp [hbd]⟩)⟩
    intro e
    rw [e] at this
    cases this
  ·by_cases hiQ:i∈Q.map (·.1)
   ·obtain ⟨a,ha,rfl⟩:=List.mem_map.1 hiQ
    obtain ⟨Q1,Q2,rfl⟩:=List.append_of_mem ha
    obtain ⟨o,ho,hal⟩:=hP a (hQ a ha)
    obtain ⟨_,_,Pc⟩:=Zs (Γ:=Γ) (ops:=ops) hal
    have JW:=List.pairwise_append.1 hpw
    have Ab6:=List.pairwise_cons.1 JW.2.1
    rw [List.map_append,List.map_cons] at hp
    have hL: ∀p∈Q1.map (·.2)++a.2::Q2.map (·.2),ma p.1 p.2.1 p.2.2:= λp sH=>by
     have:p∈(Q1++a::Q2).map (·.2):=by rw [List.map_append,List.map_cons];exact sH
     obtain ⟨c,hc,rfl⟩:=List.mem_map.1 this
     obtain ⟨o',_,Afm⟩:=hP c (hQ c hc)
     exact (Zs (Γ:=Γ) (ops:=ops) Afm).2.1
    obtain ⟨p1,p2⟩:=rh _ hp hL λp sH=>by
     obtain ⟨c,hc,rfl⟩:=List.mem_map.1 sH
     exact (JW.2.2 c hc a (by simp)).1
    refine ⟨o,_,ho,Pc t p1,ih f (Q1++Q2) lc _ s _ ?_ hC (by rw [List.map_append];exact p2) (hb.one hiQ λk=>?_) (λc hc=>hQ c ?_) ?_ (Na.set hi) λc hc x hx=>getD_set_true (hw c ?_ x hx)⟩
    ·simp only [List.length_append,List.length_cons] at hn⊢;omega
    ·simp only [List.map_append,List.map_cons,List.mem_append,List.mem_cons]
     constructor
     ·intro h
      rcases h with h|h
      ·obtain ⟨c,hc,rfl⟩:=List.mem_map.1 h
       exact ⟨.inl h,(JW.2.2 c hc a (by simp)).2⟩
      ·obtain ⟨c,hc,rfl⟩:=List.mem_map.1 h
       exact ⟨.inr (.inr h),Ne.symm (Ab6.1 c hc).2⟩
     ·rintro ⟨h|h|h,Ex⟩
      ·exact .inl h
      ·exact absurd h Ex
      ·exact .inr h
    ·rcases List.mem_append.1 hc with hc|hc
     ·exact List.mem_append_left _ hc
     ·exact List.mem_append_right _ (List.mem_cons_of_mem _ hc)
    ·exact List.pairwise_append.2 ⟨JW.1,Ab6.2,λc hc e he=>JW.2.2 c hc e (List.mem_cons_of_mem _ he)⟩
    ·rcases List.mem_append.1 hc with hc|hc
     ·exact List.mem_append_left _ hc
     ·exact List.mem_append_right _ (List.mem_cons_of_mem _ hc)
   ·have hic:=hb.ready hi hiQ
    cases f with
    |zero=>
     rw [hC.1] at hic
     cases hic
    |succ f=>
     obtain ⟨o,s',ho,Yn,he,eI⟩:=hC.2 i hic
     have QB: ∀a∈Q,gx ops 5 i a.1=false:= λa ha=>by
      cases hwt:gx ops 5 i a.1 with
      |false=>rfl
      |true=>
       have h1:=fc Na _ i (λx hx=>cX hi hx) hwt
       rw [(hb.off a.1 (List.mem_map.2 ⟨a,ha,rfl⟩)).2.1] at h1
       cases h1
     have key: ∃t',Cl T Γ ops t o=some t'/\rX (Q.map (·.2)) s' t':=by
      unfold ze at Yn
      rw [Bool.or_eq_true,Bool.and_eq_true] at Yn
      rcases Yn with Yn|⟨h1,h2⟩
      ·cases Q with
       |nil=>
        have hp:s=t:=hp
        subst hp
        exact ⟨s',he,rfl⟩
       |cons a Q=>
        have:=List.all_eq_true.1 Yn a (hQ a (by simp))
        rw [QB a (by simp)] at this
        cases this
      ·obtain ⟨t',g1,g2,_⟩:=rf (T:=T) (ops:=ops) _ s t s' hp (λq hq=>by
        obtain ⟨a,ha,rfl⟩:=List.mem_map.1 hq
        obtain ⟨o',_,hal⟩:=hP a (hQ a ha)
        have h3:=List.all_eq_true.1 h2 a (hQ a ha)
        rw [QB a ha,Bool.false_or,Bool.and_eq_true] at h3
        exact ⟨(Zs (Γ:=Γ) (ops:=ops) hal).2.1,h3.1,zb h3.2⟩) h1 he
       exact ⟨t',g1,g2⟩
     obtain ⟨t',g1,g2⟩:=key
     exact ⟨o,t',ho,g1,ih f Q _ _ s' t' (by omega) eI g2 (hb.both hiQ) hQ hpw (Na.set hi) λc hc x hx=>getD_set_true (hw c hc x hx)⟩
def Rw (T:Tab) (ops:Array Oper) (Ad:Array Bool):List (Nat×Nat×AV×OB):=(Region.ready .any ops Ad).filterMap λi=>((ops[i]?).bind (Zr T)).map λr=>(i,r)
theorem s7 {Ad:Array Bool} {a:Nat×Nat×AV×OB} (h:a∈Rw T ops Ad):a.1∈Region.ready .any ops Ad/\ ∃o,ops[a.1]?=some o/\Zr T o=some a.2:=by
 unfold Rw at h
 obtain ⟨i,hi,he⟩:=List.mem_filterMap.1 h
 cases ho:ops[i]? with
 |none=>rw [ho] at he;cases he
 |some o=>
  rw [ho] at he
  simp only [Option.bind_some,Option.map_eq_some_iff] at he
  obtain ⟨r,h1,rfl⟩:=he
  exact ⟨hi,o,ho,h1⟩
theorem vq:Te ops (Array.replicate ops.size false):= λk a hk _=>by
 rw [getD_replicate_false] at hk
 cases hk
theorem Zx (q:Bool): ∀(l:List Nat) (Ad:Array Bool),Te ops Ad->Te ops (Eh (Fl q ops l Ad) Ad)
 | [],Ad,h=>h
 |i::r,Ad,h=>by
  simp only [Fl]
  split
  ·rename_i hc
   rw [Bool.and_eq_true,Bool.and_eq_true] at hc
   have hi:i∈Region.ready .any ops Ad:=by simpa using hc.2.1
   exact Zx q r _ (h.set hi)
  ·exact Zx q r Ad h
theorem cI: ∀(l:List Nat) (Ad:Array Bool),(Eh l Ad).size=Ad.size
 | [],_=>rfl
 |i::r,Ad=>by simp only [Eh];rw [cI r];simp
theorem iu: ∀(l:List Nat) (Ad:Array Bool) (k:Nat),k∈l->k<Ad.size->(Eh l Ad).getD k false=true
 |i::r,Ad,k,h,hk=>by
  simp only [Eh]
  by_cases hr:k∈r
  ·exact iu r _ k hr (by simpa using hk)
  ·have:k=i:=(List.mem_cons.1 h).resolve_right hr
   subst this
   have hs: ∀(l:List Nat) (A:Array Bool),A.getD k false=true->(Eh l A).getD k false=true:=by
    intro l
    induction l with
    |nil=>exact λA h=>h
    |cons j l ih=>exact λA h=>ih _ (getD_set_true h)
   exact hs r _ (by simp [hk])
theorem eN: ∀(l:List Nat) (Ad:Array Bool) (k:Nat),k∉l->(Eh l Ad).getD k false=Ad.getD k false
 | [],_,_,_=>rfl
 |i::r,Ad,k,h=>by
  simp only [Eh]
  rw [eN r _ k λhk=>h (List.mem_cons_of_mem _ hk),getD_set_ne false (λe=>h (by rw [e];simp))]
theorem OS {Ad:Array Bool} {Q:List Nat} (h: ∀i∈Q,i∈Region.ready .any ops Ad):HT (Eh Q Ad) Ad Q:=by
 have hr: ∀i∈Q,i<Ad.size/\Ad.getD i false=false:= λi hi=>by
  have h1:=(mem_ready.1 (h i hi)).1
  refine ⟨?_,getD_both h1⟩
  rcases Nat.lt_or_ge i Ad.size with h'|h'
  ·exact h'
  ·simp [Array.getElem?_eq_none h'] at h1
 exact ⟨(cI Q Ad).symm,λk hk=>⟨(hr k hk).1,(hr k hk).2,iu Q Ad k hk (hr k hk).1⟩,λk hk=>(eN Q Ad k hk).symm⟩
theorem wZ: ∀(Q:List (Nat×Nat×AV×OB)) (t s:St),(∀a∈Q,∃o,ops[a.1]?=some o/\Zr T o=some a.2)->(∀a∈Q,Ej a.2.1 t)->(Q.Pairwise λa c=>a.2.1≠c.2.1)->Jl T Γ ops (Q.map (·.1)) t=some s->rX (Q.map (·.2)) s t
 | [],t,s,_,_,_,h=>by
  have h:some t=some s:=h
  exact (Option.some.inj h).symm
 |a::Q,t,s,hQ,hn,hp,h=>by
  obtain ⟨o,ho,hal⟩:=hQ a (by simp)
  obtain ⟨_,hL,Pc⟩:=Zs (Γ:=Γ) (ops:=ops) hal
  obtain ⟨uM,DY⟩:=List.pairwise_cons.1 hp
  simp only [List.map_cons,Jl,ho] at h
  rw [Pc t (hn a (by simp))] at h
  refine ⟨hn a (by simp),wZ Q _ s (λc hc=>hQ c (List.mem_cons_of_mem _ hc)) (λc hc=>?_) DY h⟩
  exact (hn c (List.mem_cons_of_mem _ hc)).plus (Ne.symm (uM c hc)) (λh=>uM c hc (hL.v1 _ h).symm) (by rw [hL.b1];simp)
end
end Go.Proofs.Ytjbdmibbbpdnnaa
