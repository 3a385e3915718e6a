/-
  Part 30 of the proof that the statement FnExactSolveByMethod holds.
-/
import Derived.Test.YtjbdmibbbpdnnaaCSolveByMethod28
namespace Go.Proofs.Ytjbdmibbbpdnnaa
open Go.RowKit
def Fc (d:Nat) (v:AV) (b:OB) (st:St):St:= {tmps:=Nz st.tmps d v,heap:=Jk st.heap d b}
def jT (d:Nat) (st:St):Bool:=(st.get d).refs.isEmpty&&((st.tmps.all λv=>!v.refs.contains d)&&st.heap.all λp=>!Nat.beq p.1 d&&!p.2.refs.contains d)
structure Ek (d:Nat) (st:St):Prop where
 own:(st.get d).refs= []
 tmps: ∀v∈st.tmps,d∉v.refs
 heap: ∀p∈st.heap,p.1≠d/\d∉p.2.refs
theorem nK {d:Nat} {st:St} (h:jT d st=true):Ek d st:=by
 unfold jT at h
 rw [Bool.and_eq_true,Bool.and_eq_true,List.all_eq_true,List.all_eq_true] at h
 obtain ⟨h0,h⟩:=h
 refine ⟨List.isEmpty_iff.1 h0,λv hv=>?_,λp hp=>?_⟩
 ·have:=h.1 v hv
  intro hd
  rw [List.contains_iff_mem.2 hd] at this
  cases this
 ·have:=h.2 p hp
  rw [Bool.and_eq_true] at this
  refine ⟨λe=>?_,λhd=>?_⟩
  ·have h1:=this.1
   rw [e,Nat.beq_refl] at h1
   cases h1
  ·have h1:=this.2
   rw [List.contains_iff_mem.2 hd] at h1
   cases h1
theorem FL {d:Nat} {st:St} (h:Ek d st):jT d st=true:=by
 unfold jT
 rw [Bool.and_eq_true,Bool.and_eq_true,List.all_eq_true,List.all_eq_true]
 refine ⟨by rw [h.own];rfl,λv hv=>?_,λp hp=>?_⟩
 ·rw [Bool.not_eq_true',<-Bool.not_eq_true,List.contains_iff_mem];exact h.tmps v hv
 ·rw [Bool.and_eq_true]
  refine ⟨?_,?_⟩
  ·rw [Bool.not_eq_true',<-Bool.not_eq_true]
   exact λe=>(h.heap p hp).1 (Nat.eq_of_beq_eq_true e)
  ·rw [Bool.not_eq_true',<-Bool.not_eq_true,List.contains_iff_mem];exact (h.heap p hp).2
structure mn (d:Nat) (v:AV) (b:OB):Prop where
 v1: ∀l,l∈v.refs->l=d
 b1:b.refs= []
 v2: ∀l,l≠d->v.map (Ba l)=v
 b2: ∀l,b.map (Ba l)=b
theorem Yu {α:Type} : ∀(xs:List α) (d t:Nat) (v x:α),d≠t->(Nz xs d v).getD t x=xs.getD t x
 | [],_,_,_,_,_=>rfl
 |y::r,0,0,_,_,h=>absurd rfl h
 |y::r,0,t+1,_,_,_=>by simp [Nz]
 |y::r,d+1,0,_,_,_=>by simp [Nz]
 |y::r,d+1,t+1,v,x,h=>by simpa [Nz] using Yu r d t v x (by omega)
theorem ko {α:Type} : ∀(xs:List α) (d e:Nat) (v w:α),d≠e->Nz (Nz xs d v) e w=Nz (Nz xs e w) d v
 | [],_,_,_,_,_=>rfl
 |y::r,0,0,_,_,h=>absurd rfl h
 |y::r,0,e+1,_,_,_=>rfl
 |y::r,d+1,0,_,_,_=>rfl
 |y::r,d+1,e+1,v,w,h=>by simp only [Nz];rw [ko r d e v w (by omega)]
theorem qT: ∀(H:List (Nat×OB)) (d l:Nat) (b:OB),d≠l->Ae (Jk H d b) l=Ae H l
 | [],d,l,b,h=>by simp [Jk,Ae,h]
 |(k,c)::r,d,l,b,h=>by
  simp only [Jk]
  split
  ·simp only [Ae];rw [if_neg h]
  ·simp only [Ae]
   split
   ·rfl
   ·exact qT r d l b h
theorem qY: ∀(H:List (Nat×OB)) (d e:Nat) (b c:OB),d≠e->Jk (Jk H d b) e c=Jk (Jk H e c) d b
 | [],d,e,b,c,h=>by
  simp only [Jk]
  by_cases h1:e<d
  ·rw [if_pos h1,if_neg (by omega)]
  ·rw [if_neg h1,if_pos (by omega)]
 |(k,a)::r,d,e,b,c,h=>by
  simp only [Jk]
  by_cases h1:d<k<;>by_cases h2:e<k
  ·rw [if_pos h1,if_pos h2]
   simp only [Jk]
   by_cases h3:e<d
   ·rw [if_pos h3,if_neg (by omega),if_pos h1]
   ·rw [if_neg h3,if_pos h2,if_pos (by omega)]
  ·rw [if_pos h1,if_neg h2]
   simp only [Jk]
   rw [if_neg (by omega),if_neg h2,if_pos h1]
  ·rw [if_neg h1,if_pos h2]
   simp only [Jk]
   rw [if_pos h2,if_neg (by omega),if_neg h1]
  ·rw [if_neg h1,if_neg h2]
   simp only [Jk]
   rw [if_neg h1,if_neg h2,qY r d e b c h]
theorem rY: ∀(H:List (Nat×OB)) (d l:Nat) (b c:OB),d≠l->Ya (Jk H d b) l c=Jk (Ya H l c) d b
 | [],d,l,b,c,h=>by simp [Jk,Ya,h]
 |(k,a)::r,d,l,b,c,h=>by
  simp only [Jk,Ya]
  by_cases h1:d<k<;>by_cases h2:k=l
  ·rw [if_pos h1,if_pos h2]
   simp only [Ya,Jk]
   rw [if_neg h,if_pos h2,if_pos h1]
  ·rw [if_pos h1,if_neg h2]
   simp only [Ya,Jk]
   rw [if_neg h,if_neg h2,if_pos h1]
  ·rw [if_neg h1,if_pos h2]
   simp only [Ya,Jk]
   rw [if_pos h2,if_neg h1]
  ·rw [if_neg h1,if_neg h2]
   simp only [Ya,Jk]
   rw [if_neg h2,if_neg h1,rY r d l b c h]
theorem kO {l:Nat} : ∀ {c:AC},l∉c.refs->Ba l c=c:=by
 intro c h
 cases c<;>simp only [Ba]<;>simp only [AC.refs,List.mem_singleton] at h
 case clo f Bz=>rw [if_neg (by simpa using h)]
 all_goals (first|rfl|rw [if_neg (Ne.symm h)])
theorem Tw {l:Nat} : ∀ {cs:List AC},l∉cs.flatMap AC.refs->cs.map (Ba l)=cs
 | [],_=>rfl
 |c::r,h=>by
  rw [List.flatMap_cons,List.mem_append] at h
  rw [List.map_cons,kO (λhh=>h (.inl hh)),Tw (λhh=>h (.inr hh))]
theorem w8 {l:Nat} : ∀ {v:AV},l∉v.refs->v.map (Ba l)=v
 | .at a,h=>by simp only [AV.map];rw [kO h]
 | .agg cs,h=>by simp only [AV.map];rw [Tw h]
 | .Us _ _ _,_=>rfl
 | .Jg ps,h=>by
  simp only [AV.map]
  congr 1
  simp only [AV.refs] at h
  induction ps with
  |nil=>rfl
  |cons p r ih=>
   rw [List.flatMap_cons,List.mem_append] at h
   rw [List.map_cons,Tw (λhh=>h (.inl hh)),ih (λhh=>h (.inr hh))]
theorem w9 {l:Nat} : ∀ {b:OB},l∉b.refs->b.map (Ba l)=b
 | .arr _ _ _ _ _,_=>rfl
 | .Dk _ _ _,_=>rfl
 | .var _ vs,h=>by simp only [OB.map];rw [Tw h]
 | .Am _ _ _ _ _,_=>rfl
 | .Ov _ _,_=>rfl
theorem vS {l:Nat} : ∀ {H:List (Nat×OB)},(∀p∈H,p.1≠l)->Tg H l=H
 | [],_=>rfl
 |(k,b)::r,h=>by
  simp only [Tg]
  rw [if_neg (h (k,b) (by simp)),vS λp hp=>h p (by simp [hp])]
theorem Ek.forget {l:Nat} {st:St} (h:Ek l st):st.forget l=st:=by
 have e1:st.tmps.map (λv=>v.map (Ba l))=st.tmps:=(List.map_congr_left λv hv=>w8 (h.tmps v hv)).trans (List.map_id _)
 have e2:st.heap.map (λp=>(p.1,p.2.map (Ba l)))=st.heap:=(List.map_congr_left λp hp=>by rw [w9 (h.heap p hp).2];rfl).trans (List.map_id _)
 unfold St.forget St.Gm
 simp only [e1,e2]
 rw [vS λp hp=>(h.heap p hp).1]
theorem Ek.new {l:Nat} {st:St} (h:Ek l st) (b:OB) (v:AV):(st.new l b).put (some l) v=Fc l v b st:=by
 unfold St.new
 rw [h.forget]
 rfl
theorem nH {α:Type} : ∀ {xs:List α} {d:Nat} {v x:α},x∈Nz xs d v->x∈xs\/x=v
 | [],_,_,_,h=>by cases h
 |y::r,0,v,x,h=>by
  rcases List.mem_cons.1 h with h|h
  ·exact .inr h
  ·exact .inl (List.mem_cons_of_mem _ h)
 |y::r,d+1,v,x,h=>by
  rcases List.mem_cons.1 h with h|h
  ·exact .inl (by rw [h];simp)
  ·exact (nH h).imp (List.mem_cons_of_mem _) id
theorem wU: ∀ {H:List (Nat×OB)} {d:Nat} {b:OB} {p:Nat×OB},p∈Jk H d b->p∈H\/p=(d,b)
 | [],d,b,p,h=> .inr (by simpa [Jk] using h)
 |(k,c)::r,d,b,p,h=>by
  simp only [Jk] at h
  split at h
  ·rcases List.mem_cons.1 h with h|h
   ·exact .inr h
   ·exact .inl h
  ·rcases List.mem_cons.1 h with h|h
   ·exact .inl (by rw [h];simp)
   ·exact (wU h).imp (List.mem_cons_of_mem _) id
theorem PB {d:Nat} {v:AV} {b:OB} {st:St} {x:Operand} (h:x≠ .tmp d):(Fc d v b st).ev x=st.ev x:=by
 cases x with
 |tmp t=>exact Yu _ _ _ _ _ (λe=>h (by rw [e]))
 |_=>rfl
theorem BN {d l:Nat} {v:AV} {b:OB} {st:St} (h:d≠l):(Fc d v b st).at l=st.at l:=qT _ _ _ _ h
theorem JD {d e:Nat} {v u:AV} {b:OB} {st:St} (h:d≠e):(Fc d v b st).put (some e) u=Fc d v b (st.put (some e) u):=by
 unfold Fc St.put
 simp only
 rw [ko _ _ _ _ _ h]
theorem DV {d l:Nat} {v:AV} {b c:OB} {st:St} (h:d≠l):(Fc d v b st).Gg l c=Fc d v b (st.Gg l c):=by
 unfold Fc St.Gg
 simp only
 rw [rY _ _ _ _ _ h]
theorem qB {d e:Nat} {v u:AV} {b c:OB} {st:St} (h:d≠e):Fc e u c (Fc d v b st)=Fc d v b (Fc e u c st):=by
 unfold Fc
 rw [ko _ _ _ _ _ h,qY _ _ _ _ _ h]
theorem Ek.put {d:Nat} {st:St} {e:Nat} {u:AV} (h:Ek d st) (QE:e≠d) (hu:d∉u.refs):Ek d (st.put (some e) u):=
 ⟨by show (List.getD (Nz st.tmps e u) d .undef).refs= [];rw [Yu _ _ _ _ _ QE];exact h.own,λv hv=>(nH hv).elim (h.tmps v) λe=>by rw [e];exact hu,h.heap⟩
theorem Ek.plus {d e:Nat} {u:AV} {c:OB} {st:St} (h:Ek d st) (QE:d≠e) (hu:d∉u.refs) (hc:d∉c.refs):Ek d (Fc e u c st):=
 ⟨by show (List.getD (Nz st.tmps e u) d .undef).refs= [];rw [Yu _ _ _ _ _ (Ne.symm QE)];exact h.own,λv hv=>(nH hv).elim (h.tmps v) λe=>by rw [e];exact hu,λp hp=>(wU hp).elim (h.heap p) λe'=>by rw [e'];exact ⟨Ne.symm QE,hc⟩⟩
theorem Ek.XU {d e:Nat} {u:AV} {c:OB} {st:St} (h:Ek d (Fc e u c st)): ∀p∈st.heap,p.1≠d/\d∉p.2.refs:= λp hp=>h.heap p (by
 show p∈Jk st.heap e c
 generalize st.heap=H at hp
 induction H with
 |nil=>cases hp
 |cons q r ih=>
  obtain ⟨k,a⟩:=q
  simp only [Jk]
  split
  ·exact List.mem_cons_of_mem _ hp
  ·rcases List.mem_cons.1 hp with hp|hp
   ·rw [hp];simp
   ·exact List.mem_cons_of_mem _ (ih hp))
theorem lV {st st':St} : ∀(τ:Ty) (cs:List AC),cs.all (·.settled)=true->Cs st' τ cs=Cs st τ cs:=by
 intro τ
 induction τ with
 |unit=>intro cs _;cases cs<;>rfl
 |pair a r gN eb=>
  intro cs h
  simp only [Cs]
  rw [List.all_eq_true] at h
  rw [gN _ (List.all_eq_true.2 λc hc=>h c (List.mem_of_mem_take hc)),eb _ (List.all_eq_true.2 λc hc=>h c (List.mem_of_mem_drop hc))]
 |_=>
  intro cs h
  rcases cs with _|⟨c,_|⟨c',cs⟩⟩
  ·rfl
  ·simp only [List.all_cons,List.all_nil,Bool.and_true] at h
   simp only [Cs]
   exact Ud h
  ·rfl
theorem bf {st st':St} {τ:Ty} {v:AV} (h:v.settled=true):Cu st' τ v=Cu st τ v:=by
 cases v with
 | «at»a=>
  have ha:a.settled=true:=h
  cases a<;>simp only [AC.settled,Bool.false_eq_true] at ha
  all_goals
   simp only [Cu]
   rw [Kt rfl,Kt rfl]
   rw [Ud (st:=st) (st':=st') rfl]
 |agg cs=>simp only [Cu];rw [lV _ _ h]
 |Us _ _ _=>rfl
 |Jg _=>rfl
theorem dJ {st st':St} : ∀(τ:Ty) (vs:List AV),vs.all (·.settled)=true->Bt st' τ vs=Bt st τ vs
 | .pair a r,v::vs,h=>by
  rw [List.all_cons,Bool.and_eq_true] at h
  simp only [Bt]
  rw [bf (st:=st) (st':=st') h.1,dJ r vs h.2]
 | .pair _ _,[],_=>rfl
 | .unit,[],_=>rfl
 | .unit,_::_,_=>rfl
 | .int _,vs,_=>by cases vs<;>rfl
 | .bool,vs,_=>by cases vs<;>rfl
 | .str,vs,_=>by cases vs<;>rfl
 | .slice _,vs,_=>by cases vs<;>rfl
 | .oslice _,vs,_=>by cases vs<;>rfl
 | .ptr _,vs,_=>by cases vs<;>rfl
 | .optr _,vs,_=>by cases vs<;>rfl
 | .smap _,vs,_=>by cases vs<;>rfl
 | .clo _ _,vs,_=>by cases vs<;>rfl
def Pq:AV->Bool
 | .at (.data _ _ _)=>true
 |_=>false
def dH (o:Oper):List Operand:=match o.op with
 | .move x=> [x]
 | .load _ x=> [x]
 | .call {callee:= .value (.func _),args, .. } =>args.toList
 | .insert _ m k x=> [m,k,x]
 | .buildSlice _ _ parts=>parts.toList.map (·.2)
 |_=> []
def da (d:Nat):Operand->Bool
 | .tmp t=>!Nat.beq t d
 |_=>true
theorem FN {d:Nat} {x:Operand} (h:da d x=true):x≠ .tmp d:= λe=>by
 subst e
 simp [da] at h
def Pu (Γ:Env) (st:St) (o:Oper):Bool:=match o.guard with
 |some _=>false
 |none=>match o.op with
  | .move _=>true
  | .load _ x=>(match st.ev x with
   | .at (.Eb _ _)=>true
   |_=>false)
  | .call {callee:= .value (.func f),args, .. } =>(match Γ f with
   |some (.q _)=>true
   |_=>false)&&args.toList.all λx=>(st.ev x).settled
  | .insert _ m k x=>(match st.ev m with
   | .at (.Gp _)=>true
   |_=>false)&&Pq (st.ev k)&&(st.ev x).settled
  | .buildSlice _ _ parts=>(parts.toList.all λp=>Pq (st.ev p.2))&&(match o.dst with
   |some e=>jT e st
   |none=>false)
  |_=>false
theorem Ek.ev {d:Nat} {st:St} (h:Ek d st) (x:Operand):d∉(st.ev x).refs:=by
 cases x with
 |tmp t=>
  simp only [St.ev,St.get]
  rw [List.getD_eq_getElem?_getD]
  by_cases hl:t<st.tmps.length
  ·rw [List.getElem?_eq_getElem hl];exact h.tmps _ (List.getElem_mem hl)
  ·rw [List.getElem?_eq_none (Nat.le_of_not_lt hl)];simp [AV.refs,AC.refs]
 |const c=>
  simp only [St.ev]
  unfold gX
  split<;>simp [AV.refs,AC.refs]
 |func f=>simp [St.ev,AV.refs,AC.refs]
 |_=>simp [St.ev,AV.refs,AC.refs]
theorem wm: ∀ {H:List (Nat×OB)} {l:Nat} {b:OB},Ae H l=some b->(l,b)∈H
 |(k,c)::r,l,b,h=>by
  simp only [Ae] at h
  split at h
  ·rename_i e;subst e;cases h;simp
  ·exact List.mem_cons_of_mem _ (wm h)
section
variable {T:Tab} {Γ:Env} {ops:Array Oper} {d:Nat} {v:AV} {b:OB} {t:St}
theorem rH {e:Option Tmp} (h:e≠some d) (hn:Ek d t) {y:AV} (hy:d∉y.refs):(Fc d v b t).put e y=Fc d v b (t.put e y)/\Ek d (t.put e y):=by
 cases e with
 |none=>exact ⟨rfl,hn⟩
 |some k=>exact ⟨JD (λe=>h (by rw [e])),hn.put (λe=>h (by rw [e])) hy⟩
theorem dh {o:Oper} (hg:o.guard=none) (Yx:o.dst≠some d) (hn:Ek d t) {q:Option AV} (h1:evalOp T Γ (Fc d v b t) o=q.map λy=>(y,Fc d v b t)) (h2:evalOp T Γ t o=q.map λy=>(y,t)) (hq: ∀y,q=some y->d∉y.refs) {s':St}
  (he:Co T Γ ops (Fc d v b t) o=some s'): ∃t',Co T Γ ops t o=some t'/\s'=Fc d v b t'/\Ek d t':=by
 unfold Co at he⊢
 rw [hg] at he⊢
 simp only at he⊢
 rw [h1] at he
 cases q with
 |none=>cases he
 |some y=>
  obtain ⟨p1,p2⟩:=rH (v:=v) (b:=b) Yx hn (hq y rfl)
  refine ⟨_,by rw [h2];rfl,?_,p2⟩
  simp only [Option.map_some,Option.some.injEq] at he
  rw [<-he,p1]
theorem Sb {l:List Operand} (hu:l.all (da d)=true): ∀x∈l,(Fc d v b t).ev x=t.ev x:= λx hx=>PB (FN (List.all_eq_true.1 hu x hx))
theorem zw {dst:Option Tmp} {x:Operand} {ty:TypeId} {pos:String} {after:Array Edge} (hn:Ek d t) (hx:(Fc d v b t).ev x=t.ev x) (Yx:dst≠some d) {s':St}
  (he:Co T Γ ops (Fc d v b t) {dst:=dst,op:= .move x,type:=ty,pos:=pos,after:=after,guard:=none} =some s'):
  ∃t',Co T Γ ops t {dst:=dst,op:= .move x,type:=ty,pos:=pos,after:=after,guard:=none} =some t'/\s'=Fc d v b t'/\Ek d t':=
 dh rfl Yx hn (q:=some (t.ev x)) (by simp only [evalOp,Cn,hx]) (by simp only [evalOp,Cn]) (λy hy=>by cases hy;exact hn.ev x) he
def loadVar (T:Tab) (o:Option OB) (t0:TypeId) (i:Nat):Option AV:=match T.ty t0 with
 |some τ=>(match o with
  |some (.var _ vs)=>if τ.Ac then (if i+τ.size<=vs.length then some (.agg ((vs.drop i).take τ.size)) else none) else vs[i]?.map .at
  |_=>none)
 |none=>none
theorem eM {st:St} {t0:TypeId} {l i:Nat} :Kn T st t0 (.at (.Eb l i))=loadVar T (st.at l) t0 i:=by
 unfold Kn loadVar
 cases T.ty t0<;>rfl
theorem zr {dst:Option Tmp} {t0:TypeId} {x:Operand} {ty:TypeId} {pos:String} {after:Array Edge} (hn:Ek d t) (hx:(Fc d v b t).ev x=t.ev x) (Yx:dst≠some d) {l i:Nat} (hp:t.ev x= .at (.Eb l i)) {s':St}
  (he:Co T Γ ops (Fc d v b t) {dst:=dst,op:= .load t0 x,type:=ty,pos:=pos,after:=after,guard:=none} =some s'):
  ∃t',Co T Γ ops t {dst:=dst,op:= .load t0 x,type:=ty,pos:=pos,after:=after,guard:=none} =some t'/\s'=Fc d v b t'/\Ek d t':=by
 have hld:d≠l:= λe=>by
  have:=hn.ev x
  rw [hp,e] at this
  exact this (by simp [AV.refs,AC.refs])
 refine dh rfl Yx hn (q:=loadVar T (t.at l) t0 i) ?_ ?_ (λy hy=>?_) he
 ·simp only [evalOp,Cn,hx,hp]
  rw [eM,BN hld]
 ·simp only [evalOp,Cn,hp]
  rw [eM]
 ·unfold loadVar at hy
  split at hy
  ·split at hy
   ·rename_i vs hb
    have hr:d∉vs.flatMap AC.refs:=(hn.heap _ (wm hb)).2
    have gg: ∀c∈vs,d∉c.refs:= λc hc hd=>hr (List.mem_flatMap.2 ⟨c,hc,hd⟩)
    split at hy
    ·split at hy
     ·cases hy
      intro hd
      obtain ⟨c,hc,hd⟩:=List.mem_flatMap.1 hd
      exact gg c (List.mem_of_mem_drop (List.mem_of_mem_take hc)) hd
     ·cases hy
    ·cases hv:vs[i]? with
     |none=>rw [hv] at hy;cases hy
     |some c=>
      rw [hv] at hy
      cases hy
      exact gg c (List.mem_of_getElem? hv)
   ·cases hy
  ·cases hy
theorem DZ {l:List Operand} (hu:l.all (da d)=true):l.map (Fc d v b t).ev=l.map t.ev:=List.map_congr_left λx hx=>Sb hu x hx
theorem yI {dst:Option Tmp} {f:FuncId} {args:Array Operand} {tys:Array TypeId} {ty:TypeId} {pos:String} {after:Array Edge} {sp:Spec} (Mk:Γ f=some (.q sp)) (hn:Ek d t) (hx:args.toList.map (Fc d v b t).ev=args.toList.map t.ev) (Yx:dst≠some d)
  (hs:(args.toList.map t.ev).all (·.settled)=true) {s':St} (he:Co T Γ ops (Fc d v b t) {dst:=dst,op:= .call {callee:= .value (.func f),args:=args,argTypes:=tys},type:=ty,pos:=pos,after:=after,guard:=none} =some s'):
  ∃t',Co T Γ ops t {dst:=dst,op:= .call {callee:= .value (.func f),args:=args,argTypes:=tys},type:=ty,pos:=pos,after:=after,guard:=none} =some t'/\s'=Fc d v b t'/\Ek d t':=by
 have CP:aC sp (args.toList.map t.ev)=false:=by unfold aC;rw [hs];simp
 have z0: ∀st:St,Jq Γ st f (args.toList.map t.ev)=(match Bt t sp.arg (args.toList.map t.ev) with
   |none=>none
   |some (_,x)=>(sp.fn x).map λy=>if sp.Gh then .Us (sp.fresh||sp.res.flat) sp.res y else .at (.data (sp.fresh||sp.res.flat) sp.res y)):= λst=>by
  unfold Jq
  rw [Mk]
  simp only
  rw [hs,dJ (st:=t) _ _ hs]
  simp only [Bool.or_true,if_true]
  cases Bt t sp.arg (args.toList.map t.ev)<;>rfl
 refine dh rfl Yx hn (q:=Jq Γ t f (args.toList.map t.ev)) ?_ ?_ (λy hy=>?_) he
 ·simp only [evalOp,Cn,Mk,hx,CP]
  rw [z0,z0 t]
  simp
 ·simp only [evalOp,Cn,Mk,CP]
  simp
 ·rw [z0 t] at hy
  split at hy
  ·cases hy
  ·rename_i x _
   cases hf:sp.fn x with
   |none=>rw [hf] at hy;cases hy
   |some z=>
    rw [hf] at hy
    simp only [Option.map_some,Option.some.injEq] at hy
    rw [<-hy]
    split<;>simp [AV.refs,AC.refs]
def iL (T:Tab) (o:Option OB) (t0:TypeId) (s:ByteArray) (vw:(v:Ty)->Option (Bool×v.den)):Option OB:=match T.mapOf t0 with
 |some v=>(match o,vw v with
  |some (.Ov v' f),some (_,y)=>if h:v'=v/\v.flat=true/\v.Ac=false then some (.Ov v (bd (h.1▸f:ByteArray->Option v.den) s y)) else none
  |_,_=>none)
 |none=>none
theorem eN {st:St} {t0:TypeId} {l:Nat} {fr:Bool} {s:ByteArray} {x:AV} :Ez T st t0 (.at (.Gp l)) (.at (.data fr .str s)) x=(iL T (st.at l) t0 s λv=>Cu st v x).map λc=>st.Gg l c:=by
 unfold Ez iL
 cases T.mapOf t0 with
 |none=>rfl
 |some v0=>
  simp only
  cases st.at l with
  |none=>rfl
  |some c=>
   cases c with
   |Ov v' f=>
    cases Cu st v0 x with
    |none=>rfl
    |some p=>
     simp only
     split<;>rfl
   |_=>rfl
theorem wR {o:Option OB} {t0:TypeId} {s:ByteArray} {vw:(v:Ty)->Option (Bool×v.den)} {c:OB} (h:iL T o t0 s vw=some c):c.refs= []:=by
 unfold iL at h
 split at h
 ·split at h
  ·split at h
   ·cases h;rfl
   ·cases h
  ·cases h
 ·cases h
theorem mR {st:St} {t0:TypeId} {m k x:AV} {s':St} (h:Ez T st t0 m k x=some s'): ∃l fr s,m= .at (.Gp l)/\k= .at (.data fr .str s):=by
 unfold Ez at h
 split at h
 ·exact ⟨_,_,_,rfl,rfl⟩
 ·cases h
theorem wV: ∀ {H:List (Nat×OB)} {l:Nat} {c:OB} {p:Nat×OB},p∈Ya H l c->p∈H\/(p.2=c/\p.1=l/\ ∃c',(l,c')∈H)
 |(k,a)::r,l,c,p,h=>by
  simp only [Ya] at h
  split at h
  ·rename_i e
   rcases List.mem_cons.1 h with h|h
   ·subst h;exact .inr ⟨rfl,e,a,by rw [e];simp⟩
   ·exact .inl (List.mem_cons_of_mem _ h)
  ·rcases List.mem_cons.1 h with h|h
   ·exact .inl (by rw [h];simp)
   ·exact (wV h).imp (List.mem_cons_of_mem _) λ⟨h1,h2,c',h3⟩=>⟨h1,h2,c',List.mem_cons_of_mem _ h3⟩
theorem Ek.Gg {st:St} {l:Nat} {c:OB} (h:Ek d st) (hc:d∉c.refs):Ek d (st.Gg l c):=
 ⟨h.own,h.tmps,λp hp=>(wV hp).elim (h.heap p) λ⟨h1,h2,c',h3⟩=>⟨by rw [h2];exact (h.heap _ h3).1,by rw [h1];exact hc⟩⟩
theorem sZ {dst:Option Tmp} {t0:TypeId} {m k x:Operand} {ty:TypeId} {pos:String} {after:Array Edge} (hn:Ek d t) (hm:(Fc d v b t).ev m=t.ev m) (hk:(Fc d v b t).ev k=t.ev k) (hx:(Fc d v b t).ev x=t.ev x) (Yx:dst≠some d)
  (hs:(t.ev x).settled=true) {s':St} (he:Co T Γ ops (Fc d v b t) {dst:=dst,op:= .insert t0 m k x,type:=ty,pos:=pos,after:=after,guard:=none} =some s'):
  ∃t',Co T Γ ops t {dst:=dst,op:= .insert t0 m k x,type:=ty,pos:=pos,after:=after,guard:=none} =some t'/\s'=Fc d v b t'/\Ek d t':=by
 unfold Co at he⊢
 simp only [evalOp,hm,hk,hx] at he⊢
 cases OV:Ez T (Fc d v b t) t0 (t.ev m) (t.ev k) (t.ev x) with
 |none=>rw [OV] at he;cases he
 |some s1=>
  rw [OV] at he
  simp only [Option.map_some,Option.some.injEq] at he
  obtain ⟨l,fr,s,e1,e2⟩:=mR OV
  have hld:d≠l:= λe=>by
   have:=hn.ev m
   rw [e1,e] at this
   exact this (by simp [AV.refs,AC.refs])
  rw [e1,e2,eN,BN hld] at OV
  have hvw:(λv0=>Cu (Fc d v b t) v0 (t.ev x))= λv0=>Cu t v0 (t.ev x):=funext λv0=>bf hs
  rw [hvw] at OV
  rw [e1,e2,eN]
  cases ho:iL T (t.at l) t0 s λv0=>Cu t v0 (t.ev x) with
  |none=>rw [ho] at OV;cases OV
  |some c=>
   rw [ho] at OV
   simp only [Option.map_some,Option.some.injEq] at OV
   have hc:=wR ho
   have m8:Ek d (t.Gg l c):=hn.Gg (by rw [hc];simp)
   obtain ⟨p1,p2⟩:=rH (v:=v) (b:=b) (y:= .undef) Yx m8 (by simp [AV.refs,AC.refs])
   refine ⟨_,rfl,?_,p2⟩
   rw [<-he,<-OV,DV hld,p1]
theorem Ek.back {e:Nat} (h:Ek e (Fc d v b t)) (QE:e≠d) (hn:Ek d t):Ek e t:=by
 have hg: ∀k,k≠d->(Fc d v b t).get k=t.get k:= λk hk=>Yu _ _ _ _ _ (Ne.symm hk)
 refine ⟨by rw [<-hg e QE];exact h.own,λu hu hd=>?_,h.XU⟩
 obtain ⟨k,hk,rfl⟩:=List.mem_iff_getElem.1 hu
 have e1:t.get k=t.tmps[k]:=by unfold St.get;rw [List.getD_eq_getElem?_getD,List.getElem?_eq_getElem hk];rfl
 by_cases UB:k=d
 ·subst UB
  have:=hn.own
  rw [e1] at this
  rw [this] at hd
  cases hd
 ·have h1:=h.ev (.tmp k)
  have h2:(Fc d v b t).ev (.tmp k)=t.tmps[k]:=by show (Fc d v b t).get k=_;rw [hg k UB,e1]
  rw [h2] at h1
  exact h1 hd
def gu (e:Ty):Nat->List (Nat×AV)->Option (Bool×Bool×List e.den)
 |_,[]=>some (true,true,[])
 |i,(j,x)::r=>if i=j then match Cu ⟨[],[]⟩ e x with
  |some (fr,y)=>match gu e (i+1) r with
   |some (Pc,NR,ys)=>some (fr&&Pc,Mw ⟨[],[]⟩ x&&e.tree&&NR,y::ys)
   |none=>none
  |none=>none
  else none
theorem Yk {st:St} {e:Ty} : ∀(l:List (Nat×Operand)) (i:Nat),(l.all λp=>Pq (st.ev p.2))=true->Gu e i l st=(gu e i (l.map λp=>(p.1,st.ev p.2))).map λp=>(p.1,p.2.1,p.2.2,st)
 | [],i,_=>rfl
 |(j,x)::r,i,h=>by
  rw [List.all_cons,Bool.and_eq_true] at h
  have hx:Pq (st.ev x)=true:=h.1
  simp only [Gu,gu,List.map_cons]
  split
  ·generalize hxv:st.ev x=xv at hx
   unfold Pq at hx
   split at hx
   ·rename_i fr τ z
    have XD:settle st (.at (.data fr τ z))=some (.at (.data fr τ z),st):=rfl
    rw [XD]
    simp only
    rw [bf (st:=⟨[],[]⟩) (st':=st) (v:= .at (.data fr τ z)) rfl]
    cases Cu ⟨[],[]⟩ e (.at (.data fr τ z)) with
    |none=>rfl
    |some p=>
     simp only
     rw [Yk r (i+1) h.2]
     cases gu e (i+1) (r.map λp=>(p.1,st.ev p.2)) with
     |none=>rfl
     |some q=>rfl
   ·cases hx
  ·rfl
def rowOf (T:Tab) (t0:TypeId) (len:Nat) (parts:List (Nat×AV)) (dst:Nat):Option (AV×OB):=match Yv T t0 with
 |some _=>none
 |none=>match T.elem t0 with
  |none=>none
  |some te=>match T.ty te with
   |none=>none
   |some e=>if parts.length=len/\len<=64/\e.size<=64/\dst<Ak then (gu e 0 parts).map λp=>(.at (.own dst 0 len), .arr ((T.mV||e.flat)&&p.1) (T.uH&&p.2.1) e te p.2.2) else none
theorem cb {st:St} {t0:TypeId} {len dst:Nat} {parts:Array (Nat×Operand)} (h:(parts.toList.all λp=>Pq (st.ev p.2))=true):
  Ex T st dst t0 len parts=(rowOf T t0 len (parts.toList.map λp=>(p.1,st.ev p.2)) dst).map λr=>(r.1,st.new dst r.2):=by
 unfold Ex rowOf
 cases Yv T t0 with
 |some p=>
  obtain ⟨te,e⟩:=p
  simp only [Option.map_none]
  split
  ·rename_i x hp
   rw [hp,List.all_cons,Bool.and_eq_true] at h
   have hx:Pq (st.ev x)=true:=h.1
   unfold Pq at hx
   split at hx
   ·rename_i hv;simp only [hv]
   ·cases hx
  ·rfl
 |none=>
  simp only
  unfold Ho
  cases T.elem t0 with
  |none=>rfl
  |some te=>
   simp only
   cases T.ty te with
   |none=>rfl
   |some e=>
    simp only [List.length_map,Array.length_toList]
    split
    ·rw [Yk _ 0 h]
     cases gu e 0 (parts.toList.map λp=>(p.1,st.ev p.2))<;>rfl
    ·rfl
theorem lh {t0:TypeId} {len dst:Nat} {parts:List (Nat×AV)} {r:AV×OB} (h:rowOf T t0 len parts dst=some r):mn dst r.1 r.2:=by
 unfold rowOf at h
 split at h
 ·cases h
 ·split at h
  ·cases h
  ·split at h
   ·cases h
   ·split at h
    ·rename_i e _ _
     cases hp:gu e 0 parts with
     |none=>rw [hp] at h;cases h
     |some p=>
      rw [hp] at h
      simp only [Option.map_some,Option.some.injEq] at h
      subst h
      exact ⟨λl hl=>by simpa [AV.refs,AC.refs] using hl,rfl,λl hl=>by simp only [AV.map,Ba];rw [if_neg (Ne.symm hl)],λl=>rfl⟩
    ·cases h
theorem vH {e:Nat} {t0:TypeId} {len:Nat} {parts:Array (Nat×Operand)} {ty:TypeId} {pos:String} {after:Array Edge} (_hl:mn d v b) (hn:Ek d t) (hx: ∀p∈parts.toList,(Fc d v b t).ev p.2=t.ev p.2) (Yx:e≠d)
  (hp:(parts.toList.all λp=>Pq (t.ev p.2))=true) (Ep:Ek e (Fc d v b t)) {s':St} (he:Co T Γ ops (Fc d v b t) {dst:=some e,op:= .buildSlice t0 len parts,type:=ty,pos:=pos,after:=after,guard:=none} =some s'):
  ∃t',Co T Γ ops t {dst:=some e,op:= .buildSlice t0 len parts,type:=ty,pos:=pos,after:=after,guard:=none} =some t'/\s'=Fc d v b t'/\Ek d t':=by
 have WU:=Ep.back Yx hn
 have CQ:(parts.toList.all λp=>Pq ((Fc d v b t).ev p.2))=true:=List.all_eq_true.2 λp sU=>by rw [hx p sU];exact List.all_eq_true.1 hp p sU
 have hm:(parts.toList.map λp=>(p.1,(Fc d v b t).ev p.2))=parts.toList.map λp=>(p.1,t.ev p.2):=List.map_congr_left λp sU=>by rw [hx p sU]
 unfold Co at he⊢
 simp only [evalOp] at he⊢
 rw [cb CQ,hm] at he
 rw [cb hp]
 cases hr:rowOf T t0 len (parts.toList.map λp=>(p.1,t.ev p.2)) e with
 |none=>rw [hr] at he;cases he
 |some r=>
  rw [hr] at he
  have hL:=lh hr
  simp only [Option.map_some,Option.some.injEq] at he
  rw [Ep.new] at he
  refine ⟨Fc e r.1 r.2 t,by simp only [Option.map_some];rw [WU.new],?_,hn.plus (Ne.symm Yx) (λh=>Yx (hL.v1 _ h).symm) (by rw [hL.b1];simp)⟩
  rw [<-he,qB (Ne.symm Yx)]
def VK:Operand->AV
 | .const c=>gX c
 |_=> .undef
theorem VL {st:St} {x:Operand} (h:Pq (VK x)=true):st.ev x=VK x:=by
 cases x<;>first|rfl|cases h
def a7 (T:Tab) (o:Oper):Option (Nat×AV×OB):=match o.guard with
 |some _=>none
 |none=>match o.dst with
  |none=>none
  |some d=>match o.op with
   | .buildSlice t0 len parts=>if (parts.toList.all λp=>Pq (VK p.2))=true then (rowOf T t0 len (parts.toList.map λp=>(p.1,VK p.2)) d).map λr=>(d,r.1,r.2) else none
   | .makeMap t0 none=>match T.mapOf t0 with
    |some τ=>if d<Ak then some (d, .at (.Gp d), .Ov τ λ_=>none) else none
    |none=>none
   |_=>none
theorem a8 {o:Oper} {r:Nat×AV×OB} (h:a7 T o=some r):o.dst=some r.1/\mn r.1 r.2.1 r.2.2/\ ∀st:St,Ek r.1 st->Co T Γ ops st o=some (Fc r.1 r.2.1 r.2.2 st):=by
 obtain ⟨dst,op,ty,pos,after,guard⟩:=o
 unfold a7 at h
 cases guard with
 |some g=>cases h
 |none=>
  cases dst with
  |none=>cases h
  |some d=>
   cases op with
   |buildSlice t0 len parts=>
    simp only at h
    split at h
    ·rename_i hp
     cases hr:rowOf T t0 len (parts.toList.map λp=>(p.1,VK p.2)) d with
     |none=>rw [hr] at h;cases h
     |some q=>
      rw [hr] at h
      simp only [Option.map_some,Option.some.injEq] at h
      subst h
      refine ⟨rfl,lh hr,λst Ph=>?_⟩
      have z0: ∀p∈parts.toList,st.ev p.2=VK p.2:= λp sU=>VL (List.all_eq_true.1 hp p sU)
      have hm:(parts.toList.map λp=>(p.1,st.ev p.2))=parts.toList.map λp=>(p.1,VK p.2):=List.map_congr_left λp sU=>by rw [z0 p sU]
      have CQ:(parts.toList.all λp=>Pq (st.ev p.2))=true:=List.all_eq_true.2 λp sU=>by rw [z0 p sU];exact List.all_eq_true.1 hp p sU
      unfold Co
      simp only [evalOp]
      rw [cb CQ,hm,hr]
      simp only [Option.map_some]
      rw [Ph.new]
    ·cases h
   |makeMap t0 hint=>
    cases hint with
    |some x=>cases h
    |none=>
     simp only at h
     split at h
     ·rename_i τ Nb
      split at h
      ·rename_i hd
       cases h
       refine ⟨rfl,⟨λl hl=>by simpa [AV.refs,AC.refs] using hl,rfl,λl hl=>by simp only [AV.map,Ba];rw [if_neg (Ne.symm hl)],λl=>rfl⟩,λst Ph=>?_⟩
       unfold Co
       simp only [evalOp,Oc,Nb,if_pos hd,Option.map_some]
       rw [Ph.new]
      ·cases h
     ·cases h
   |_=>cases h
theorem uc {l:List Operand} (h: ∀x∈l,(Fc d v b t).ev x=t.ev x):(l.all λx=>((Fc d v b t).ev x).settled)=(l.map t.ev).all (·.settled):=by
 rw [List.all_map]
 induction l with
 |nil=>rfl
 |cons x r ih=>
  simp only [List.all_cons,Function.comp]
  rw [h x (by simp),ih λy hy=>h y (by simp [hy])]
theorem ud {o:Oper} (hl:mn d v b) (hn:Ek d t) (hs:Pu Γ (Fc d v b t) o=true) (hu:(dH o).all (da d)=true) (Yx:o.dst≠some d) {s':St} (he:Co T Γ ops (Fc d v b t) o=some s'):
  ∃t',Co T Γ ops t o=some t'/\s'=Fc d v b t'/\Ek d t'/\Pu Γ t o=true:=by
 obtain ⟨dst,op,ty,pos,after,guard⟩:=o
 unfold Pu at hs
 cases guard with
 |some g=>cases hs
 |none=>
  simp only at hs
  split at hs
  ·rename_i x
   have hx:=Sb (v:=v) (b:=b) (t:=t) hu x (by simp [dH])
   obtain ⟨t',h1,h2,h3⟩:=zw hn hx Yx he
   exact ⟨t',h1,h2,h3,rfl⟩
  ·rename_i t0 x
   have hx:=Sb (v:=v) (b:=b) (t:=t) hu x (by simp [dH])
   rw [hx] at hs
   split at hs
   ·rename_i l i hp
    obtain ⟨t',h1,h2,h3⟩:=zr hn hx Yx hp he
    exact ⟨t',h1,h2,h3,by simp only [Pu,hp]⟩
   ·cases hs
  ·rename_i f args tys
   rw [Bool.and_eq_true] at hs
   obtain ⟨ma,CS⟩:=hs
   split at ma
   ·rename_i sp Mk
    have z0:=Sb (v:=v) (b:=b) (t:=t) (l:=args.toList) hu
    rw [uc z0] at CS
    obtain ⟨t',h1,h2,h3⟩:=yI Mk hn (DZ hu) Yx CS he
    refine ⟨t',h1,h2,h3,?_⟩
    simp only [Pu,Mk,Bool.true_and]
    rw [List.all_map] at CS
    exact CS
   ·cases ma
  ·rename_i t0 m k x
   have hm:=Sb (v:=v) (b:=b) (t:=t) hu m (by simp [dH])
   have hk:=Sb (v:=v) (b:=b) (t:=t) hu k (by simp [dH])
   have hx:=Sb (v:=v) (b:=b) (t:=t) hu x (by simp [dH])
   rw [hm,hk,hx] at hs
   have hs0:=hs
   rw [Bool.and_eq_true] at hs
   obtain ⟨t',h1,h2,h3⟩:=sZ hn hm hk hx Yx hs.2 he
   exact ⟨t',h1,h2,h3,hs0⟩
  ·rename_i t0 len parts
   rw [Bool.and_eq_true] at hs
   obtain ⟨ma,CS⟩:=hs
   cases dst with
   |none=>cases CS
   |some e=>
    simp only at CS
    have hed:e≠d:= λh=>Yx (by rw [h])
    have bT:(parts.toList.map (λp=>p.2)).all (da d)=true:=hu
    have z0:=Sb (v:=v) (b:=b) (t:=t) bT
    have hx: ∀p∈parts.toList,(Fc d v b t).ev p.2=t.ev p.2:= λp hp=>z0 p.2 (List.mem_map.2 ⟨p,hp,rfl⟩)
    have hp:(parts.toList.all λp=>Pq (t.ev p.2))=true:=List.all_eq_true.2 λp hp=>by rw [<-hx p hp];exact List.all_eq_true.1 ma p hp
    have Ep:=nK CS
    obtain ⟨t',h1,h2,h3⟩:=vH hl hn hx hed hp Ep he
    refine ⟨t',h1,h2,h3,?_⟩
    simp only [Pu,hp,Bool.true_and]
    exact FL (Ep.back hed hn)
  ·cases hs
def si:List (Nat×AV×OB)->St->St->Prop
 | [],s,t=>s=t
 |q::Q,s,t=>Ek q.1 t/\si Q s (Fc q.1 q.2.1 q.2.2 t)
theorem rC {o:Oper} : ∀(Q:List (Nat×AV×OB)) (s t s':St),si Q s t->(∀q∈Q,mn q.1 q.2.1 q.2.2/\(dH o).all (da q.1)=true/\o.dst≠some q.1)->Pu Γ s o=true->Co T Γ ops s o=some s'->
  ∃t',Co T Γ ops t o=some t'/\si Q s' t'/\Pu Γ t o=true
 | [],s,t,s',h,_,hs,he=>by
  have h:s=t:=h
  subst h
  exact ⟨s',he,rfl,hs⟩
 |q::Q,s,t,s',⟨h1,h2⟩,hq,hs,he=>by
  obtain ⟨u',e1,e2,e3⟩:=rC Q s _ s' h2 (λp hp=>hq p (List.mem_cons_of_mem _ hp)) hs he
  obtain ⟨l1,l2,l3⟩:=hq q (by simp)
  obtain ⟨t',f1,f2,f3,f4⟩:=ud l1 h1 e3 l2 l3 e1
  exact ⟨t',f1,⟨f3,by rw [<-f2];exact e2⟩,f4⟩
theorem rD {q:Nat×AV×OB} : ∀(Q1:List (Nat×AV×OB)) {Q2:List (Nat×AV×OB)} {s t:St},si (Q1++q::Q2) s t->(∀p∈Q1++q::Q2,mn p.1 p.2.1 p.2.2)->(∀p∈Q1,p.1≠q.1)->
  Ek q.1 t/\si (Q1++Q2) s (Fc q.1 q.2.1 q.2.2 t)
 | [],Q2,s,t,h,_,_=>h
 |p::Q1,Q2,s,t,⟨h1,h2⟩,hL,Ep=>by
  have hpq:=Ep p (by simp)
  have hLp:=hL p (by simp)
  have hLq:=hL q (by simp)
  obtain ⟨g1,g2⟩:=rD Q1 h2 (λr hr=>hL r (List.mem_cons_of_mem _ hr)) λr hr=>Ep r (List.mem_cons_of_mem _ hr)
  refine ⟨g1.back (Ne.symm hpq) h1,h1.plus hpq (λh=>hpq (hLq.v1 _ h)) (by rw [hLq.b1];simp),?_⟩
  show si (Q1++Q2) s (Fc p.1 p.2.1 p.2.2 (Fc q.1 q.2.1 q.2.2 t))
  rw [qB (Ne.symm hpq)]
  exact g2
def gK (ops:Array Oper):Nat->Nat->Nat->Bool
 |0,_,_=>false
 |f+1,i,a=>Region.waitsFor .any ops i a||(List.range ops.size).any λk=>Region.waitsFor .any ops i k&&gK ops f k a
def Tm (ops:Array Oper) (Ad:Array Bool):Prop:= ∀k a,Ad.getD k false=true->Region.waitsFor .any ops k a=true->Ad.getD a false=true
theorem di {Ad:Array Bool} {i a:Nat} (h:i∈Region.ready .any ops Ad) (hw:Region.waitsFor .any ops i a=true):Ad.getD a false=true:=by
 obtain ⟨_,o,ho,Ib⟩:=mem_ready.1 h
 obtain ⟨o',ho',e,he,hb,rfl⟩:=Region.waitsFor_spec hw
 rw [ho] at ho'
 cases ho'
 exact Ib e he hb
theorem fy {Ad:Array Bool} (hc:Tm ops Ad) {a:Nat} : ∀(f i:Nat),(∀x,Region.waitsFor .any ops i x=true->Ad.getD x false=true)->gK ops f i a=true->Ad.getD a false=true
 |0,_,_,h=>by cases h
 |f+1,i,hi,h=>by
  simp only [gK,Bool.or_eq_true,List.any_eq_true,Bool.and_eq_true] at h
  rcases h with h|⟨k,_,h1,h2⟩
  ·exact hi a h
  ·exact fy hc f k (λx hx=>hc k x (hi k h1) hx) h2
theorem Tm.set {Ad:Array Bool} (hc:Tm ops Ad) {i:Nat} (hi:i∈Region.ready .any ops Ad):Tm ops (Ad.setIfInBounds i true):= λk a hk hw=>by
 by_cases hik:i=k
 ·subst hik
  exact getD_set_true (di hi hw)
 ·rw [getD_set_ne false hik] at hk
  exact getD_set_true (hc k a hk hw)
def zB (P:List (Nat×Nat×AV×OB)) (Γ:Env) (ops:Array Oper) (st:St) (o:Oper) (i:Nat):Bool:=
 (P.all λa=>gK ops 5 i a.1)||(Pu Γ st o&&P.all λa=>gK ops 5 i a.1||((dH o).all (da a.2.1)&&(match o.dst with
  |some e=>!Nat.beq e a.2.1
  |none=>true)))
def VH (T:Tab) (Γ:Env) (ops:Array Oper) (P:List (Nat×Nat×AV×OB)) (K:St->Prop):Nat->Array Bool->St->Prop
 |0,Ad,st=>Region.ready .any ops Ad= []/\K st
 |f+1,Ad,st=>Region.ready .any ops Ad≠ []/\ ∀i∈Region.ready .any ops Ad,∃o st',ops[i]?=some o/\zB P Γ ops st o i=true/\Co T Γ ops st o=some st'/\VH T Γ ops P K f (Ad.setIfInBounds i true) st'
structure IH (lc la:Array Bool) (Q:List Nat):Prop where
 size:la.size=lc.size
 off: ∀k∈Q,k<la.size/\la.getD k false=false/\lc.getD k false=true
 same: ∀k,k∉Q->la.getD k false=lc.getD k false
theorem IH.ready {lc la:Array Bool} {Q:List Nat} (h:IH lc la Q) {i:Nat} (hi:i∈Region.ready .any ops la) (hn:i∉Q):i∈Region.ready .any ops lc:=by
 obtain ⟨h1,o,ho,Ib⟩:=mem_ready.1 hi
 have Hr:i<la.size:=by
  rcases Nat.lt_or_ge i la.size with h'|h'
  ·exact h'
  ·simp [Array.getElem?_eq_none h'] at h1
 have h2:=getD_both h1
 rw [h.same i hn] at h2
 refine mem_ready.2 ⟨getD_in (by rw [<-h.size];exact Hr) h2,o,ho,λe he hb=>?_⟩
 have h3:=Ib e he hb
 by_cases hq:e.on∈Q
 ·exact (h.off _ hq).2.2
 ·rw [<-h.same _ hq];exact h3
theorem IH.nil {lc la:Array Bool} (h:IH lc la []):la=lc:=by
 refine Array.ext h.size λk h1 h2=>?_
 have:=h.same k (by simp)
 simpa [h1,h2] using this
theorem IH.one {lc la:Array Bool} {Q Q':List Nat} {i:Nat} (h:IH lc la Q) (hi:i∈Q) (hs: ∀k,k∈Q'↔k∈Q/\k≠i):IH lc (la.setIfInBounds i true) Q':=by
 refine ⟨by simp [h.size],λk hk=>?_,λk hk=>?_⟩
 ·obtain ⟨h1,h2⟩:=(hs k).1 hk
  obtain ⟨g1,g2,g3⟩:=h.off k h1
  exact ⟨by simpa using g1,by rw [getD_set_ne false (Ne.symm h2)];exact g2,g3⟩
 ·by_cases e:i=k
  ·subst e
   obtain ⟨g1,g2,g3⟩:=h.off i hi
   rw [g3]
   simp [g1]
  ·rw [getD_set_ne false e]
   exact h.same k λhq=>hk ((hs k).2 ⟨hq,Ne.symm e⟩)
theorem IH.both {lc la:Array Bool} {Q:List Nat} {i:Nat} (h:IH lc la Q) (hi:i∉Q):IH (lc.setIfInBounds i true) (la.setIfInBounds i true) Q:=by
 refine ⟨by simp [h.size],λk hk=>?_,λk hk=>?_⟩
 ·obtain ⟨g1,g2,g3⟩:=h.off k hk
  have Ep:i≠k:= λe=>hi (by rw [e];exact hk)
  exact ⟨by simpa using g1,by rw [getD_set_ne false Ep];exact g2,by rw [getD_set_ne false Ep];exact g3⟩
 ·by_cases e:i=k
  ·subst e
   have hs:=h.same i hi
   have hz:=h.size
   by_cases hl:i<la.size
   ·simp [hl,hz▸hl]
   ·have Hg: ¬i<lc.size:=by omega
    simp [hl,Hg]
  ·rw [getD_set_ne false e,getD_set_ne false e];exact h.same k hk
theorem zy {dst:Option Tmp} {d:Nat} (h:(match dst with
  |some e=>!Nat.beq e d
  |none=>true)=true):dst≠some d:= λe=>by
 subst e
 simp at h
theorem DW {P:List (Nat×Nat×AV×OB)} {K:St->Prop} (hP: ∀a∈P,∃o,ops[a.1]?=some o/\a7 T o=some a.2):
  ∀(n f:Nat) (Q:List (Nat×Nat×AV×OB)) (lc la:Array Bool) (s t:St),n=f+Q.length->VH T Γ ops P K f lc s->si (Q.map (·.2)) s t->IH lc la (Q.map (·.1))->(∀a∈Q,a∈P)->
   (Q.Pairwise λa c=>a.2.1≠c.2.1/\a.1≠c.1)->Tm ops la->(∀a∈Q,∀x,Region.waitsFor .any ops a.1 x=true->la.getD x false=true)->anyS T Γ ops K n la t:=by
 intro n
 induction n with
 |zero=>
  intro f Q lc la s t hn hC hp hb hQ hpw Of hw
  have hf:f=0:=by omega
  have hq:Q= []:=List.eq_nil_of_length_eq_zero (by omega)
  subst hf hq
  have hp:s=t:=hp
  subst hp
  rw [hb.nil]
  exact hC
 |succ n ih=>
  intro f Q lc la s t hn hC hp hb hQ hpw Of hw
  refine ⟨?_,λi hi=>?_⟩
  ·cases Q with
   |nil=>
    rw [hb.nil]
    cases f with
    |zero=>simp at hn
    |succ f=>exact hC.1
   |cons a Q=>
    obtain ⟨o,ho,_⟩:=hP a (hQ a (by simp))
    obtain ⟨g1,g2,_⟩:=hb.off a.1 (by simp)
    have:a.1∈Region.ready .any ops la:=mem_ready.2 ⟨getD_in g1 g2,o,ho,λe he hbd=>hw a (by simp) e.on (by
     unfold Region.waitsFor
     rw [ho]
     exact Array.any_eq_true'.2 ⟨e,he,by simp [hbd]⟩)⟩
    intro e
    rw [e] at this
    cases this
  ·by_cases hiQ:i∈Q.map (·.1)
   ·obtain ⟨a,ha,rfl⟩:=List.mem_map.1 hiQ
    obtain ⟨Q1,Q2,rfl⟩:=List.append_of_mem ha
    obtain ⟨o,ho,hal⟩:=hP a (hQ a ha)
    obtain ⟨_,_,Ph⟩:=a8 (Γ:=Γ) (ops:=ops) hal
    have KL:=List.pairwise_append.1 hpw
    have Abs:=List.pairwise_cons.1 KL.2.1
    rw [List.map_append,List.map_cons] at hp
    have hL: ∀p∈Q1.map (·.2)++a.2::Q2.map (·.2),mn p.1 p.2.1 p.2.2:= λp sU=>by
     have:p∈(Q1++a::Q2).map (·.2):=by rw [List.map_append,List.map_cons];exact sU
     obtain ⟨c,hc,rfl⟩:=List.mem_map.1 this
     obtain ⟨o',_,Ag9⟩:=hP c (hQ c hc)
     exact (a8 (Γ:=Γ) (ops:=ops) Ag9).2.1
    obtain ⟨p1,p2⟩:=rD _ hp hL λp sU=>by
     obtain ⟨c,hc,rfl⟩:=List.mem_map.1 sU
     exact (KL.2.2 c hc a (by simp)).1
    refine ⟨o,_,ho,Ph t p1,ih f (Q1++Q2) lc _ s _ ?_ hC (by rw [List.map_append];exact p2) (hb.one hiQ λk=>?_) (λc hc=>hQ c ?_) ?_ (Of.set hi) λc hc x hx=>getD_set_true (hw c ?_ x hx)⟩
    ·simp only [List.length_append,List.length_cons] at hn⊢;omega
    ·simp only [List.map_append,List.map_cons,List.mem_append,List.mem_cons]
     constructor
     ·intro h
      rcases h with h|h
      ·obtain ⟨c,hc,rfl⟩:=List.mem_map.1 h
       exact ⟨.inl h,(KL.2.2 c hc a (by simp)).2⟩
      ·obtain ⟨c,hc,rfl⟩:=List.mem_map.1 h
       exact ⟨.inr (.inr h),Ne.symm (Abs.1 c hc).2⟩
     ·rintro ⟨h|h|h,Ep⟩
      ·exact .inl h
      ·exact absurd h Ep
      ·exact .inr h
    ·rcases List.mem_append.1 hc with hc|hc
     ·exact List.mem_append_left _ hc
     ·exact List.mem_append_right _ (List.mem_cons_of_mem _ hc)
    ·exact List.pairwise_append.2 ⟨KL.1,Abs.2,λc hc e he=>KL.2.2 c hc e (List.mem_cons_of_mem _ he)⟩
    ·rcases List.mem_append.1 hc with hc|hc
     ·exact List.mem_append_left _ hc
     ·exact List.mem_append_right _ (List.mem_cons_of_mem _ hc)
   ·have hic:=hb.ready hi hiQ
    cases f with
    |zero=>
     rw [hC.1] at hic
     cases hic
    |succ f=>
     obtain ⟨o,s',ho,Yz,he,eY⟩:=hC.2 i hic
     have QO: ∀a∈Q,gK ops 5 i a.1=false:= λa ha=>by
      cases hwt:gK ops 5 i a.1 with
      |false=>rfl
      |true=>
       have h1:=fy Of _ i (λx hx=>di hi hx) hwt
       rw [(hb.off a.1 (List.mem_map.2 ⟨a,ha,rfl⟩)).2.1] at h1
       cases h1
     have key: ∃t',Co T Γ ops t o=some t'/\si (Q.map (·.2)) s' t':=by
      unfold zB at Yz
      rw [Bool.or_eq_true,Bool.and_eq_true] at Yz
      rcases Yz with Yz|⟨h1,h2⟩
      ·cases Q with
       |nil=>
        have hp:s=t:=hp
        subst hp
        exact ⟨s',he,rfl⟩
       |cons a Q=>
        have:=List.all_eq_true.1 Yz a (hQ a (by simp))
        rw [QO a (by simp)] at this
        cases this
      ·obtain ⟨t',g1,g2,_⟩:=rC (T:=T) (ops:=ops) _ s t s' hp (λq hq=>by
        obtain ⟨a,ha,rfl⟩:=List.mem_map.1 hq
        obtain ⟨o',_,hal⟩:=hP a (hQ a ha)
        have h3:=List.all_eq_true.1 h2 a (hQ a ha)
        rw [QO a ha,Bool.false_or,Bool.and_eq_true] at h3
        exact ⟨(a8 (Γ:=Γ) (ops:=ops) hal).2.1,h3.1,zy h3.2⟩) h1 he
       exact ⟨t',g1,g2⟩
     obtain ⟨t',g1,g2⟩:=key
     exact ⟨o,t',ho,g1,ih f Q _ _ s' t' (by omega) eY g2 (hb.both hiQ) hQ hpw (Of.set hi) λc hc x hx=>getD_set_true (hw c hc x hx)⟩
def Rz (T:Tab) (ops:Array Oper) (Ad:Array Bool):List (Nat×Nat×AV×OB):=(Region.ready .any ops Ad).filterMap λi=>((ops[i]?).bind (a7 T)).map λr=>(i,r)
theorem sn {Ad:Array Bool} {a:Nat×Nat×AV×OB} (h:a∈Rz T ops Ad):a.1∈Region.ready .any ops Ad/\ ∃o,ops[a.1]?=some o/\a7 T o=some a.2:=by
 unfold Rz at h
 obtain ⟨i,hi,he⟩:=List.mem_filterMap.1 h
 cases ho:ops[i]? with
 |none=>rw [ho] at he;cases he
 |some o=>
  rw [ho] at he
  simp only [Option.bind_some,Option.map_eq_some_iff] at he
  obtain ⟨r,h1,rfl⟩:=he
  exact ⟨hi,o,ho,h1⟩
theorem vK:Tm ops (Array.replicate ops.size false):= λk a hk _=>by
 rw [getD_replicate_false] at hk
 cases hk
theorem ag (q:Bool): ∀(l:List Nat) (Ad:Array Bool),Tm ops Ad->Tm ops (Ej (Fh q ops l Ad) Ad)
 | [],Ad,h=>h
 |i::r,Ad,h=>by
  simp only [Fh]
  split
  ·rename_i hc
   rw [Bool.and_eq_true,Bool.and_eq_true] at hc
   have hi:i∈Region.ready .any ops Ad:=by simpa using hc.2.1
   exact ag q r _ (h.set hi)
  ·exact ag q r Ad h
theorem cS: ∀(l:List Nat) (Ad:Array Bool),(Ej l Ad).size=Ad.size
 | [],_=>rfl
 |i::r,Ad=>by simp only [Ej];rw [cS r];simp
theorem iE: ∀(l:List Nat) (Ad:Array Bool) (k:Nat),k∈l->k<Ad.size->(Ej l Ad).getD k false=true
 |i::r,Ad,k,h,hk=>by
  simp only [Ej]
  by_cases hr:k∈r
  ·exact iE r _ k hr (by simpa using hk)
  ·have:k=i:=(List.mem_cons.1 h).resolve_right hr
   subst this
   have hs: ∀(l:List Nat) (A:Array Bool),A.getD k false=true->(Ej l A).getD k false=true:=by
    intro l
    induction l with
    |nil=>exact λA h=>h
    |cons j l ih=>exact λA h=>ih _ (getD_set_true h)
   exact hs r _ (by simp [hk])
theorem fc: ∀(l:List Nat) (Ad:Array Bool) (k:Nat),k∉l->(Ej l Ad).getD k false=Ad.getD k false
 | [],_,_,_=>rfl
 |i::r,Ad,k,h=>by
  simp only [Ej]
  rw [fc r _ k λhk=>h (List.mem_cons_of_mem _ hk),getD_set_ne false (λe=>h (by rw [e];simp))]
theorem PE {Ad:Array Bool} {Q:List Nat} (h: ∀i∈Q,i∈Region.ready .any ops Ad):IH (Ej Q Ad) Ad Q:=by
 have hr: ∀i∈Q,i<Ad.size/\Ad.getD i false=false:= λi hi=>by
  have h1:=(mem_ready.1 (h i hi)).1
  refine ⟨?_,getD_both h1⟩
  rcases Nat.lt_or_ge i Ad.size with h'|h'
  ·exact h'
  ·simp [Array.getElem?_eq_none h'] at h1
 exact ⟨(cS Q Ad).symm,λk hk=>⟨(hr k hk).1,(hr k hk).2,iE Q Ad k hk (hr k hk).1⟩,λk hk=>(fc Q Ad k hk).symm⟩
theorem xm: ∀(Q:List (Nat×Nat×AV×OB)) (t s:St),(∀a∈Q,∃o,ops[a.1]?=some o/\a7 T o=some a.2)->(∀a∈Q,Ek a.2.1 t)->(Q.Pairwise λa c=>a.2.1≠c.2.1)->Jl T Γ ops (Q.map (·.1)) t=some s->si (Q.map (·.2)) s t
 | [],t,s,_,_,_,h=>by
  have h:some t=some s:=h
  exact (Option.some.inj h).symm
 |a::Q,t,s,hQ,hn,hp,h=>by
  obtain ⟨o,ho,hal⟩:=hQ a (by simp)
  obtain ⟨_,hL,Ph⟩:=a8 (Γ:=Γ) (ops:=ops) hal
  obtain ⟨uY,EO⟩:=List.pairwise_cons.1 hp
  simp only [List.map_cons,Jl,ho] at h
  rw [Ph t (hn a (by simp))] at h
  refine ⟨hn a (by simp),xm Q _ s (λc hc=>hQ c (List.mem_cons_of_mem _ hc)) (λc hc=>?_) EO h⟩
  exact (hn c (List.mem_cons_of_mem _ hc)).plus (Ne.symm (uY c hc)) (λh=>uY c hc (hL.v1 _ h).symm) (by rw [hL.b1];simp)
end
end Go.Proofs.Ytjbdmibbbpdnnaa
