/-
  Part 30 of the proof that the statement FnExactBoundHistogram holds.
-/
import Derived.Test.YtjbdmibbbpdnnaaGreatCBoundHistogram28
namespace Go.Proofs.YtjbdmibbbpdnnaaGreat
open Go.RowKit
def Fa (d:Nat) (v:AV) (b:OB) (st:St):St:= {tmps:=Nt st.tmps d v,heap:=Jc st.heap d b}
def jw (d:Nat) (st:St):Bool:=(st.get d).refs.isEmpty&&((st.tmps.all λv=>!v.refs.contains d)&&st.heap.all λp=>!Nat.beq p.1 d&&!p.2.refs.contains d)
structure El (d:Nat) (st:St):Prop where
 own:(st.get d).refs= []
 tmps: ∀v∈st.tmps,d∉v.refs
 heap: ∀p∈st.heap,p.1≠d/\d∉p.2.refs
theorem nB {d:Nat} {st:St} (h:jw d st=true):El d st:=by
 unfold jw at h
 rw [Bool.and_eq_true,Bool.and_eq_true,List.all_eq_true,List.all_eq_true] at h
 obtain ⟨h0,h⟩:=h
 refine ⟨List.isEmpty_iff.1 h0,λv hv=>?_,λp hp=>?_⟩
 ·have:=h.1 v hv
  intro hd
  rw [List.contains_iff_mem.2 hd] at this
  cases this
 ·have:=h.2 p hp
  rw [Bool.and_eq_true] at this
  refine ⟨λe=>?_,λhd=>?_⟩
  ·have h1:=this.1
   rw [e,Nat.beq_refl] at h1
   cases h1
  ·have h1:=this.2
   rw [List.contains_iff_mem.2 hd] at h1
   cases h1
theorem ER {d:Nat} {st:St} (h:El d st):jw d st=true:=by
 unfold jw
 rw [Bool.and_eq_true,Bool.and_eq_true,List.all_eq_true,List.all_eq_true]
 refine ⟨by rw [h.own];rfl,λv hv=>?_,λp hp=>?_⟩
 ·rw [Bool.not_eq_true',<-Bool.not_eq_true,List.contains_iff_mem];exact h.tmps v hv
 ·rw [Bool.and_eq_true]
  refine ⟨?_,?_⟩
  ·rw [Bool.not_eq_true',<-Bool.not_eq_true]
   exact λe=>(h.heap p hp).1 (Nat.eq_of_beq_eq_true e)
  ·rw [Bool.not_eq_true',<-Bool.not_eq_true,List.contains_iff_mem];exact (h.heap p hp).2
structure mb (d:Nat) (v:AV) (b:OB):Prop where
 v1: ∀l,l∈v.refs->l=d
 b1:b.refs= []
 v2: ∀l,l≠d->v.map (Ba l)=v
 b2: ∀l,b.map (Ba l)=b
theorem Yo {α:Type} : ∀(xs:List α) (d t:Nat) (v x:α),d≠t->(Nt xs d v).getD t x=xs.getD t x
 | [],_,_,_,_,_=>rfl
 |y::r,0,0,_,_,h=>absurd rfl h
 |y::r,0,t+1,_,_,_=>by simp [Nt]
 |y::r,d+1,0,_,_,_=>by simp [Nt]
 |y::r,d+1,t+1,v,x,h=>by simpa [Nt] using Yo r d t v x (by omega)
theorem jK {α:Type} : ∀(xs:List α) (d e:Nat) (v w:α),d≠e->Nt (Nt xs d v) e w=Nt (Nt xs e w) d v
 | [],_,_,_,_,_=>rfl
 |y::r,0,0,_,_,h=>absurd rfl h
 |y::r,0,e+1,_,_,_=>rfl
 |y::r,d+1,0,_,_,_=>rfl
 |y::r,d+1,e+1,v,w,h=>by simp only [Nt];rw [jK r d e v w (by omega)]
theorem qJ: ∀(H:List (Nat×OB)) (d l:Nat) (b:OB),d≠l->Ad (Jc H d b) l=Ad H l
 | [],d,l,b,h=>by simp [Jc,Ad,h]
 |(k,c)::r,d,l,b,h=>by
  simp only [Jc]
  split
  ·simp only [Ad];rw [if_neg h]
  ·simp only [Ad]
   split
   ·rfl
   ·exact qJ r d l b h
theorem qN: ∀(H:List (Nat×OB)) (d e:Nat) (b c:OB),d≠e->Jc (Jc H d b) e c=Jc (Jc H e c) d b
 | [],d,e,b,c,h=>by
  simp only [Jc]
  by_cases h1:e<d
  ·rw [if_pos h1,if_neg (by omega)]
  ·rw [if_neg h1,if_pos (by omega)]
 |(k,a)::r,d,e,b,c,h=>by
  simp only [Jc]
  by_cases h1:d<k<;>by_cases h2:e<k
  ·rw [if_pos h1,if_pos h2]
   simp only [Jc]
   by_cases h3:e<d
   ·rw [if_pos h3,if_neg (by omega),if_pos h1]
   ·rw [if_neg h3,if_pos h2,if_pos (by omega)]
  ·rw [if_pos h1,if_neg h2]
   simp only [Jc]
   rw [if_neg (by omega),if_neg h2,if_pos h1]
  ·rw [if_neg h1,if_pos h2]
   simp only [Jc]
   rw [if_pos h2,if_neg (by omega),if_neg h1]
  ·rw [if_neg h1,if_neg h2]
   simp only [Jc]
   rw [if_neg h1,if_neg h2,qN r d e b c h]
theorem rI: ∀(H:List (Nat×OB)) (d l:Nat) (b c:OB),d≠l->Xu (Jc H d b) l c=Jc (Xu H l c) d b
 | [],d,l,b,c,h=>by simp [Jc,Xu,h]
 |(k,a)::r,d,l,b,c,h=>by
  simp only [Jc,Xu]
  by_cases h1:d<k<;>by_cases h2:k=l
  ·rw [if_pos h1,if_pos h2]
   simp only [Xu,Jc]
   rw [if_neg h,if_pos h2,if_pos h1]
  ·rw [if_pos h1,if_neg h2]
   simp only [Xu,Jc]
   rw [if_neg h,if_neg h2,if_pos h1]
  ·rw [if_neg h1,if_pos h2]
   simp only [Xu,Jc]
   rw [if_pos h2,if_neg h1]
  ·rw [if_neg h1,if_neg h2]
   simp only [Xu,Jc]
   rw [if_neg h2,if_neg h1,rI r d l b c h]
theorem ko {l:Nat} : ∀ {c:AC},l∉c.refs->Ba l c=c:=by
 intro c h
 cases c<;>simp only [Ba]<;>simp only [AC.refs,List.mem_singleton] at h
 case clo f Bw=>rw [if_neg (by simpa using h)]
 all_goals (first|rfl|rw [if_neg (Ne.symm h)])
theorem Tr {l:Nat} : ∀ {cs:List AC},l∉cs.flatMap AC.refs->cs.map (Ba l)=cs
 | [],_=>rfl
 |c::r,h=>by
  rw [List.flatMap_cons,List.mem_append] at h
  rw [List.map_cons,ko (λhh=>h (.inl hh)),Tr (λhh=>h (.inr hh))]
theorem vO {l:Nat} : ∀ {v:AV},l∉v.refs->v.map (Ba l)=v
 | .at a,h=>by simp only [AV.map];rw [ko h]
 | .agg cs,h=>by simp only [AV.map];rw [Tr h]
 | .Ur _ _ _,_=>rfl
 | .Iw ps,h=>by
  simp only [AV.map]
  congr 1
  simp only [AV.refs] at h
  induction ps with
  |nil=>rfl
  |cons p r ih=>
   rw [List.flatMap_cons,List.mem_append] at h
   rw [List.map_cons,Tr (λhh=>h (.inl hh)),ih (λhh=>h (.inr hh))]
theorem vP {l:Nat} : ∀ {b:OB},l∉b.refs->b.map (Ba l)=b
 | .arr _ _ _ _ _,_=>rfl
 | .Dc _ _ _,_=>rfl
 | .var _ vs,h=>by simp only [OB.map];rw [Tr h]
 | .Al _ _ _ _ _,_=>rfl
 | .Oo _ _,_=>rfl
theorem vD {l:Nat} : ∀ {H:List (Nat×OB)},(∀p∈H,p.1≠l)->Te H l=H
 | [],_=>rfl
 |(k,b)::r,h=>by
  simp only [Te]
  rw [if_neg (h (k,b) (by simp)),vD λp hp=>h p (by simp [hp])]
theorem El.forget {l:Nat} {st:St} (h:El l st):st.forget l=st:=by
 have e1:st.tmps.map (λv=>v.map (Ba l))=st.tmps:=(List.map_congr_left λv hv=>vO (h.tmps v hv)).trans (List.map_id _)
 have e2:st.heap.map (λp=>(p.1,p.2.map (Ba l)))=st.heap:=(List.map_congr_left λp hp=>by rw [vP (h.heap p hp).2];rfl).trans (List.map_id _)
 unfold St.forget St.Gj
 simp only [e1,e2]
 rw [vD λp hp=>(h.heap p hp).1]
theorem El.new {l:Nat} {st:St} (h:El l st) (b:OB) (v:AV):(st.new l b).put (some l) v=Fa l v b st:=by
 unfold St.new
 rw [h.forget]
 rfl
theorem ny {α:Type} : ∀ {xs:List α} {d:Nat} {v x:α},x∈Nt xs d v->x∈xs\/x=v
 | [],_,_,_,h=>by cases h
 |y::r,0,v,x,h=>by
  rcases List.mem_cons.1 h with h|h
  ·exact .inr h
  ·exact .inl (List.mem_cons_of_mem _ h)
 |y::r,d+1,v,x,h=>by
  rcases List.mem_cons.1 h with h|h
  ·exact .inl (by rw [h];simp)
  ·exact (ny h).imp (List.mem_cons_of_mem _) id
theorem wG: ∀ {H:List (Nat×OB)} {d:Nat} {b:OB} {p:Nat×OB},p∈Jc H d b->p∈H\/p=(d,b)
 | [],d,b,p,h=> .inr (by simpa [Jc] using h)
 |(k,c)::r,d,b,p,h=>by
  simp only [Jc] at h
  split at h
  ·rcases List.mem_cons.1 h with h|h
   ·exact .inr h
   ·exact .inl h
  ·rcases List.mem_cons.1 h with h|h
   ·exact .inl (by rw [h];simp)
   ·exact (wG h).imp (List.mem_cons_of_mem _) id
theorem NL {d:Nat} {v:AV} {b:OB} {st:St} {x:Operand} (h:x≠ .tmp d):(Fa d v b st).ev x=st.ev x:=by
 cases x with
 |tmp t=>exact Yo _ _ _ _ _ (λe=>h (by rw [e]))
 |_=>rfl
theorem BL {d l:Nat} {v:AV} {b:OB} {st:St} (h:d≠l):(Fa d v b st).at l=st.at l:=qJ _ _ _ _ h
theorem IF {d e:Nat} {v u:AV} {b:OB} {st:St} (h:d≠e):(Fa d v b st).put (some e) u=Fa d v b (st.put (some e) u):=by
 unfold Fa St.put
 simp only
 rw [jK _ _ _ _ _ h]
theorem DF {d l:Nat} {v:AV} {b c:OB} {st:St} (h:d≠l):(Fa d v b st).Gc l c=Fa d v b (st.Gc l c):=by
 unfold Fa St.Gc
 simp only
 rw [rI _ _ _ _ _ h]
theorem qo {d e:Nat} {v u:AV} {b c:OB} {st:St} (h:d≠e):Fa e u c (Fa d v b st)=Fa d v b (Fa e u c st):=by
 unfold Fa
 rw [jK _ _ _ _ _ h,qN _ _ _ _ _ h]
theorem El.put {d:Nat} {st:St} {e:Nat} {u:AV} (h:El d st) (OE:e≠d) (hu:d∉u.refs):El d (st.put (some e) u):=
 ⟨by show (List.getD (Nt st.tmps e u) d .undef).refs= [];rw [Yo _ _ _ _ _ OE];exact h.own,λv hv=>(ny hv).elim (h.tmps v) λe=>by rw [e];exact hu,h.heap⟩
theorem El.plus {d e:Nat} {u:AV} {c:OB} {st:St} (h:El d st) (OE:d≠e) (hu:d∉u.refs) (hc:d∉c.refs):El d (Fa e u c st):=
 ⟨by show (List.getD (Nt st.tmps e u) d .undef).refs= [];rw [Yo _ _ _ _ _ (Ne.symm OE)];exact h.own,λv hv=>(ny hv).elim (h.tmps v) λe=>by rw [e];exact hu,λp hp=>(wG hp).elim (h.heap p) λe'=>by rw [e'];exact ⟨Ne.symm OE,hc⟩⟩
theorem El.VN {d e:Nat} {u:AV} {c:OB} {st:St} (h:El d (Fa e u c st)): ∀p∈st.heap,p.1≠d/\d∉p.2.refs:= λp hp=>h.heap p (by
 show p∈Jc st.heap e c
 generalize st.heap=H at hp
 induction H with
 |nil=>cases hp
 |cons q r ih=>
  obtain ⟨k,a⟩:=q
  simp only [Jc]
  split
  ·exact List.mem_cons_of_mem _ hp
  ·rcases List.mem_cons.1 hp with hp|hp
   ·rw [hp];simp
   ·exact List.mem_cons_of_mem _ (ih hp))
theorem lK {st st':St} : ∀(τ:Ty) (cs:List AC),cs.all (·.settled)=true->Cp st' τ cs=Cp st τ cs:=by
 intro τ
 induction τ with
 |unit=>intro cs _;cases cs<;>rfl
 |pair a r gg dL=>
  intro cs h
  simp only [Cp]
  rw [List.all_eq_true] at h
  rw [gg _ (List.all_eq_true.2 λc hc=>h c (List.mem_of_mem_take hc)),dL _ (List.all_eq_true.2 λc hc=>h c (List.mem_of_mem_drop hc))]
 |_=>
  intro cs h
  rcases cs with _|⟨c,_|⟨c',cs⟩⟩
  ·rfl
  ·simp only [List.all_cons,List.all_nil,Bool.and_true] at h
   simp only [Cp]
   exact Uc h
  ·rfl
theorem aV {st st':St} {τ:Ty} {v:AV} (h:v.settled=true):Ct st' τ v=Ct st τ v:=by
 cases v with
 | «at»a=>
  have ha:a.settled=true:=h
  cases a<;>simp only [AC.settled,Bool.false_eq_true] at ha
  all_goals
   simp only [Ct]
   rw [Kl rfl,Kl rfl]
   rw [Uc (st:=st) (st':=st') rfl]
 |agg cs=>simp only [Ct];rw [lK _ _ h]
 |Ur _ _ _=>rfl
 |Iw _=>rfl
theorem dv {st st':St} : ∀(τ:Ty) (vs:List AV),vs.all (·.settled)=true->Bt st' τ vs=Bt st τ vs
 | .pair a r,v::vs,h=>by
  rw [List.all_cons,Bool.and_eq_true] at h
  simp only [Bt]
  rw [aV (st:=st) (st':=st') h.1,dv r vs h.2]
 | .pair _ _,[],_=>rfl
 | .unit,[],_=>rfl
 | .unit,_::_,_=>rfl
 | .int _,vs,_=>by cases vs<;>rfl
 | .bool,vs,_=>by cases vs<;>rfl
 | .str,vs,_=>by cases vs<;>rfl
 | .slice _,vs,_=>by cases vs<;>rfl
 | .oslice _,vs,_=>by cases vs<;>rfl
 | .ptr _,vs,_=>by cases vs<;>rfl
 | .optr _,vs,_=>by cases vs<;>rfl
 | .smap _,vs,_=>by cases vs<;>rfl
 | .clo _ _,vs,_=>by cases vs<;>rfl
def Pn:AV->Bool
 | .at (.data _ _ _)=>true
 |_=>false
def dt (o:Oper):List Operand:=match o.op with
 | .move x=> [x]
 | .load _ x=> [x]
 | .call {callee:= .value (.func _),args, .. } =>args.toList
 | .insert _ m k x=> [m,k,x]
 | .buildSlice _ _ parts=>parts.toList.map (·.2)
 |_=> []
def cM (d:Nat):Operand->Bool
 | .tmp t=>!Nat.beq t d
 |_=>true
theorem ET {d:Nat} {x:Operand} (h:cM d x=true):x≠ .tmp d:= λe=>by
 subst e
 simp [cM] at h
def Pq (Γ:Env) (st:St) (o:Oper):Bool:=match o.guard with
 |some _=>false
 |none=>match o.op with
  | .move _=>true
  | .load _ x=>(match st.ev x with
   | .at (.Dy _ _)=>true
   |_=>false)
  | .call {callee:= .value (.func f),args, .. } =>(match Γ f with
   |some (.q _)=>true
   |_=>false)&&args.toList.all λx=>(st.ev x).settled
  | .insert _ m k x=>(match st.ev m with
   | .at (.Ge _)=>true
   |_=>false)&&Pn (st.ev k)&&(st.ev x).settled
  | .buildSlice _ _ parts=>(parts.toList.all λp=>Pn (st.ev p.2))&&(match o.dst with
   |some e=>jw e st
   |none=>false)
  |_=>false
theorem El.ev {d:Nat} {st:St} (h:El d st) (x:Operand):d∉(st.ev x).refs:=by
 cases x with
 |tmp t=>
  simp only [St.ev,St.get]
  rw [List.getD_eq_getElem?_getD]
  by_cases hl:t<st.tmps.length
  ·rw [List.getElem?_eq_getElem hl];exact h.tmps _ (List.getElem_mem hl)
  ·rw [List.getElem?_eq_none (Nat.le_of_not_lt hl)];simp [AV.refs,AC.refs]
 |const c=>
  simp only [St.ev]
  unfold gy
  split<;>simp [AV.refs,AC.refs]
 |func f=>simp [St.ev,AV.refs,AC.refs]
 |_=>simp [St.ev,AV.refs,AC.refs]
theorem vX: ∀ {H:List (Nat×OB)} {l:Nat} {b:OB},Ad H l=some b->(l,b)∈H
 |(k,c)::r,l,b,h=>by
  simp only [Ad] at h
  split at h
  ·rename_i e;subst e;cases h;simp
  ·exact List.mem_cons_of_mem _ (vX h)
section
variable {T:Tab} {Γ:Env} {ops:Array Oper} {d:Nat} {v:AV} {b:OB} {t:St}
theorem rn {e:Option Tmp} (h:e≠some d) (hn:El d t) {y:AV} (hy:d∉y.refs):(Fa d v b t).put e y=Fa d v b (t.put e y)/\El d (t.put e y):=by
 cases e with
 |none=>exact ⟨rfl,hn⟩
 |some k=>exact ⟨IF (λe=>h (by rw [e])),hn.put (λe=>h (by rw [e])) hy⟩
theorem cU {o:Oper} (hg:o.guard=none) (Yr:o.dst≠some d) (hn:El d t) {q:Option AV} (h1:evalOp T Γ (Fa d v b t) o=q.map λy=>(y,Fa d v b t)) (h2:evalOp T Γ t o=q.map λy=>(y,t)) (hq: ∀y,q=some y->d∉y.refs) {s':St}
  (he:Ci T Γ ops (Fa d v b t) o=some s'): ∃t',Ci T Γ ops t o=some t'/\s'=Fa d v b t'/\El d t':=by
 unfold Ci at he⊢
 rw [hg] at he⊢
 simp only at he⊢
 rw [h1] at he
 cases q with
 |none=>cases he
 |some y=>
  obtain ⟨p1,p2⟩:=rn (v:=v) (b:=b) Yr hn (hq y rfl)
  refine ⟨_,by rw [h2];rfl,?_,p2⟩
  simp only [Option.map_some,Option.some.injEq] at he
  rw [<-he,p1]
theorem Rv {l:List Operand} (hu:l.all (cM d)=true): ∀x∈l,(Fa d v b t).ev x=t.ev x:= λx hx=>NL (ET (List.all_eq_true.1 hu x hx))
theorem zl {dst:Option Tmp} {x:Operand} {ty:TypeId} {pos:String} {after:Array Edge} (hn:El d t) (hx:(Fa d v b t).ev x=t.ev x) (Yr:dst≠some d) {s':St}
  (he:Ci T Γ ops (Fa d v b t) {dst:=dst,op:= .move x,type:=ty,pos:=pos,after:=after,guard:=none} =some s'):
  ∃t',Ci T Γ ops t {dst:=dst,op:= .move x,type:=ty,pos:=pos,after:=after,guard:=none} =some t'/\s'=Fa d v b t'/\El d t':=
 cU rfl Yr hn (q:=some (t.ev x)) (by simp only [evalOp,Ch,hx]) (by simp only [evalOp,Ch]) (λy hy=>by cases hy;exact hn.ev x) he
def loadVar (T:Tab) (o:Option OB) (t0:TypeId) (i:Nat):Option AV:=match T.ty t0 with
 |some τ=>(match o with
  |some (.var _ vs)=>if τ.Ac then (if i+τ.size<=vs.length then some (.agg ((vs.drop i).take τ.size)) else none) else vs[i]?.map .at
  |_=>none)
 |none=>none
theorem ei {st:St} {t0:TypeId} {l i:Nat} :Kg T st t0 (.at (.Dy l i))=loadVar T (st.at l) t0 i:=by
 unfold Kg loadVar
 cases T.ty t0<;>rfl
theorem zf {dst:Option Tmp} {t0:TypeId} {x:Operand} {ty:TypeId} {pos:String} {after:Array Edge} (hn:El d t) (hx:(Fa d v b t).ev x=t.ev x) (Yr:dst≠some d) {l i:Nat} (hp:t.ev x= .at (.Dy l i)) {s':St}
  (he:Ci T Γ ops (Fa d v b t) {dst:=dst,op:= .load t0 x,type:=ty,pos:=pos,after:=after,guard:=none} =some s'):
  ∃t',Ci T Γ ops t {dst:=dst,op:= .load t0 x,type:=ty,pos:=pos,after:=after,guard:=none} =some t'/\s'=Fa d v b t'/\El d t':=by
 have hld:d≠l:= λe=>by
  have:=hn.ev x
  rw [hp,e] at this
  exact this (by simp [AV.refs,AC.refs])
 refine cU rfl Yr hn (q:=loadVar T (t.at l) t0 i) ?_ ?_ (λy hy=>?_) he
 ·simp only [evalOp,Ch,hx,hp]
  rw [ei,BL hld]
 ·simp only [evalOp,Ch,hp]
  rw [ei]
 ·unfold loadVar at hy
  split at hy
  ·split at hy
   ·rename_i vs hb
    have hr:d∉vs.flatMap AC.refs:=(hn.heap _ (vX hb)).2
    have fH: ∀c∈vs,d∉c.refs:= λc hc hd=>hr (List.mem_flatMap.2 ⟨c,hc,hd⟩)
    split at hy
    ·split at hy
     ·cases hy
      intro hd
      obtain ⟨c,hc,hd⟩:=List.mem_flatMap.1 hd
      exact fH c (List.mem_of_mem_drop (List.mem_of_mem_take hc)) hd
     ·cases hy
    ·cases hv:vs[i]? with
     |none=>rw [hv] at hy;cases hy
     |some c=>
      rw [hv] at hy
      cases hy
      exact fH c (List.mem_of_getElem? hv)
   ·cases hy
  ·cases hy
theorem DI {l:List Operand} (hu:l.all (cM d)=true):l.map (Fa d v b t).ev=l.map t.ev:=List.map_congr_left λx hx=>Rv hu x hx
theorem yx {dst:Option Tmp} {f:FuncId} {args:Array Operand} {tys:Array TypeId} {ty:TypeId} {pos:String} {after:Array Edge} {sp:Spec} (Md:Γ f=some (.q sp)) (hn:El d t) (hx:args.toList.map (Fa d v b t).ev=args.toList.map t.ev) (Yr:dst≠some d)
  (hs:(args.toList.map t.ev).all (·.settled)=true) {s':St} (he:Ci T Γ ops (Fa d v b t) {dst:=dst,op:= .call {callee:= .value (.func f),args:=args,argTypes:=tys},type:=ty,pos:=pos,after:=after,guard:=none} =some s'):
  ∃t',Ci T Γ ops t {dst:=dst,op:= .call {callee:= .value (.func f),args:=args,argTypes:=tys},type:=ty,pos:=pos,after:=after,guard:=none} =some t'/\s'=Fa d v b t'/\El d t':=by
 have CG:au sp (args.toList.map t.ev)=false:=by unfold au;rw [hs];simp
 have yO: ∀st:St,Jh Γ st f (args.toList.map t.ev)=(match Bt t sp.arg (args.toList.map t.ev) with
   |none=>none
   |some (_,x)=>(sp.fn x).map λy=>if sp.Ej then .Ur (sp.fresh||sp.res.flat) sp.res y else .at (.data (sp.fresh||sp.res.flat) sp.res y)):= λst=>by
  unfold Jh
  rw [Md]
  simp only
  rw [hs,dv (st:=t) _ _ hs]
  simp only [Bool.or_true,if_true]
  cases Bt t sp.arg (args.toList.map t.ev)<;>rfl
 refine cU rfl Yr hn (q:=Jh Γ t f (args.toList.map t.ev)) ?_ ?_ (λy hy=>?_) he
 ·simp only [evalOp,Ch,Md,hx,CG]
  rw [yO,yO t]
  simp
 ·simp only [evalOp,Ch,Md,CG]
  simp
 ·rw [yO t] at hy
  split at hy
  ·cases hy
  ·rename_i x _
   cases hf:sp.fn x with
   |none=>rw [hf] at hy;cases hy
   |some z=>
    rw [hf] at hy
    simp only [Option.map_some,Option.some.injEq] at hy
    rw [<-hy]
    split<;>simp [AV.refs,AC.refs]
def il (T:Tab) (o:Option OB) (t0:TypeId) (s:ByteArray) (vw:(v:Ty)->Option (Bool×v.den)):Option OB:=match T.mapOf t0 with
 |some v=>(match o,vw v with
  |some (.Oo v' f),some (_,y)=>if h:v'=v/\v.flat=true/\v.Ac=false then some (.Oo v (Sp (h.1▸f:ByteArray->Option v.den) s y)) else none
  |_,_=>none)
 |none=>none
theorem ej {st:St} {t0:TypeId} {l:Nat} {fr:Bool} {s:ByteArray} {x:AV} :Ex T st t0 (.at (.Ge l)) (.at (.data fr .str s)) x=(il T (st.at l) t0 s λv=>Ct st v x).map λc=>st.Gc l c:=by
 unfold Ex il
 cases T.mapOf t0 with
 |none=>rfl
 |some v0=>
  simp only
  cases st.at l with
  |none=>rfl
  |some c=>
   cases c with
   |Oo v' f=>
    cases Ct st v0 x with
    |none=>rfl
    |some p=>
     simp only
     split<;>rfl
   |_=>rfl
theorem wD {o:Option OB} {t0:TypeId} {s:ByteArray} {vw:(v:Ty)->Option (Bool×v.den)} {c:OB} (h:il T o t0 s vw=some c):c.refs= []:=by
 unfold il at h
 split at h
 ·split at h
  ·split at h
   ·cases h;rfl
   ·cases h
  ·cases h
 ·cases h
theorem mI {st:St} {t0:TypeId} {m k x:AV} {s':St} (h:Ex T st t0 m k x=some s'): ∃l fr s,m= .at (.Ge l)/\k= .at (.data fr .str s):=by
 unfold Ex at h
 split at h
 ·exact ⟨_,_,_,rfl,rfl⟩
 ·cases h
theorem wH: ∀ {H:List (Nat×OB)} {l:Nat} {c:OB} {p:Nat×OB},p∈Xu H l c->p∈H\/(p.2=c/\p.1=l/\ ∃c',(l,c')∈H)
 |(k,a)::r,l,c,p,h=>by
  simp only [Xu] at h
  split at h
  ·rename_i e
   rcases List.mem_cons.1 h with h|h
   ·subst h;exact .inr ⟨rfl,e,a,by rw [e];simp⟩
   ·exact .inl (List.mem_cons_of_mem _ h)
  ·rcases List.mem_cons.1 h with h|h
   ·exact .inl (by rw [h];simp)
   ·exact (wH h).imp (List.mem_cons_of_mem _) λ⟨h1,h2,c',h3⟩=>⟨h1,h2,c',List.mem_cons_of_mem _ h3⟩
theorem El.Gc {st:St} {l:Nat} {c:OB} (h:El d st) (hc:d∉c.refs):El d (st.Gc l c):=
 ⟨h.own,h.tmps,λp hp=>(wH hp).elim (h.heap p) λ⟨h1,h2,c',h3⟩=>⟨by rw [h2];exact (h.heap _ h3).1,by rw [h1];exact hc⟩⟩
theorem sK {dst:Option Tmp} {t0:TypeId} {m k x:Operand} {ty:TypeId} {pos:String} {after:Array Edge} (hn:El d t) (hm:(Fa d v b t).ev m=t.ev m) (hk:(Fa d v b t).ev k=t.ev k) (hx:(Fa d v b t).ev x=t.ev x) (Yr:dst≠some d)
  (hs:(t.ev x).settled=true) {s':St} (he:Ci T Γ ops (Fa d v b t) {dst:=dst,op:= .insert t0 m k x,type:=ty,pos:=pos,after:=after,guard:=none} =some s'):
  ∃t',Ci T Γ ops t {dst:=dst,op:= .insert t0 m k x,type:=ty,pos:=pos,after:=after,guard:=none} =some t'/\s'=Fa d v b t'/\El d t':=by
 unfold Ci at he⊢
 simp only [evalOp,hm,hk,hx] at he⊢
 cases CE:Ex T (Fa d v b t) t0 (t.ev m) (t.ev k) (t.ev x) with
 |none=>rw [CE] at he;cases he
 |some s1=>
  rw [CE] at he
  simp only [Option.map_some,Option.some.injEq] at he
  obtain ⟨l,fr,s,e1,e2⟩:=mI CE
  have hld:d≠l:= λe=>by
   have:=hn.ev m
   rw [e1,e] at this
   exact this (by simp [AV.refs,AC.refs])
  rw [e1,e2,ej,BL hld] at CE
  have hvw:(λv0=>Ct (Fa d v b t) v0 (t.ev x))= λv0=>Ct t v0 (t.ev x):=funext λv0=>aV hs
  rw [hvw] at CE
  rw [e1,e2,ej]
  cases ho:il T (t.at l) t0 s λv0=>Ct t v0 (t.ev x) with
  |none=>rw [ho] at CE;cases CE
  |some c=>
   rw [ho] at CE
   simp only [Option.map_some,Option.some.injEq] at CE
   have hc:=wD ho
   have lX:El d (t.Gc l c):=hn.Gc (by rw [hc];simp)
   obtain ⟨p1,p2⟩:=rn (v:=v) (b:=b) (y:= .undef) Yr lX (by simp [AV.refs,AC.refs])
   refine ⟨_,rfl,?_,p2⟩
   rw [<-he,<-CE,DF hld,p1]
theorem El.back {e:Nat} (h:El e (Fa d v b t)) (OE:e≠d) (hn:El d t):El e t:=by
 have hg: ∀k,k≠d->(Fa d v b t).get k=t.get k:= λk hk=>Yo _ _ _ _ _ (Ne.symm hk)
 refine ⟨by rw [<-hg e OE];exact h.own,λu hu hd=>?_,h.VN⟩
 obtain ⟨k,hk,rfl⟩:=List.mem_iff_getElem.1 hu
 have e1:t.get k=t.tmps[k]:=by unfold St.get;rw [List.getD_eq_getElem?_getD,List.getElem?_eq_getElem hk];rfl
 by_cases RU:k=d
 ·subst RU
  have:=hn.own
  rw [e1] at this
  rw [this] at hd
  cases hd
 ·have h1:=h.ev (.tmp k)
  have h2:(Fa d v b t).ev (.tmp k)=t.tmps[k]:=by show (Fa d v b t).get k=_;rw [hg k RU,e1]
  rw [h2] at h1
  exact h1 hd
def fR (e:Ty):Nat->List (Nat×AV)->Option (Bool×Bool×List e.den)
 |_,[]=>some (true,true,[])
 |i,(j,x)::r=>if i=j then match Ct ⟨[],[]⟩ e x with
  |some (fr,y)=>match fR e (i+1) r with
   |some (Oy,MJ,ys)=>some (fr&&Oy,Mp ⟨[],[]⟩ x&&e.tree&&MJ,y::ys)
   |none=>none
  |none=>none
  else none
theorem Ye {st:St} {e:Ty} : ∀(l:List (Nat×Operand)) (i:Nat),(l.all λp=>Pn (st.ev p.2))=true->Gs e i l st=(fR e i (l.map λp=>(p.1,st.ev p.2))).map λp=>(p.1,p.2.1,p.2.2,st)
 | [],i,_=>rfl
 |(j,x)::r,i,h=>by
  rw [List.all_cons,Bool.and_eq_true] at h
  have hx:Pn (st.ev x)=true:=h.1
  simp only [Gs,fR,List.map_cons]
  split
  ·generalize hxv:st.ev x=xv at hx
   unfold Pn at hx
   split at hx
   ·rename_i fr τ z
    have UW:settle st (.at (.data fr τ z))=some (.at (.data fr τ z),st):=rfl
    rw [UW]
    simp only
    rw [aV (st:=⟨[],[]⟩) (st':=st) (v:= .at (.data fr τ z)) rfl]
    cases Ct ⟨[],[]⟩ e (.at (.data fr τ z)) with
    |none=>rfl
    |some p=>
     simp only
     rw [Ye r (i+1) h.2]
     cases fR e (i+1) (r.map λp=>(p.1,st.ev p.2)) with
     |none=>rfl
     |some q=>rfl
   ·cases hx
  ·rfl
def rowOf (T:Tab) (t0:TypeId) (len:Nat) (parts:List (Nat×AV)) (dst:Nat):Option (AV×OB):=match Yp T t0 with
 |some _=>none
 |none=>match T.elem t0 with
  |none=>none
  |some te=>match T.ty te with
   |none=>none
   |some e=>if parts.length=len/\len<=64/\e.size<=64/\dst<Ai then (fR e 0 parts).map λp=>(.at (.own dst 0 len), .arr ((T.oW||e.flat)&&p.1) (T.uK&&p.2.1) e te p.2.2) else none
theorem bT {st:St} {t0:TypeId} {len dst:Nat} {parts:Array (Nat×Operand)} (h:(parts.toList.all λp=>Pn (st.ev p.2))=true):
  Eu T st dst t0 len parts=(rowOf T t0 len (parts.toList.map λp=>(p.1,st.ev p.2)) dst).map λr=>(r.1,st.new dst r.2):=by
 unfold Eu rowOf
 cases Yp T t0 with
 |some p=>
  obtain ⟨te,e⟩:=p
  simp only [Option.map_none]
  split
  ·rename_i x hp
   rw [hp,List.all_cons,Bool.and_eq_true] at h
   have hx:Pn (st.ev x)=true:=h.1
   unfold Pn at hx
   split at hx
   ·rename_i hv;simp only [hv]
   ·cases hx
  ·rfl
 |none=>
  simp only
  unfold Hl
  cases T.elem t0 with
  |none=>rfl
  |some te=>
   simp only
   cases T.ty te with
   |none=>rfl
   |some e=>
    simp only [List.length_map,Array.length_toList]
    split
    ·rw [Ye _ 0 h]
     cases fR e 0 (parts.toList.map λp=>(p.1,st.ev p.2))<;>rfl
    ·rfl
theorem kO {t0:TypeId} {len dst:Nat} {parts:List (Nat×AV)} {r:AV×OB} (h:rowOf T t0 len parts dst=some r):mb dst r.1 r.2:=by
 unfold rowOf at h
 split at h
 ·cases h
 ·split at h
  ·cases h
  ·split at h
   ·cases h
   ·split at h
    ·rename_i e _ _
     cases hp:fR e 0 parts with
     |none=>rw [hp] at h;cases h
     |some p=>
      rw [hp] at h
      simp only [Option.map_some,Option.some.injEq] at h
      subst h
      exact ⟨λl hl=>by simpa [AV.refs,AC.refs] using hl,rfl,λl hl=>by simp only [AV.map,Ba];rw [if_neg (Ne.symm hl)],λl=>rfl⟩
    ·cases h
theorem vh {e:Nat} {t0:TypeId} {len:Nat} {parts:Array (Nat×Operand)} {ty:TypeId} {pos:String} {after:Array Edge} (_hl:mb d v b) (hn:El d t) (hx: ∀p∈parts.toList,(Fa d v b t).ev p.2=t.ev p.2) (Yr:e≠d)
  (hp:(parts.toList.all λp=>Pn (t.ev p.2))=true) (Fc:El e (Fa d v b t)) {s':St} (he:Ci T Γ ops (Fa d v b t) {dst:=some e,op:= .buildSlice t0 len parts,type:=ty,pos:=pos,after:=after,guard:=none} =some s'):
  ∃t',Ci T Γ ops t {dst:=some e,op:= .buildSlice t0 len parts,type:=ty,pos:=pos,after:=after,guard:=none} =some t'/\s'=Fa d v b t'/\El d t':=by
 have UL:=Fc.back Yr hn
 have CH:(parts.toList.all λp=>Pn ((Fa d v b t).ev p.2))=true:=List.all_eq_true.2 λp sH=>by rw [hx p sH];exact List.all_eq_true.1 hp p sH
 have hm:(parts.toList.map λp=>(p.1,(Fa d v b t).ev p.2))=parts.toList.map λp=>(p.1,t.ev p.2):=List.map_congr_left λp sH=>by rw [hx p sH]
 unfold Ci at he⊢
 simp only [evalOp] at he⊢
 rw [bT CH,hm] at he
 rw [bT hp]
 cases hr:rowOf T t0 len (parts.toList.map λp=>(p.1,t.ev p.2)) e with
 |none=>rw [hr] at he;cases he
 |some r=>
  rw [hr] at he
  have hL:=kO hr
  simp only [Option.map_some,Option.some.injEq] at he
  rw [Fc.new] at he
  refine ⟨Fa e r.1 r.2 t,by simp only [Option.map_some];rw [UL.new],?_,hn.plus (Ne.symm Yr) (λh=>Yr (hL.v1 _ h).symm) (by rw [hL.b1];simp)⟩
  rw [<-he,qo (Ne.symm Yr)]
def TF:Operand->AV
 | .const c=>gy c
 |_=> .undef
theorem TG {st:St} {x:Operand} (h:Pn (TF x)=true):st.ev x=TF x:=by
 cases x<;>first|rfl|cases h
def Zw (T:Tab) (o:Oper):Option (Nat×AV×OB):=match o.guard with
 |some _=>none
 |none=>match o.dst with
  |none=>none
  |some d=>match o.op with
   | .buildSlice t0 len parts=>if (parts.toList.all λp=>Pn (TF p.2))=true then (rowOf T t0 len (parts.toList.map λp=>(p.1,TF p.2)) d).map λr=>(d,r.1,r.2) else none
   | .makeMap t0 none=>match T.mapOf t0 with
    |some τ=>if d<Ai then some (d, .at (.Ge d), .Oo τ λ_=>none) else none
    |none=>none
   |_=>none
theorem Zx {o:Oper} {r:Nat×AV×OB} (h:Zw T o=some r):o.dst=some r.1/\mb r.1 r.2.1 r.2.2/\ ∀st:St,El r.1 st->Ci T Γ ops st o=some (Fa r.1 r.2.1 r.2.2 st):=by
 obtain ⟨dst,op,ty,pos,after,guard⟩:=o
 unfold Zw at h
 cases guard with
 |some g=>cases h
 |none=>
  cases dst with
  |none=>cases h
  |some d=>
   cases op with
   |buildSlice t0 len parts=>
    simp only at h
    split at h
    ·rename_i hp
     cases hr:rowOf T t0 len (parts.toList.map λp=>(p.1,TF p.2)) d with
     |none=>rw [hr] at h;cases h
     |some q=>
      rw [hr] at h
      simp only [Option.map_some,Option.some.injEq] at h
      subst h
      refine ⟨rfl,kO hr,λst Ss=>?_⟩
      have yO: ∀p∈parts.toList,st.ev p.2=TF p.2:= λp sH=>TG (List.all_eq_true.1 hp p sH)
      have hm:(parts.toList.map λp=>(p.1,st.ev p.2))=parts.toList.map λp=>(p.1,TF p.2):=List.map_congr_left λp sH=>by rw [yO p sH]
      have CH:(parts.toList.all λp=>Pn (st.ev p.2))=true:=List.all_eq_true.2 λp sH=>by rw [yO p sH];exact List.all_eq_true.1 hp p sH
      unfold Ci
      simp only [evalOp]
      rw [bT CH,hm,hr]
      simp only [Option.map_some]
      rw [Ss.new]
    ·cases h
   |makeMap t0 hint=>
    cases hint with
    |some x=>cases h
    |none=>
     simp only at h
     split at h
     ·rename_i τ Mw
      split at h
      ·rename_i hd
       cases h
       refine ⟨rfl,⟨λl hl=>by simpa [AV.refs,AC.refs] using hl,rfl,λl hl=>by simp only [AV.map,Ba];rw [if_neg (Ne.symm hl)],λl=>rfl⟩,λst Ss=>?_⟩
       unfold Ci
       simp only [evalOp,Nx,Mw,if_pos hd,Option.map_some]
       rw [Ss.new]
      ·cases h
     ·cases h
   |_=>cases h
theorem tQ {l:List Operand} (h: ∀x∈l,(Fa d v b t).ev x=t.ev x):(l.all λx=>((Fa d v b t).ev x).settled)=(l.map t.ev).all (·.settled):=by
 rw [List.all_map]
 induction l with
 |nil=>rfl
 |cons x r ih=>
  simp only [List.all_cons,Function.comp]
  rw [h x (by simp),ih λy hy=>h y (by simp [hy])]
theorem tR {o:Oper} (hl:mb d v b) (hn:El d t) (hs:Pq Γ (Fa d v b t) o=true) (hu:(dt o).all (cM d)=true) (Yr:o.dst≠some d) {s':St} (he:Ci T Γ ops (Fa d v b t) o=some s'):
  ∃t',Ci T Γ ops t o=some t'/\s'=Fa d v b t'/\El d t'/\Pq Γ t o=true:=by
 obtain ⟨dst,op,ty,pos,after,guard⟩:=o
 unfold Pq at hs
 cases guard with
 |some g=>cases hs
 |none=>
  simp only at hs
  split at hs
  ·rename_i x
   have hx:=Rv (v:=v) (b:=b) (t:=t) hu x (by simp [dt])
   obtain ⟨t',h1,h2,h3⟩:=zl hn hx Yr he
   exact ⟨t',h1,h2,h3,rfl⟩
  ·rename_i t0 x
   have hx:=Rv (v:=v) (b:=b) (t:=t) hu x (by simp [dt])
   rw [hx] at hs
   split at hs
   ·rename_i l i hp
    obtain ⟨t',h1,h2,h3⟩:=zf hn hx Yr hp he
    exact ⟨t',h1,h2,h3,by simp only [Pq,hp]⟩
   ·cases hs
  ·rename_i f args tys
   rw [Bool.and_eq_true] at hs
   obtain ⟨gf,oZ⟩:=hs
   split at gf
   ·rename_i sp Md
    have yO:=Rv (v:=v) (b:=b) (t:=t) (l:=args.toList) hu
    rw [tQ yO] at oZ
    obtain ⟨t',h1,h2,h3⟩:=yx Md hn (DI hu) Yr oZ he
    refine ⟨t',h1,h2,h3,?_⟩
    simp only [Pq,Md,Bool.true_and]
    rw [List.all_map] at oZ
    exact oZ
   ·cases gf
  ·rename_i t0 m k x
   have hm:=Rv (v:=v) (b:=b) (t:=t) hu m (by simp [dt])
   have hk:=Rv (v:=v) (b:=b) (t:=t) hu k (by simp [dt])
   have hx:=Rv (v:=v) (b:=b) (t:=t) hu x (by simp [dt])
   rw [hm,hk,hx] at hs
   have hs0:=hs
   rw [Bool.and_eq_true] at hs
   obtain ⟨t',h1,h2,h3⟩:=sK hn hm hk hx Yr hs.2 he
   exact ⟨t',h1,h2,h3,hs0⟩
  ·rename_i t0 len parts
   rw [Bool.and_eq_true] at hs
   obtain ⟨gf,oZ⟩:=hs
   cases dst with
   |none=>cases oZ
   |some e=>
    simp only at oZ
    have hed:e≠d:= λh=>Yr (by rw [h])
    have bH:(parts.toList.map (λp=>p.2)).all (cM d)=true:=hu
    have yO:=Rv (v:=v) (b:=b) (t:=t) bH
    have hx: ∀p∈parts.toList,(Fa d v b t).ev p.2=t.ev p.2:= λp hp=>yO p.2 (List.mem_map.2 ⟨p,hp,rfl⟩)
    have hp:(parts.toList.all λp=>Pn (t.ev p.2))=true:=List.all_eq_true.2 λp hp=>by rw [<-hx p hp];exact List.all_eq_true.1 gf p hp
    have Fc:=nB oZ
    obtain ⟨t',h1,h2,h3⟩:=vh hl hn hx hed hp Fc he
    refine ⟨t',h1,h2,h3,?_⟩
    simp only [Pq,hp,Bool.true_and]
    exact ER (Fc.back hed hn)
  ·cases hs
def rY:List (Nat×AV×OB)->St->St->Prop
 | [],s,t=>s=t
 |q::Q,s,t=>El q.1 t/\rY Q s (Fa q.1 q.2.1 q.2.2 t)
theorem rf {o:Oper} : ∀(Q:List (Nat×AV×OB)) (s t s':St),rY Q s t->(∀q∈Q,mb q.1 q.2.1 q.2.2/\(dt o).all (cM q.1)=true/\o.dst≠some q.1)->Pq Γ s o=true->Ci T Γ ops s o=some s'->
  ∃t',Ci T Γ ops t o=some t'/\rY Q s' t'/\Pq Γ t o=true
 | [],s,t,s',h,_,hs,he=>by
  have h:s=t:=h
  subst h
  exact ⟨s',he,rfl,hs⟩
 |q::Q,s,t,s',⟨h1,h2⟩,hq,hs,he=>by
  obtain ⟨u',e1,e2,e3⟩:=rf Q s _ s' h2 (λp hp=>hq p (List.mem_cons_of_mem _ hp)) hs he
  obtain ⟨l1,l2,l3⟩:=hq q (by simp)
  obtain ⟨t',f1,f2,f3,f4⟩:=tR l1 h1 e3 l2 l3 e1
  exact ⟨t',f1,⟨f3,by rw [<-f2];exact e2⟩,f4⟩
theorem rh {q:Nat×AV×OB} : ∀(Q1:List (Nat×AV×OB)) {Q2:List (Nat×AV×OB)} {s t:St},rY (Q1++q::Q2) s t->(∀p∈Q1++q::Q2,mb p.1 p.2.1 p.2.2)->(∀p∈Q1,p.1≠q.1)->
  El q.1 t/\rY (Q1++Q2) s (Fa q.1 q.2.1 q.2.2 t)
 | [],Q2,s,t,h,_,_=>h
 |p::Q1,Q2,s,t,⟨h1,h2⟩,hL,Fc=>by
  have XU:=Fc p (by simp)
  have hLp:=hL p (by simp)
  have hLq:=hL q (by simp)
  obtain ⟨g1,g2⟩:=rh Q1 h2 (λr hr=>hL r (List.mem_cons_of_mem _ hr)) λr hr=>Fc r (List.mem_cons_of_mem _ hr)
  refine ⟨g1.back (Ne.symm XU) h1,h1.plus XU (λh=>XU (hLq.v1 _ h)) (by rw [hLq.b1];simp),?_⟩
  show rY (Q1++Q2) s (Fa p.1 p.2.1 p.2.2 (Fa q.1 q.2.1 q.2.2 t))
  rw [qo (Ne.symm XU)]
  exact g2
def fZ (ops:Array Oper):Nat->Nat->Nat->Bool
 |0,_,_=>false
 |f+1,i,a=>Region.waitsFor .any ops i a||(List.range ops.size).any λk=>Region.waitsFor .any ops i k&&fZ ops f k a
def Ti (ops:Array Oper) (Ab:Array Bool):Prop:= ∀k a,Ab.getD k false=true->Region.waitsFor .any ops k a=true->Ab.getD a false=true
theorem cW {Ab:Array Bool} {i a:Nat} (h:i∈Region.ready .any ops Ab) (hw:Region.waitsFor .any ops i a=true):Ab.getD a false=true:=by
 obtain ⟨_,o,ho,Ho⟩:=mem_ready.1 h
 obtain ⟨o',XS,e,he,hb,rfl⟩:=Region.waitsFor_spec hw
 rw [ho] at XS
 cases XS
 exact Ho e he hb
theorem eZ {Ab:Array Bool} (hc:Ti ops Ab) {a:Nat} : ∀(f i:Nat),(∀x,Region.waitsFor .any ops i x=true->Ab.getD x false=true)->fZ ops f i a=true->Ab.getD a false=true
 |0,_,_,h=>by cases h
 |f+1,i,hi,h=>by
  simp only [fZ,Bool.or_eq_true,List.any_eq_true,Bool.and_eq_true] at h
  rcases h with h|⟨k,_,h1,h2⟩
  ·exact hi a h
  ·exact eZ hc f k (λx hx=>hc k x (hi k h1) hx) h2
theorem Ti.set {Ab:Array Bool} (hc:Ti ops Ab) {i:Nat} (hi:i∈Region.ready .any ops Ab):Ti ops (Ab.setIfInBounds i true):= λk a hk hw=>by
 by_cases hik:i=k
 ·subst hik
  exact getD_set_true (cW hi hw)
 ·rw [getD_set_ne false hik] at hk
  exact getD_set_true (hc k a hk hw)
def zq (P:List (Nat×Nat×AV×OB)) (Γ:Env) (ops:Array Oper) (st:St) (o:Oper) (i:Nat):Bool:=
 (P.all λa=>fZ ops 5 i a.1)||(Pq Γ st o&&P.all λa=>fZ ops 5 i a.1||((dt o).all (cM a.2.1)&&(match o.dst with
  |some e=>!Nat.beq e a.2.1
  |none=>true)))
def TC (T:Tab) (Γ:Env) (ops:Array Oper) (P:List (Nat×Nat×AV×OB)) (K:St->Prop):Nat->Array Bool->St->Prop
 |0,Ab,st=>Region.ready .any ops Ab= []/\K st
 |f+1,Ab,st=>Region.ready .any ops Ab≠ []/\ ∀i∈Region.ready .any ops Ab,∃o st',ops[i]?=some o/\zq P Γ ops st o i=true/\Ci T Γ ops st o=some st'/\TC T Γ ops P K f (Ab.setIfInBounds i true) st'
structure HO (lc la:Array Bool) (Q:List Nat):Prop where
 size:la.size=lc.size
 off: ∀k∈Q,k<la.size/\la.getD k false=false/\lc.getD k false=true
 same: ∀k,k∉Q->la.getD k false=lc.getD k false
theorem HO.ready {lc la:Array Bool} {Q:List Nat} (h:HO lc la Q) {i:Nat} (hi:i∈Region.ready .any ops la) (hn:i∉Q):i∈Region.ready .any ops lc:=by
 obtain ⟨h1,o,ho,Ho⟩:=mem_ready.1 hi
 have Gt:i<la.size:=by
  rcases Nat.lt_or_ge i la.size with h'|h'
  ·exact h'
  ·simp [Array.getElem?_eq_none h'] at h1
 have h2:=getD_both h1
 rw [h.same i hn] at h2
 refine mem_ready.2 ⟨getD_in (by rw [<-h.size];exact Gt) h2,o,ho,λe he hb=>?_⟩
 have h3:=Ho e he hb
 by_cases hq:e.on∈Q
 ·exact (h.off _ hq).2.2
 ·rw [<-h.same _ hq];exact h3
theorem HO.nil {lc la:Array Bool} (h:HO lc la []):la=lc:=by
 refine Array.ext h.size λk h1 h2=>?_
 have:=h.same k (by simp)
 simpa [h1,h2] using this
theorem HO.one {lc la:Array Bool} {Q Q':List Nat} {i:Nat} (h:HO lc la Q) (hi:i∈Q) (hs: ∀k,k∈Q'↔k∈Q/\k≠i):HO lc (la.setIfInBounds i true) Q':=by
 refine ⟨by simp [h.size],λk hk=>?_,λk hk=>?_⟩
 ·obtain ⟨h1,h2⟩:=(hs k).1 hk
  obtain ⟨g1,g2,g3⟩:=h.off k h1
  exact ⟨by simpa using g1,by rw [getD_set_ne false (Ne.symm h2)];exact g2,g3⟩
 ·by_cases e:i=k
  ·subst e
   obtain ⟨g1,g2,g3⟩:=h.off i hi
   rw [g3]
   simp [g1]
  ·rw [getD_set_ne false e]
   exact h.same k λhq=>hk ((hs k).2 ⟨hq,Ne.symm e⟩)
theorem HO.both {lc la:Array Bool} {Q:List Nat} {i:Nat} (h:HO lc la Q) (hi:i∉Q):HO (lc.setIfInBounds i true) (la.setIfInBounds i true) Q:=by
 refine ⟨by simp [h.size],λk hk=>?_,λk hk=>?_⟩
 ·obtain ⟨g1,g2,g3⟩:=h.off k hk
  have Fc:i≠k:= λe=>hi (by rw [e];exact hk)
  exact ⟨by simpa using g1,by rw [getD_set_ne false Fc];exact g2,by rw [getD_set_ne false Fc];exact g3⟩
 ·by_cases e:i=k
  ·subst e
   have hs:=h.same i hi
   have hz:=h.size
   by_cases hl:i<la.size
   ·simp [hl,hz▸hl]
   ·have Gq: ¬i<lc.size:=by omega
    simp [hl,Gq]
  ·rw [getD_set_ne false e,getD_set_ne false e];exact h.same k hk
theorem zo {dst:Option Tmp} {d:Nat} (h:(match dst with
  |some e=>!Nat.beq e d
  |none=>true)=true):dst≠some d:= λe=>by
 subst e
 simp at h
theorem DG {P:List (Nat×Nat×AV×OB)} {K:St->Prop} (hP: ∀a∈P,∃o,ops[a.1]?=some o/\Zw T o=some a.2):
  ∀(n f:Nat) (Q:List (Nat×Nat×AV×OB)) (lc la:Array Bool) (s t:St),n=f+Q.length->TC T Γ ops P K f lc s->rY (Q.map (·.2)) s t->HO lc la (Q.map (·.1))->(∀a∈Q,a∈P)->
   (Q.Pairwise λa c=>a.2.1≠c.2.1/\a.1≠c.1)->Ti ops la->(∀a∈Q,∀x,Region.waitsFor .any ops a.1 x=true->la.getD x false=true)->anyS T Γ ops K n la t:=by
 intro n
 induction n with
 |zero=>
  intro f Q lc la s t hn hC hp hb hQ hpw Ly hw
  have hf:f=0:=by omega
  have hq:Q= []:=List.eq_nil_of_length_eq_zero (by omega)
  subst hf hq
  have hp:s=t:=hp
  subst hp
  rw [hb.nil]
  exact hC
 |succ n ih=>
  intro f Q lc la s t hn hC hp hb hQ hpw Ly hw
  refine ⟨?_,λi hi=>?_⟩
  ·cases Q with
   |nil=>
    rw [hb.nil]
    cases f with
    |zero=>simp at hn
    |succ f=>exact hC.1
   |cons a Q=>
    obtain ⟨o,ho,_⟩:=hP a (hQ a (by simp))
    obtain ⟨g1,g2,_⟩:=hb.off a.1 (by simp)
    have:a.1∈Region.ready .any ops la:=mem_ready.2 ⟨getD_in g1 g2,o,ho,λe he hbd=>hw a (by simp) e.on (by
     unfold Region.waitsFor
     rw [ho]
     exact Array.any_eq_true'.2 ⟨e,he,by simp [hbd]⟩)⟩
    intro e
    rw [e] at this
    cases this
  ·by_cases hiQ:i∈Q.map (·.1)
   ·obtain ⟨a,ha,rfl⟩:=List.mem_map.1 hiQ
    obtain ⟨Q1,Q2,rfl⟩:=List.append_of_mem ha
    obtain ⟨o,ho,YW⟩:=hP a (hQ a ha)
    obtain ⟨_,_,Ss⟩:=Zx (Γ:=Γ) (ops:=ops) YW
    have JK:=List.pairwise_append.1 hpw
    have Aa1:=List.pairwise_cons.1 JK.2.1
    rw [List.map_append,List.map_cons] at hp
    have hL: ∀p∈Q1.map (·.2)++a.2::Q2.map (·.2),mb p.1 p.2.1 p.2.2:= λp sH=>by
     have:p∈(Q1++a::Q2).map (·.2):=by rw [List.map_append,List.map_cons];exact sH
     obtain ⟨c,hc,rfl⟩:=List.mem_map.1 this
     obtain ⟨o',_,Ae9⟩:=hP c (hQ c hc)
     exact (Zx (Γ:=Γ) (ops:=ops) Ae9).2.1
    obtain ⟨p1,p2⟩:=rh _ hp hL λp sH=>by
     obtain ⟨c,hc,rfl⟩:=List.mem_map.1 sH
     exact (JK.2.2 c hc a (by simp)).1
    refine ⟨o,_,ho,Ss t p1,ih f (Q1++Q2) lc _ s _ ?_ hC (by rw [List.map_append];exact p2) (hb.one hiQ λk=>?_) (λc hc=>hQ c ?_) ?_ (Ly.set hi) λc hc x hx=>getD_set_true (hw c ?_ x hx)⟩
    ·simp only [List.length_append,List.length_cons] at hn⊢;omega
    ·simp only [List.map_append,List.map_cons,List.mem_append,List.mem_cons]
     constructor
     ·intro h
      rcases h with h|h
      ·obtain ⟨c,hc,rfl⟩:=List.mem_map.1 h
       exact ⟨.inl h,(JK.2.2 c hc a (by simp)).2⟩
      ·obtain ⟨c,hc,rfl⟩:=List.mem_map.1 h
       exact ⟨.inr (.inr h),Ne.symm (Aa1.1 c hc).2⟩
     ·rintro ⟨h|h|h,Fc⟩
      ·exact .inl h
      ·exact absurd h Fc
      ·exact .inr h
    ·rcases List.mem_append.1 hc with hc|hc
     ·exact List.mem_append_left _ hc
     ·exact List.mem_append_right _ (List.mem_cons_of_mem _ hc)
    ·exact List.pairwise_append.2 ⟨JK.1,Aa1.2,λc hc e he=>JK.2.2 c hc e (List.mem_cons_of_mem _ he)⟩
    ·rcases List.mem_append.1 hc with hc|hc
     ·exact List.mem_append_left _ hc
     ·exact List.mem_append_right _ (List.mem_cons_of_mem _ hc)
   ·have hic:=hb.ready hi hiQ
    cases f with
    |zero=>
     rw [hC.1] at hic
     cases hic
    |succ f=>
     obtain ⟨o,s',ho,ct,he,eB⟩:=hC.2 i hic
     have ON: ∀a∈Q,fZ ops 5 i a.1=false:= λa ha=>by
      cases hwt:fZ ops 5 i a.1 with
      |false=>rfl
      |true=>
       have h1:=eZ Ly _ i (λx hx=>cW hi hx) hwt
       rw [(hb.off a.1 (List.mem_map.2 ⟨a,ha,rfl⟩)).2.1] at h1
       cases h1
     have key: ∃t',Ci T Γ ops t o=some t'/\rY (Q.map (·.2)) s' t':=by
      unfold zq at ct
      rw [Bool.or_eq_true,Bool.and_eq_true] at ct
      rcases ct with ct|⟨h1,h2⟩
      ·cases Q with
       |nil=>
        have hp:s=t:=hp
        subst hp
        exact ⟨s',he,rfl⟩
       |cons a Q=>
        have:=List.all_eq_true.1 ct a (hQ a (by simp))
        rw [ON a (by simp)] at this
        cases this
      ·obtain ⟨t',g1,g2,_⟩:=rf (T:=T) (ops:=ops) _ s t s' hp (λq hq=>by
        obtain ⟨a,ha,rfl⟩:=List.mem_map.1 hq
        obtain ⟨o',_,YW⟩:=hP a (hQ a ha)
        have h3:=List.all_eq_true.1 h2 a (hQ a ha)
        rw [ON a ha,Bool.false_or,Bool.and_eq_true] at h3
        exact ⟨(Zx (Γ:=Γ) (ops:=ops) YW).2.1,h3.1,zo h3.2⟩) h1 he
       exact ⟨t',g1,g2⟩
     obtain ⟨t',g1,g2⟩:=key
     exact ⟨o,t',ho,g1,ih f Q _ _ s' t' (by omega) eB g2 (hb.both hiQ) hQ hpw (Ly.set hi) λc hc x hx=>getD_set_true (hw c hc x hx)⟩
def Rt (T:Tab) (ops:Array Oper) (Ab:Array Bool):List (Nat×Nat×AV×OB):=(Region.ready .any ops Ab).filterMap λi=>((ops[i]?).bind (Zw T)).map λr=>(i,r)
theorem s8 {Ab:Array Bool} {a:Nat×Nat×AV×OB} (h:a∈Rt T ops Ab):a.1∈Region.ready .any ops Ab/\ ∃o,ops[a.1]?=some o/\Zw T o=some a.2:=by
 unfold Rt at h
 obtain ⟨i,hi,he⟩:=List.mem_filterMap.1 h
 cases ho:ops[i]? with
 |none=>rw [ho] at he;cases he
 |some o=>
  rw [ho] at he
  simp only [Option.bind_some,Option.map_eq_some_iff] at he
  obtain ⟨r,h1,rfl⟩:=he
  exact ⟨hi,o,ho,h1⟩
theorem vq:Ti ops (Array.replicate ops.size false):= λk a hk _=>by
 rw [getD_replicate_false] at hk
 cases hk
theorem a7 (q:Bool): ∀(l:List Nat) (Ab:Array Bool),Ti ops Ab->Ti ops (Ek (Ff q ops l Ab) Ab)
 | [],Ab,h=>h
 |i::r,Ab,h=>by
  simp only [Ff]
  split
  ·rename_i hc
   rw [Bool.and_eq_true,Bool.and_eq_true] at hc
   have hi:i∈Region.ready .any ops Ab:=by simpa using hc.2.1
   exact a7 q r _ (h.set hi)
  ·exact a7 q r Ab h
theorem cE: ∀(l:List Nat) (Ab:Array Bool),(Ek l Ab).size=Ab.size
 | [],_=>rfl
 |i::r,Ab=>by simp only [Ek];rw [cE r];simp
theorem ia: ∀(l:List Nat) (Ab:Array Bool) (k:Nat),k∈l->k<Ab.size->(Ek l Ab).getD k false=true
 |i::r,Ab,k,h,hk=>by
  simp only [Ek]
  by_cases hr:k∈r
  ·exact ia r _ k hr (by simpa using hk)
  ·have:k=i:=(List.mem_cons.1 h).resolve_right hr
   subst this
   have hs: ∀(l:List Nat) (A:Array Bool),A.getD k false=true->(Ek l A).getD k false=true:=by
    intro l
    induction l with
    |nil=>exact λA h=>h
    |cons j l ih=>exact λA h=>ih _ (getD_set_true h)
   exact hs r _ (by simp [hk])
theorem eG: ∀(l:List Nat) (Ab:Array Bool) (k:Nat),k∉l->(Ek l Ab).getD k false=Ab.getD k false
 | [],_,_,_=>rfl
 |i::r,Ab,k,h=>by
  simp only [Ek]
  rw [eG r _ k λhk=>h (List.mem_cons_of_mem _ hk),getD_set_ne false (λe=>h (by rw [e];simp))]
theorem NO {Ab:Array Bool} {Q:List Nat} (h: ∀i∈Q,i∈Region.ready .any ops Ab):HO (Ek Q Ab) Ab Q:=by
 have hr: ∀i∈Q,i<Ab.size/\Ab.getD i false=false:= λi hi=>by
  have h1:=(mem_ready.1 (h i hi)).1
  refine ⟨?_,getD_both h1⟩
  rcases Nat.lt_or_ge i Ab.size with h'|h'
  ·exact h'
  ·simp [Array.getElem?_eq_none h'] at h1
 exact ⟨(cE Q Ab).symm,λk hk=>⟨(hr k hk).1,(hr k hk).2,ia Q Ab k hk (hr k hk).1⟩,λk hk=>(eG Q Ab k hk).symm⟩
theorem x9: ∀(Q:List (Nat×Nat×AV×OB)) (t s:St),(∀a∈Q,∃o,ops[a.1]?=some o/\Zw T o=some a.2)->(∀a∈Q,El a.2.1 t)->(Q.Pairwise λa c=>a.2.1≠c.2.1)->Jd T Γ ops (Q.map (·.1)) t=some s->rY (Q.map (·.2)) s t
 | [],t,s,_,_,_,h=>by
  have h:some t=some s:=h
  exact (Option.some.inj h).symm
 |a::Q,t,s,hQ,hn,hp,h=>by
  obtain ⟨o,ho,YW⟩:=hQ a (by simp)
  obtain ⟨_,hL,Ss⟩:=Zx (Γ:=Γ) (ops:=ops) YW
  obtain ⟨uJ,DX⟩:=List.pairwise_cons.1 hp
  simp only [List.map_cons,Jd,ho] at h
  rw [Ss t (hn a (by simp))] at h
  refine ⟨hn a (by simp),x9 Q _ s (λc hc=>hQ c (List.mem_cons_of_mem _ hc)) (λc hc=>?_) DX h⟩
  exact (hn c (List.mem_cons_of_mem _ hc)).plus (Ne.symm (uJ c hc)) (λh=>uJ c hc (hL.v1 _ h).symm) (by rw [hL.b1];simp)
end
end Go.Proofs.YtjbdmibbbpdnnaaGreat
