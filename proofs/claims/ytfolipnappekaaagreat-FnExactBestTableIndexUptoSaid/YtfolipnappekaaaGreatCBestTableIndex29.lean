/-
  Part 30 of the proof that the statement FnExactBestTableIndex holds.
-/
import Derived.Test.YtfolipnappekaaaGreatCBestTableIndex28
namespace Go.Proofs.YtfolipnappekaaaGreat
open Go.RowKit
def Ep (d:Nat) (v:AV) (b:OB) (st:St):St:= {tmps:=Ns st.tmps d v,heap:=Iw st.heap d b}
def jO (d:Nat) (st:St):Bool:=(st.get d).refs.isEmpty&&((st.tmps.all λv=>!v.refs.contains d)&&st.heap.all λp=>!Nat.beq p.1 d&&!p.2.refs.contains d)
structure Ed (d:Nat) (st:St):Prop where
 own:(st.get d).refs= []
 tmps: ∀v∈st.tmps,d∉v.refs
 heap: ∀p∈st.heap,p.1≠d/\d∉p.2.refs
theorem nT {d:Nat} {st:St} (h:jO d st=true):Ed d st:=by
 unfold jO at h
 rw [Bool.and_eq_true,Bool.and_eq_true,List.all_eq_true,List.all_eq_true] at h
 obtain ⟨h0,h⟩:=h
 refine ⟨List.isEmpty_iff.1 h0,λv hv=>?_,λp hp=>?_⟩
 ·have:=h.1 v hv
  intro hd
  rw [List.contains_iff_mem.2 hd] at this
  cases this
 ·have:=h.2 p hp
  rw [Bool.and_eq_true] at this
  refine ⟨λe=>?_,λhd=>?_⟩
  ·have h1:=this.1
   rw [e,Nat.beq_refl] at h1
   cases h1
  ·have h1:=this.2
   rw [List.contains_iff_mem.2 hd] at h1
   cases h1
theorem FZ {d:Nat} {st:St} (h:Ed d st):jO d st=true:=by
 unfold jO
 rw [Bool.and_eq_true,Bool.and_eq_true,List.all_eq_true,List.all_eq_true]
 refine ⟨by rw [h.own];rfl,λv hv=>?_,λp hp=>?_⟩
 ·rw [Bool.not_eq_true',<-Bool.not_eq_true,List.contains_iff_mem];exact h.tmps v hv
 ·rw [Bool.and_eq_true]
  refine ⟨?_,?_⟩
  ·rw [Bool.not_eq_true',<-Bool.not_eq_true]
   exact λe=>(h.heap p hp).1 (Nat.eq_of_beq_eq_true e)
  ·rw [Bool.not_eq_true',<-Bool.not_eq_true,List.contains_iff_mem];exact (h.heap p hp).2
structure mz (d:Nat) (v:AV) (b:OB):Prop where
 v1: ∀l,l∈v.refs->l=d
 b1:b.refs= []
 v2: ∀l,l≠d->v.map (Ay l)=v
 b2: ∀l,b.map (Ay l)=b
theorem Ym {α:Type} : ∀(xs:List α) (d t:Nat) (v x:α),d≠t->(Ns xs d v).getD t x=xs.getD t x
 | [],_,_,_,_,_=>rfl
 |y::r,0,0,_,_,h=>absurd rfl h
 |y::r,0,t+1,_,_,_=>by simp [Ns]
 |y::r,d+1,0,_,_,_=>by simp [Ns]
 |y::r,d+1,t+1,v,x,h=>by simpa [Ns] using Ym r d t v x (by omega)
theorem kh {α:Type} : ∀(xs:List α) (d e:Nat) (v w:α),d≠e->Ns (Ns xs d v) e w=Ns (Ns xs e w) d v
 | [],_,_,_,_,_=>rfl
 |y::r,0,0,_,_,h=>absurd rfl h
 |y::r,0,e+1,_,_,_=>rfl
 |y::r,d+1,0,_,_,_=>rfl
 |y::r,d+1,e+1,v,w,h=>by simp only [Ns];rw [kh r d e v w (by omega)]
theorem rC: ∀(H:List (Nat×OB)) (d l:Nat) (b:OB),d≠l->Ad (Iw H d b) l=Ad H l
 | [],d,l,b,h=>by simp [Iw,Ad,h]
 |(k,c)::r,d,l,b,h=>by
  simp only [Iw]
  split
  ·simp only [Ad];rw [if_neg h]
  ·simp only [Ad]
   split
   ·rfl
   ·exact rC r d l b h
theorem rI: ∀(H:List (Nat×OB)) (d e:Nat) (b c:OB),d≠e->Iw (Iw H d b) e c=Iw (Iw H e c) d b
 | [],d,e,b,c,h=>by
  simp only [Iw]
  by_cases h1:e<d
  ·rw [if_pos h1,if_neg (by omega)]
  ·rw [if_neg h1,if_pos (by omega)]
 |(k,a)::r,d,e,b,c,h=>by
  simp only [Iw]
  by_cases h1:d<k<;>by_cases h2:e<k
  ·rw [if_pos h1,if_pos h2]
   simp only [Iw]
   by_cases h3:e<d
   ·rw [if_pos h3,if_neg (by omega),if_pos h1]
   ·rw [if_neg h3,if_pos h2,if_pos (by omega)]
  ·rw [if_pos h1,if_neg h2]
   simp only [Iw]
   rw [if_neg (by omega),if_neg h2,if_pos h1]
  ·rw [if_neg h1,if_pos h2]
   simp only [Iw]
   rw [if_pos h2,if_neg (by omega),if_neg h1]
  ·rw [if_neg h1,if_neg h2]
   simp only [Iw]
   rw [if_neg h1,if_neg h2,rI r d e b c h]
theorem sn: ∀(H:List (Nat×OB)) (d l:Nat) (b c:OB),d≠l->Sy (Iw H d b) l c=Iw (Sy H l c) d b
 | [],d,l,b,c,h=>by simp [Iw,Sy,h]
 |(k,a)::r,d,l,b,c,h=>by
  simp only [Iw,Sy]
  by_cases h1:d<k<;>by_cases h2:k=l
  ·rw [if_pos h1,if_pos h2]
   simp only [Sy,Iw]
   rw [if_neg h,if_pos h2,if_pos h1]
  ·rw [if_pos h1,if_neg h2]
   simp only [Sy,Iw]
   rw [if_neg h,if_neg h2,if_pos h1]
  ·rw [if_neg h1,if_pos h2]
   simp only [Sy,Iw]
   rw [if_pos h2,if_neg h1]
  ·rw [if_neg h1,if_neg h2]
   simp only [Sy,Iw]
   rw [if_neg h2,if_neg h1,sn r d l b c h]
theorem kM {l:Nat} : ∀ {c:AC},l∉c.refs->Ay l c=c:=by
 intro c h
 cases c<;>simp only [Ay]<;>simp only [AC.refs,List.mem_singleton] at h
 case clo f Bu=>rw [if_neg (by simpa using h)]
 all_goals (first|rfl|rw [if_neg (Ne.symm h)])
theorem Tq {l:Nat} : ∀ {cs:List AC},l∉cs.flatMap AC.refs->cs.map (Ay l)=cs
 | [],_=>rfl
 |c::r,h=>by
  rw [List.flatMap_cons,List.mem_append] at h
  rw [List.map_cons,kM (λhh=>h (.inl hh)),Tq (λhh=>h (.inr hh))]
theorem wj {l:Nat} : ∀ {v:AV},l∉v.refs->v.map (Ay l)=v
 | .at a,h=>by simp only [AV.map];rw [kM h]
 | .agg cs,h=>by simp only [AV.map];rw [Tq h]
 | .Uo _ _ _,_=>rfl
 | .Ht ps,h=>by
  simp only [AV.map]
  congr 1
  simp only [AV.refs] at h
  induction ps with
  |nil=>rfl
  |cons p r ih=>
   rw [List.flatMap_cons,List.mem_append] at h
   rw [List.map_cons,Tq (λhh=>h (.inl hh)),ih (λhh=>h (.inr hh))]
theorem wk {l:Nat} : ∀ {b:OB},l∉b.refs->b.map (Ay l)=b
 | .arr _ _ _ _ _,_=>rfl
 | .Cz _ _ _,_=>rfl
 | .var _ vs,h=>by simp only [OB.map];rw [Tq h]
 | .Ai _ _ _ _ _,_=>rfl
 | .Ol _ _,_=>rfl
theorem w7 {l:Nat} : ∀ {H:List (Nat×OB)},(∀p∈H,p.1≠l)->Td H l=H
 | [],_=>rfl
 |(k,b)::r,h=>by
  simp only [Td]
  rw [if_neg (h (k,b) (by simp)),w7 λp hp=>h p (by simp [hp])]
theorem Ed.forget {l:Nat} {st:St} (h:Ed l st):st.forget l=st:=by
 have e1:st.tmps.map (λv=>v.map (Ay l))=st.tmps:=(List.map_congr_left λv hv=>wj (h.tmps v hv)).trans (List.map_id _)
 have e2:st.heap.map (λp=>(p.1,p.2.map (Ay l)))=st.heap:=(List.map_congr_left λp hp=>by rw [wk (h.heap p hp).2];rfl).trans (List.map_id _)
 unfold St.forget St.Gg
 simp only [e1,e2]
 rw [w7 λp hp=>(h.heap p hp).1]
theorem Ed.new {l:Nat} {st:St} (h:Ed l st) (b:OB) (v:AV):(st.new l b).put (some l) v=Ep l v b st:=by
 unfold St.new
 rw [h.forget]
 rfl
theorem nQ {α:Type} : ∀ {xs:List α} {d:Nat} {v x:α},x∈Ns xs d v->x∈xs\/x=v
 | [],_,_,_,h=>by cases h
 |y::r,0,v,x,h=>by
  rcases List.mem_cons.1 h with h|h
  ·exact .inr h
  ·exact .inl (List.mem_cons_of_mem _ h)
 |y::r,d+1,v,x,h=>by
  rcases List.mem_cons.1 h with h|h
  ·exact .inl (by rw [h];simp)
  ·exact (nQ h).imp (List.mem_cons_of_mem _) id
theorem xd: ∀ {H:List (Nat×OB)} {d:Nat} {b:OB} {p:Nat×OB},p∈Iw H d b->p∈H\/p=(d,b)
 | [],d,b,p,h=> .inr (by simpa [Iw] using h)
 |(k,c)::r,d,b,p,h=>by
  simp only [Iw] at h
  split at h
  ·rcases List.mem_cons.1 h with h|h
   ·exact .inr h
   ·exact .inl h
  ·rcases List.mem_cons.1 h with h|h
   ·exact .inl (by rw [h];simp)
   ·exact (xd h).imp (List.mem_cons_of_mem _) id
theorem PF {d:Nat} {v:AV} {b:OB} {st:St} {x:Operand} (h:x≠ .tmp d):(Ep d v b st).ev x=st.ev x:=by
 cases x with
 |tmp t=>exact Ym _ _ _ _ _ (λe=>h (by rw [e]))
 |_=>rfl
theorem CV {d l:Nat} {v:AV} {b:OB} {st:St} (h:d≠l):(Ep d v b st).at l=st.at l:=rC _ _ _ _ h
theorem JH {d e:Nat} {v u:AV} {b:OB} {st:St} (h:d≠e):(Ep d v b st).put (some e) u=Ep d v b (st.put (some e) u):=by
 unfold Ep St.put
 simp only
 rw [kh _ _ _ _ _ h]
theorem EN {d l:Nat} {v:AV} {b c:OB} {st:St} (h:d≠l):(Ep d v b st).Fh l c=Ep d v b (st.Fh l c):=by
 unfold Ep St.Fh
 simp only
 rw [sn _ _ _ _ _ h]
theorem qX {d e:Nat} {v u:AV} {b c:OB} {st:St} (h:d≠e):Ep e u c (Ep d v b st)=Ep d v b (Ep e u c st):=by
 unfold Ep
 rw [kh _ _ _ _ _ h,rI _ _ _ _ _ h]
theorem Ed.put {d:Nat} {st:St} {e:Nat} {u:AV} (h:Ed d st) (ZE:e≠d) (hu:d∉u.refs):Ed d (st.put (some e) u):=
 ⟨by show (List.getD (Ns st.tmps e u) d .undef).refs= [];rw [Ym _ _ _ _ _ ZE];exact h.own,λv hv=>(nQ hv).elim (h.tmps v) λe=>by rw [e];exact hu,h.heap⟩
theorem Ed.plus {d e:Nat} {u:AV} {c:OB} {st:St} (h:Ed d st) (ZE:d≠e) (hu:d∉u.refs) (hc:d∉c.refs):Ed d (Ep e u c st):=
 ⟨by show (List.getD (Ns st.tmps e u) d .undef).refs= [];rw [Ym _ _ _ _ _ (Ne.symm ZE)];exact h.own,λv hv=>(nQ hv).elim (h.tmps v) λe=>by rw [e];exact hu,λp hp=>(xd hp).elim (h.heap p) λe'=>by rw [e'];exact ⟨Ne.symm ZE,hc⟩⟩
theorem Ed.XH {d e:Nat} {u:AV} {c:OB} {st:St} (h:Ed d (Ep e u c st)): ∀p∈st.heap,p.1≠d/\d∉p.2.refs:= λp hp=>h.heap p (by
 show p∈Iw st.heap e c
 generalize st.heap=H at hp
 induction H with
 |nil=>cases hp
 |cons q r ih=>
  obtain ⟨k,a⟩:=q
  simp only [Iw]
  split
  ·exact List.mem_cons_of_mem _ hp
  ·rcases List.mem_cons.1 hp with hp|hp
   ·rw [hp];simp
   ·exact List.mem_cons_of_mem _ (ih hp))
theorem m4 {st st':St} : ∀(τ:Ty) (cs:List AC),cs.all (·.settled)=true->Cn st' τ cs=Cn st τ cs:=by
 intro τ
 induction τ with
 |unit=>intro cs _;cases cs<;>rfl
 |pair a r gE dL=>
  intro cs h
  simp only [Cn]
  rw [List.all_eq_true] at h
  rw [gE _ (List.all_eq_true.2 λc hc=>h c (List.mem_of_mem_take hc)),dL _ (List.all_eq_true.2 λc hc=>h c (List.mem_of_mem_drop hc))]
 |_=>
  intro cs h
  rcases cs with _|⟨c,_|⟨c',cs⟩⟩
  ·rfl
  ·simp only [List.all_cons,List.all_nil,Bool.and_true] at h
   simp only [Cn]
   exact Tz h
  ·rfl
theorem aQ {st st':St} {τ:Ty} {v:AV} (h:v.settled=true):Cq st' τ v=Cq st τ v:=by
 cases v with
 | «at»a=>
  have ha:a.settled=true:=h
  cases a<;>simp only [AC.settled,Bool.false_eq_true] at ha
  all_goals
   simp only [Cq]
   rw [Kl rfl,Kl rfl]
   rw [Tz (st:=st) (st':=st') rfl]
 |agg cs=>simp only [Cq];rw [m4 _ _ h]
 |Uo _ _ _=>rfl
 |Ht _=>rfl
theorem du {st st':St} : ∀(τ:Ty) (vs:List AV),vs.all (·.settled)=true->Bp st' τ vs=Bp st τ vs
 | .pair a r,v::vs,h=>by
  rw [List.all_cons,Bool.and_eq_true] at h
  simp only [Bp]
  rw [aQ (st:=st) (st':=st') h.1,du r vs h.2]
 | .pair _ _,[],_=>rfl
 | .unit,[],_=>rfl
 | .unit,_::_,_=>rfl
 | .int _,vs,_=>by cases vs<;>rfl
 | .bool,vs,_=>by cases vs<;>rfl
 | .str,vs,_=>by cases vs<;>rfl
 | .slice _,vs,_=>by cases vs<;>rfl
 | .oslice _,vs,_=>by cases vs<;>rfl
 | .ptr _,vs,_=>by cases vs<;>rfl
 | .optr _,vs,_=>by cases vs<;>rfl
 | .smap _,vs,_=>by cases vs<;>rfl
 | .clo _ _,vs,_=>by cases vs<;>rfl
def Pe:AV->Bool
 | .at (.data _ _ _)=>true
 |_=>false
def dr (o:Oper):List Operand:=match o.op with
 | .move x=> [x]
 | .load _ x=> [x]
 | .call {callee:= .value (.func _),args, .. } =>args.toList
 | .insert _ m k x=> [m,k,x]
 | .buildSlice _ _ parts=>parts.toList.map (·.2)
 |_=> []
def cG (d:Nat):Operand->Bool
 | .tmp t=>!Nat.beq t d
 |_=>true
theorem GA {d:Nat} {x:Operand} (h:cG d x=true):x≠ .tmp d:= λe=>by
 subst e
 simp [cG] at h
def Pj (Γ:Env) (st:St) (o:Oper):Bool:=match o.guard with
 |some _=>false
 |none=>match o.op with
  | .move _=>true
  | .load _ x=>(match st.ev x with
   | .at (.Dn _ _)=>true
   |_=>false)
  | .call {callee:= .value (.func f),args, .. } =>(match Γ f with
   |some (.q _)=>true
   |_=>false)&&args.toList.all λx=>(st.ev x).settled
  | .insert _ m k x=>(match st.ev m with
   | .at (.Fw _)=>true
   |_=>false)&&Pe (st.ev k)&&(st.ev x).settled
  | .buildSlice _ _ parts=>(parts.toList.all λp=>Pe (st.ev p.2))&&(match o.dst with
   |some e=>jO e st
   |none=>false)
  |_=>false
theorem Ed.ev {d:Nat} {st:St} (h:Ed d st) (x:Operand):d∉(st.ev x).refs:=by
 cases x with
 |tmp t=>
  simp only [St.ev,St.get]
  rw [List.getD_eq_getElem?_getD]
  by_cases hl:t<st.tmps.length
  ·rw [List.getElem?_eq_getElem hl];exact h.tmps _ (List.getElem_mem hl)
  ·rw [List.getElem?_eq_none (Nat.le_of_not_lt hl)];simp [AV.refs,AC.refs]
 |const c=>
  simp only [St.ev]
  unfold gP
  split<;>simp [AV.refs,AC.refs]
 |func f=>simp [St.ev,AV.refs,AC.refs]
 |_=>simp [St.ev,AV.refs,AC.refs]
theorem wE: ∀ {H:List (Nat×OB)} {l:Nat} {b:OB},Ad H l=some b->(l,b)∈H
 |(k,c)::r,l,b,h=>by
  simp only [Ad] at h
  split at h
  ·rename_i e;subst e;cases h;simp
  ·exact List.mem_cons_of_mem _ (wE h)
section
variable {T:Tab} {Γ:Env} {ops:Array Oper} {d:Nat} {v:AV} {b:OB} {t:St}
theorem sd {e:Option Tmp} (h:e≠some d) (hn:Ed d t) {y:AV} (hy:d∉y.refs):(Ep d v b t).put e y=Ep d v b (t.put e y)/\Ed d (t.put e y):=by
 cases e with
 |none=>exact ⟨rfl,hn⟩
 |some k=>exact ⟨JH (λe=>h (by rw [e])),hn.put (λe=>h (by rw [e])) hy⟩
theorem cP {o:Oper} (hg:o.guard=none) (Yp:o.dst≠some d) (hn:Ed d t) {q:Option AV} (h1:evalOp T Γ (Ep d v b t) o=q.map λy=>(y,Ep d v b t)) (h2:evalOp T Γ t o=q.map λy=>(y,t)) (hq: ∀y,q=some y->d∉y.refs) {s':St}
  (he:Ch T Γ ops (Ep d v b t) o=some s'): ∃t',Ch T Γ ops t o=some t'/\s'=Ep d v b t'/\Ed d t':=by
 unfold Ch at he⊢
 rw [hg] at he⊢
 simp only at he⊢
 rw [h1] at he
 cases q with
 |none=>cases he
 |some y=>
  obtain ⟨p1,p2⟩:=sd (v:=v) (b:=b) Yp hn (hq y rfl)
  refine ⟨_,by rw [h2];rfl,?_,p2⟩
  simp only [Option.map_some,Option.some.injEq] at he
  rw [<-he,p1]
theorem Rw {l:List Operand} (hu:l.all (cG d)=true): ∀x∈l,(Ep d v b t).ev x=t.ev x:= λx hx=>PF (GA (List.all_eq_true.1 hu x hx))
theorem zP {dst:Option Tmp} {x:Operand} {ty:TypeId} {pos:String} {after:Array Edge} (hn:Ed d t) (hx:(Ep d v b t).ev x=t.ev x) (Yp:dst≠some d) {s':St}
  (he:Ch T Γ ops (Ep d v b t) {dst:=dst,op:= .move x,type:=ty,pos:=pos,after:=after,guard:=none} =some s'):
  ∃t',Ch T Γ ops t {dst:=dst,op:= .move x,type:=ty,pos:=pos,after:=after,guard:=none} =some t'/\s'=Ep d v b t'/\Ed d t':=
 cP rfl Yp hn (q:=some (t.ev x)) (by simp only [evalOp,Cg,hx]) (by simp only [evalOp,Cg]) (λy hy=>by cases hy;exact hn.ev x) he
def loadVar (T:Tab) (o:Option OB) (t0:TypeId) (i:Nat):Option AV:=match T.ty t0 with
 |some τ=>(match o with
  |some (.var _ vs)=>if τ.Ab then (if i+τ.size<=vs.length then some (.agg ((vs.drop i).take τ.size)) else none) else vs[i]?.map .at
  |_=>none)
 |none=>none
theorem eF {st:St} {t0:TypeId} {l i:Nat} :Kh T st t0 (.at (.Dn l i))=loadVar T (st.at l) t0 i:=by
 unfold Kh loadVar
 cases T.ty t0<;>rfl
theorem zJ {dst:Option Tmp} {t0:TypeId} {x:Operand} {ty:TypeId} {pos:String} {after:Array Edge} (hn:Ed d t) (hx:(Ep d v b t).ev x=t.ev x) (Yp:dst≠some d) {l i:Nat} (hp:t.ev x= .at (.Dn l i)) {s':St}
  (he:Ch T Γ ops (Ep d v b t) {dst:=dst,op:= .load t0 x,type:=ty,pos:=pos,after:=after,guard:=none} =some s'):
  ∃t',Ch T Γ ops t {dst:=dst,op:= .load t0 x,type:=ty,pos:=pos,after:=after,guard:=none} =some t'/\s'=Ep d v b t'/\Ed d t':=by
 have hld:d≠l:= λe=>by
  have:=hn.ev x
  rw [hp,e] at this
  exact this (by simp [AV.refs,AC.refs])
 refine cP rfl Yp hn (q:=loadVar T (t.at l) t0 i) ?_ ?_ (λy hy=>?_) he
 ·simp only [evalOp,Cg,hx,hp]
  rw [eF,CV hld]
 ·simp only [evalOp,Cg,hp]
  rw [eF]
 ·unfold loadVar at hy
  split at hy
  ·split at hy
   ·rename_i vs hb
    have hr:d∉vs.flatMap AC.refs:=(hn.heap _ (wE hb)).2
    have Zl: ∀c∈vs,d∉c.refs:= λc hc hd=>hr (List.mem_flatMap.2 ⟨c,hc,hd⟩)
    split at hy
    ·split at hy
     ·cases hy
      intro hd
      obtain ⟨c,hc,hd⟩:=List.mem_flatMap.1 hd
      exact Zl c (List.mem_of_mem_drop (List.mem_of_mem_take hc)) hd
     ·cases hy
    ·cases hv:vs[i]? with
     |none=>rw [hv] at hy;cases hy
     |some c=>
      rw [hv] at hy
      cases hy
      exact Zl c (List.mem_of_getElem? hv)
   ·cases hy
  ·cases hy
theorem ER {l:List Operand} (hu:l.all (cG d)=true):l.map (Ep d v b t).ev=l.map t.ev:=List.map_congr_left λx hx=>Rw hu x hx
theorem z6 {dst:Option Tmp} {f:FuncId} {args:Array Operand} {tys:Array TypeId} {ty:TypeId} {pos:String} {after:Array Edge} {sp:Spec} (Mg:Γ f=some (.q sp)) (hn:Ed d t) (hx:args.toList.map (Ep d v b t).ev=args.toList.map t.ev) (Yp:dst≠some d)
  (hs:(args.toList.map t.ev).all (·.settled)=true) {s':St} (he:Ch T Γ ops (Ep d v b t) {dst:=dst,op:= .call {callee:= .value (.func f),args:=args,argTypes:=tys},type:=ty,pos:=pos,after:=after,guard:=none} =some s'):
  ∃t',Ch T Γ ops t {dst:=dst,op:= .call {callee:= .value (.func f),args:=args,argTypes:=tys},type:=ty,pos:=pos,after:=after,guard:=none} =some t'/\s'=Ep d v b t'/\Ed d t':=by
 have DQ:ao sp (args.toList.map t.ev)=false:=by unfold ao;rw [hs];simp
 have zk: ∀st:St,Je Γ st f (args.toList.map t.ev)=(match Bp t sp.arg (args.toList.map t.ev) with
   |none=>none
   |some (_,x)=>(sp.fn x).map λy=>if sp.Dh then .Uo (sp.fresh||sp.res.flat) sp.res y else .at (.data (sp.fresh||sp.res.flat) sp.res y)):= λst=>by
  unfold Je
  rw [Mg]
  simp only
  rw [hs,du (st:=t) _ _ hs]
  simp only [Bool.or_true,if_true]
  cases Bp t sp.arg (args.toList.map t.ev)<;>rfl
 refine cP rfl Yp hn (q:=Je Γ t f (args.toList.map t.ev)) ?_ ?_ (λy hy=>?_) he
 ·simp only [evalOp,Cg,Mg,hx,DQ]
  rw [zk,zk t]
  simp
 ·simp only [evalOp,Cg,Mg,DQ]
  simp
 ·rw [zk t] at hy
  split at hy
  ·cases hy
  ·rename_i x _
   cases hf:sp.fn x with
   |none=>rw [hf] at hy;cases hy
   |some z=>
    rw [hf] at hy
    simp only [Option.map_some,Option.some.injEq] at hy
    rw [<-hy]
    split<;>simp [AV.refs,AC.refs]
def iB (T:Tab) (o:Option OB) (t0:TypeId) (s:ByteArray) (vw:(v:Ty)->Option (Bool×v.den)):Option OB:=match T.mapOf t0 with
 |some v=>(match o,vw v with
  |some (.Ol v' f),some (_,y)=>if h:v'=v/\v.flat=true/\v.Ab=false then some (.Ol v (dp (h.1▸f:ByteArray->Option v.den) s y)) else none
  |_,_=>none)
 |none=>none
theorem eG {st:St} {t0:TypeId} {l:Nat} {fr:Bool} {s:ByteArray} {x:AV} :En T st t0 (.at (.Fw l)) (.at (.data fr .str s)) x=(iB T (st.at l) t0 s λv=>Cq st v x).map λc=>st.Fh l c:=by
 unfold En iB
 cases T.mapOf t0 with
 |none=>rfl
 |some v0=>
  simp only
  cases st.at l with
  |none=>rfl
  |some c=>
   cases c with
   |Ol v' f=>
    cases Cq st v0 x with
    |none=>rfl
    |some p=>
     simp only
     split<;>rfl
   |_=>rfl
theorem xb {o:Option OB} {t0:TypeId} {s:ByteArray} {vw:(v:Ty)->Option (Bool×v.den)} {c:OB} (h:iB T o t0 s vw=some c):c.refs= []:=by
 unfold iB at h
 split at h
 ·split at h
  ·split at h
   ·cases h;rfl
   ·cases h
  ·cases h
 ·cases h
theorem mZ {st:St} {t0:TypeId} {m k x:AV} {s':St} (h:En T st t0 m k x=some s'): ∃l fr s,m= .at (.Fw l)/\k= .at (.data fr .str s):=by
 unfold En at h
 split at h
 ·exact ⟨_,_,_,rfl,rfl⟩
 ·cases h
theorem xe: ∀ {H:List (Nat×OB)} {l:Nat} {c:OB} {p:Nat×OB},p∈Sy H l c->p∈H\/(p.2=c/\p.1=l/\ ∃c',(l,c')∈H)
 |(k,a)::r,l,c,p,h=>by
  simp only [Sy] at h
  split at h
  ·rename_i e
   rcases List.mem_cons.1 h with h|h
   ·subst h;exact .inr ⟨rfl,e,a,by rw [e];simp⟩
   ·exact .inl (List.mem_cons_of_mem _ h)
  ·rcases List.mem_cons.1 h with h|h
   ·exact .inl (by rw [h];simp)
   ·exact (xe h).imp (List.mem_cons_of_mem _) λ⟨h1,h2,c',h3⟩=>⟨h1,h2,c',List.mem_cons_of_mem _ h3⟩
theorem Ed.Fh {st:St} {l:Nat} {c:OB} (h:Ed d st) (hc:d∉c.refs):Ed d (st.Fh l c):=
 ⟨h.own,h.tmps,λp hp=>(xe hp).elim (h.heap p) λ⟨h1,h2,c',h3⟩=>⟨by rw [h2];exact (h.heap _ h3).1,by rw [h1];exact hc⟩⟩
theorem tw {dst:Option Tmp} {t0:TypeId} {m k x:Operand} {ty:TypeId} {pos:String} {after:Array Edge} (hn:Ed d t) (hm:(Ep d v b t).ev m=t.ev m) (hk:(Ep d v b t).ev k=t.ev k) (hx:(Ep d v b t).ev x=t.ev x) (Yp:dst≠some d)
  (hs:(t.ev x).settled=true) {s':St} (he:Ch T Γ ops (Ep d v b t) {dst:=dst,op:= .insert t0 m k x,type:=ty,pos:=pos,after:=after,guard:=none} =some s'):
  ∃t',Ch T Γ ops t {dst:=dst,op:= .insert t0 m k x,type:=ty,pos:=pos,after:=after,guard:=none} =some t'/\s'=Ep d v b t'/\Ed d t':=by
 unfold Ch at he⊢
 simp only [evalOp,hm,hk,hx] at he⊢
 cases DO:En T (Ep d v b t) t0 (t.ev m) (t.ev k) (t.ev x) with
 |none=>rw [DO] at he;cases he
 |some s1=>
  rw [DO] at he
  simp only [Option.map_some,Option.some.injEq] at he
  obtain ⟨l,fr,s,e1,e2⟩:=mZ DO
  have hld:d≠l:= λe=>by
   have:=hn.ev m
   rw [e1,e] at this
   exact this (by simp [AV.refs,AC.refs])
  rw [e1,e2,eG,CV hld] at DO
  have hvw:(λv0=>Cq (Ep d v b t) v0 (t.ev x))= λv0=>Cq t v0 (t.ev x):=funext λv0=>aQ hs
  rw [hvw] at DO
  rw [e1,e2,eG]
  cases ho:iB T (t.at l) t0 s λv0=>Cq t v0 (t.ev x) with
  |none=>rw [ho] at DO;cases DO
  |some c=>
   rw [ho] at DO
   simp only [Option.map_some,Option.some.injEq] at DO
   have hc:=xb ho
   have mg:Ed d (t.Fh l c):=hn.Fh (by rw [hc];simp)
   obtain ⟨p1,p2⟩:=sd (v:=v) (b:=b) (y:= .undef) Yp mg (by simp [AV.refs,AC.refs])
   refine ⟨_,rfl,?_,p2⟩
   rw [<-he,<-DO,EN hld,p1]
theorem Ed.back {e:Nat} (h:Ed e (Ep d v b t)) (ZE:e≠d) (hn:Ed d t):Ed e t:=by
 have hg: ∀k,k≠d->(Ep d v b t).get k=t.get k:= λk hk=>Ym _ _ _ _ _ (Ne.symm hk)
 refine ⟨by rw [<-hg e ZE];exact h.own,λu hu hd=>?_,h.XH⟩
 obtain ⟨k,hk,rfl⟩:=List.mem_iff_getElem.1 hu
 have e1:t.get k=t.tmps[k]:=by unfold St.get;rw [List.getD_eq_getElem?_getD,List.getElem?_eq_getElem hk];rfl
 by_cases TB:k=d
 ·subst TB
  have:=hn.own
  rw [e1] at this
  rw [this] at hd
  cases hd
 ·have h1:=h.ev (.tmp k)
  have h2:(Ep d v b t).ev (.tmp k)=t.tmps[k]:=by show (Ep d v b t).get k=_;rw [hg k TB,e1]
  rw [h2] at h1
  exact h1 hd
def gh (e:Ty):Nat->List (Nat×AV)->Option (Bool×Bool×List e.den)
 |_,[]=>some (true,true,[])
 |i,(j,x)::r=>if i=j then match Cq ⟨[],[]⟩ e x with
  |some (fr,y)=>match gh e (i+1) r with
   |some (Ox,NY,ys)=>some (fr&&Ox,Ms ⟨[],[]⟩ x&&e.tree&&NY,y::ys)
   |none=>none
  |none=>none
  else none
theorem Yc {st:St} {e:Ty} : ∀(l:List (Nat×Operand)) (i:Nat),(l.all λp=>Pe (st.ev p.2))=true->Gl e i l st=(gh e i (l.map λp=>(p.1,st.ev p.2))).map λp=>(p.1,p.2.1,p.2.2,st)
 | [],i,_=>rfl
 |(j,x)::r,i,h=>by
  rw [List.all_cons,Bool.and_eq_true] at h
  have hx:Pe (st.ev x)=true:=h.1
  simp only [Gl,gh,List.map_cons]
  split
  ·generalize hxv:st.ev x=xv at hx
   unfold Pe at hx
   split at hx
   ·rename_i fr τ z
    have WM:settle st (.at (.data fr τ z))=some (.at (.data fr τ z),st):=rfl
    rw [WM]
    simp only
    rw [aQ (st:=⟨[],[]⟩) (st':=st) (v:= .at (.data fr τ z)) rfl]
    cases Cq ⟨[],[]⟩ e (.at (.data fr τ z)) with
    |none=>rfl
    |some p=>
     simp only
     rw [Yc r (i+1) h.2]
     cases gh e (i+1) (r.map λp=>(p.1,st.ev p.2)) with
     |none=>rfl
     |some q=>rfl
   ·cases hx
  ·rfl
def rowOf (T:Tab) (t0:TypeId) (len:Nat) (parts:List (Nat×AV)) (dst:Nat):Option (AV×OB):=match Yn T t0 with
 |some _=>none
 |none=>match T.elem t0 with
  |none=>none
  |some te=>match T.ty te with
   |none=>none
   |some e=>if parts.length=len/\len<=64/\e.size<=64/\dst<Ak then (gh e 0 parts).map λp=>(.at (.own dst 0 len), .arr ((T.ng||e.flat)&&p.1) (T.uP&&p.2.1) e te p.2.2) else none
theorem bQ {st:St} {t0:TypeId} {len dst:Nat} {parts:Array (Nat×Operand)} (h:(parts.toList.all λp=>Pe (st.ev p.2))=true):
  El T st dst t0 len parts=(rowOf T t0 len (parts.toList.map λp=>(p.1,st.ev p.2)) dst).map λr=>(r.1,st.new dst r.2):=by
 unfold El rowOf
 cases Yn T t0 with
 |some p=>
  obtain ⟨te,e⟩:=p
  simp only [Option.map_none]
  split
  ·rename_i x hp
   rw [hp,List.all_cons,Bool.and_eq_true] at h
   have hx:Pe (st.ev x)=true:=h.1
   unfold Pe at hx
   split at hx
   ·rename_i hv;simp only [hv]
   ·cases hx
  ·rfl
 |none=>
  simp only
  unfold Hj
  cases T.elem t0 with
  |none=>rfl
  |some te=>
   simp only
   cases T.ty te with
   |none=>rfl
   |some e=>
    simp only [List.length_map,Array.length_toList]
    split
    ·rw [Yc _ 0 h]
     cases gh e 0 (parts.toList.map λp=>(p.1,st.ev p.2))<;>rfl
    ·rfl
theorem ld {t0:TypeId} {len dst:Nat} {parts:List (Nat×AV)} {r:AV×OB} (h:rowOf T t0 len parts dst=some r):mz dst r.1 r.2:=by
 unfold rowOf at h
 split at h
 ·cases h
 ·split at h
  ·cases h
  ·split at h
   ·cases h
   ·split at h
    ·rename_i e _ _
     cases hp:gh e 0 parts with
     |none=>rw [hp] at h;cases h
     |some p=>
      rw [hp] at h
      simp only [Option.map_some,Option.some.injEq] at h
      subst h
      exact ⟨λl hl=>by simpa [AV.refs,AC.refs] using hl,rfl,λl hl=>by simp only [AV.map,Ay];rw [if_neg (Ne.symm hl)],λl=>rfl⟩
    ·cases h
theorem vV {e:Nat} {t0:TypeId} {len:Nat} {parts:Array (Nat×Operand)} {ty:TypeId} {pos:String} {after:Array Edge} (_hl:mz d v b) (hn:Ed d t) (hx: ∀p∈parts.toList,(Ep d v b t).ev p.2=t.ev p.2) (Yp:e≠d)
  (hp:(parts.toList.all λp=>Pe (t.ev p.2))=true) (Ex:Ed e (Ep d v b t)) {s':St} (he:Ch T Γ ops (Ep d v b t) {dst:=some e,op:= .buildSlice t0 len parts,type:=ty,pos:=pos,after:=after,guard:=none} =some s'):
  ∃t',Ch T Γ ops t {dst:=some e,op:= .buildSlice t0 len parts,type:=ty,pos:=pos,after:=after,guard:=none} =some t'/\s'=Ep d v b t'/\Ed d t':=by
 have VY:=Ex.back Yp hn
 have ij:(parts.toList.all λp=>Pe ((Ep d v b t).ev p.2))=true:=List.all_eq_true.2 λp tq=>by rw [hx p tq];exact List.all_eq_true.1 hp p tq
 have hm:(parts.toList.map λp=>(p.1,(Ep d v b t).ev p.2))=parts.toList.map λp=>(p.1,t.ev p.2):=List.map_congr_left λp tq=>by rw [hx p tq]
 unfold Ch at he⊢
 simp only [evalOp] at he⊢
 rw [bQ ij,hm] at he
 rw [bQ hp]
 cases hr:rowOf T t0 len (parts.toList.map λp=>(p.1,t.ev p.2)) e with
 |none=>rw [hr] at he;cases he
 |some r=>
  rw [hr] at he
  have hL:=ld hr
  simp only [Option.map_some,Option.some.injEq] at he
  rw [Ex.new] at he
  refine ⟨Ep e r.1 r.2 t,by simp only [Option.map_some];rw [VY.new],?_,hn.plus (Ne.symm Yp) (λh=>Yp (hL.v1 _ h).symm) (by rw [hL.b1];simp)⟩
  rw [<-he,qX (Ne.symm Yp)]
def UR:Operand->AV
 | .const c=>gP c
 |_=> .undef
theorem US {st:St} {x:Operand} (h:Pe (UR x)=true):st.ev x=UR x:=by
 cases x<;>first|rfl|cases h
def Zs (T:Tab) (o:Oper):Option (Nat×AV×OB):=match o.guard with
 |some _=>none
 |none=>match o.dst with
  |none=>none
  |some d=>match o.op with
   | .buildSlice t0 len parts=>if (parts.toList.all λp=>Pe (UR p.2))=true then (rowOf T t0 len (parts.toList.map λp=>(p.1,UR p.2)) d).map λr=>(d,r.1,r.2) else none
   | .makeMap t0 none=>match T.mapOf t0 with
    |some τ=>if d<Ak then some (d, .at (.Fw d), .Ol τ λ_=>none) else none
    |none=>none
   |_=>none
theorem Zt {o:Oper} {r:Nat×AV×OB} (h:Zs T o=some r):o.dst=some r.1/\mz r.1 r.2.1 r.2.2/\ ∀st:St,Ed r.1 st->Ch T Γ ops st o=some (Ep r.1 r.2.1 r.2.2 st):=by
 obtain ⟨dst,op,ty,pos,after,guard⟩:=o
 unfold Zs at h
 cases guard with
 |some g=>cases h
 |none=>
  cases dst with
  |none=>cases h
  |some d=>
   cases op with
   |buildSlice t0 len parts=>
    simp only at h
    split at h
    ·rename_i hp
     cases hr:rowOf T t0 len (parts.toList.map λp=>(p.1,UR p.2)) d with
     |none=>rw [hr] at h;cases h
     |some q=>
      rw [hr] at h
      simp only [Option.map_some,Option.some.injEq] at h
      subst h
      refine ⟨rfl,ld hr,λst Te=>?_⟩
      have zk: ∀p∈parts.toList,st.ev p.2=UR p.2:= λp tq=>US (List.all_eq_true.1 hp p tq)
      have hm:(parts.toList.map λp=>(p.1,st.ev p.2))=parts.toList.map λp=>(p.1,UR p.2):=List.map_congr_left λp tq=>by rw [zk p tq]
      have ij:(parts.toList.all λp=>Pe (st.ev p.2))=true:=List.all_eq_true.2 λp tq=>by rw [zk p tq];exact List.all_eq_true.1 hp p tq
      unfold Ch
      simp only [evalOp]
      rw [bQ ij,hm,hr]
      simp only [Option.map_some]
      rw [Te.new]
    ·cases h
   |makeMap t0 hint=>
    cases hint with
    |some x=>cases h
    |none=>
     simp only at h
     split at h
     ·rename_i τ My
      split at h
      ·rename_i hd
       cases h
       refine ⟨rfl,⟨λl hl=>by simpa [AV.refs,AC.refs] using hl,rfl,λl hl=>by simp only [AV.map,Ay];rw [if_neg (Ne.symm hl)],λl=>rfl⟩,λst Te=>?_⟩
       unfold Ch
       simp only [evalOp,Nv,My,if_pos hd,Option.map_some]
       rw [Te.new]
      ·cases h
     ·cases h
   |_=>cases h
theorem uq {l:List Operand} (h: ∀x∈l,(Ep d v b t).ev x=t.ev x):(l.all λx=>((Ep d v b t).ev x).settled)=(l.map t.ev).all (·.settled):=by
 rw [List.all_map]
 induction l with
 |nil=>rfl
 |cons x r ih=>
  simp only [List.all_cons,Function.comp]
  rw [h x (by simp),ih λy hy=>h y (by simp [hy])]
theorem ur {o:Oper} (hl:mz d v b) (hn:Ed d t) (hs:Pj Γ (Ep d v b t) o=true) (hu:(dr o).all (cG d)=true) (Yp:o.dst≠some d) {s':St} (he:Ch T Γ ops (Ep d v b t) o=some s'):
  ∃t',Ch T Γ ops t o=some t'/\s'=Ep d v b t'/\Ed d t'/\Pj Γ t o=true:=by
 obtain ⟨dst,op,ty,pos,after,guard⟩:=o
 unfold Pj at hs
 cases guard with
 |some g=>cases hs
 |none=>
  simp only at hs
  split at hs
  ·rename_i x
   have hx:=Rw (v:=v) (b:=b) (t:=t) hu x (by simp [dr])
   obtain ⟨t',h1,h2,h3⟩:=zP hn hx Yp he
   exact ⟨t',h1,h2,h3,rfl⟩
  ·rename_i t0 x
   have hx:=Rw (v:=v) (b:=b) (t:=t) hu x (by simp [dr])
   rw [hx] at hs
   split at hs
   ·rename_i l i hp
    obtain ⟨t',h1,h2,h3⟩:=zJ hn hx Yp hp he
    exact ⟨t',h1,h2,h3,by simp only [Pj,hp]⟩
   ·cases hs
  ·rename_i f args tys
   rw [Bool.and_eq_true] at hs
   obtain ⟨gD,px⟩:=hs
   split at gD
   ·rename_i sp Mg
    have zk:=Rw (v:=v) (b:=b) (t:=t) (l:=args.toList) hu
    rw [uq zk] at px
    obtain ⟨t',h1,h2,h3⟩:=z6 Mg hn (ER hu) Yp px he
    refine ⟨t',h1,h2,h3,?_⟩
    simp only [Pj,Mg,Bool.true_and]
    rw [List.all_map] at px
    exact px
   ·cases gD
  ·rename_i t0 m k x
   have hm:=Rw (v:=v) (b:=b) (t:=t) hu m (by simp [dr])
   have hk:=Rw (v:=v) (b:=b) (t:=t) hu k (by simp [dr])
   have hx:=Rw (v:=v) (b:=b) (t:=t) hu x (by simp [dr])
   rw [hm,hk,hx] at hs
   have WK:=hs
   rw [Bool.and_eq_true] at hs
   obtain ⟨t',h1,h2,h3⟩:=tw hn hm hk hx Yp hs.2 he
   exact ⟨t',h1,h2,h3,WK⟩
  ·rename_i t0 len parts
   rw [Bool.and_eq_true] at hs
   obtain ⟨gD,px⟩:=hs
   cases dst with
   |none=>cases px
   |some e=>
    simp only at px
    have hed:e≠d:= λh=>Yp (by rw [h])
    have bE:(parts.toList.map (λp=>p.2)).all (cG d)=true:=hu
    have zk:=Rw (v:=v) (b:=b) (t:=t) bE
    have hx: ∀p∈parts.toList,(Ep d v b t).ev p.2=t.ev p.2:= λp hp=>zk p.2 (List.mem_map.2 ⟨p,hp,rfl⟩)
    have hp:(parts.toList.all λp=>Pe (t.ev p.2))=true:=List.all_eq_true.2 λp hp=>by rw [<-hx p hp];exact List.all_eq_true.1 gD p hp
    have Ex:=nT px
    obtain ⟨t',h1,h2,h3⟩:=vV hl hn hx hed hp Ex he
    refine ⟨t',h1,h2,h3,?_⟩
    simp only [Pj,hp,Bool.true_and]
    exact FZ (Ex.back hed hn)
  ·cases hs
def sB:List (Nat×AV×OB)->St->St->Prop
 | [],s,t=>s=t
 |q::Q,s,t=>Ed q.1 t/\sB Q s (Ep q.1 q.2.1 q.2.2 t)
theorem rZ {o:Oper} : ∀(Q:List (Nat×AV×OB)) (s t s':St),sB Q s t->(∀q∈Q,mz q.1 q.2.1 q.2.2/\(dr o).all (cG q.1)=true/\o.dst≠some q.1)->Pj Γ s o=true->Ch T Γ ops s o=some s'->
  ∃t',Ch T Γ ops t o=some t'/\sB Q s' t'/\Pj Γ t o=true
 | [],s,t,s',h,_,hs,he=>by
  have h:s=t:=h
  subst h
  exact ⟨s',he,rfl,hs⟩
 |q::Q,s,t,s',⟨h1,h2⟩,hq,hs,he=>by
  obtain ⟨u',e1,e2,e3⟩:=rZ Q s _ s' h2 (λp hp=>hq p (List.mem_cons_of_mem _ hp)) hs he
  obtain ⟨l1,l2,l3⟩:=hq q (by simp)
  obtain ⟨t',f1,f2,f3,f4⟩:=ur l1 h1 e3 l2 l3 e1
  exact ⟨t',f1,⟨f3,by rw [<-f2];exact e2⟩,f4⟩
theorem s8 {q:Nat×AV×OB} : ∀(Q1:List (Nat×AV×OB)) {Q2:List (Nat×AV×OB)} {s t:St},sB (Q1++q::Q2) s t->(∀p∈Q1++q::Q2,mz p.1 p.2.1 p.2.2)->(∀p∈Q1,p.1≠q.1)->
  Ed q.1 t/\sB (Q1++Q2) s (Ep q.1 q.2.1 q.2.2 t)
 | [],Q2,s,t,h,_,_=>h
 |p::Q1,Q2,s,t,⟨h1,h2⟩,hL,Ex=>by
  have ZO:=Ex p (by simp)
  have hLp:=hL p (by simp)
  have hLq:=hL q (by simp)
  obtain ⟨g1,g2⟩:=s8 Q1 h2 (λr hr=>hL r (List.mem_cons_of_mem _ hr)) λr hr=>Ex r (List.mem_cons_of_mem _ hr)
  refine ⟨g1.back (Ne.symm ZO) h1,h1.plus ZO (λh=>ZO (hLq.v1 _ h)) (by rw [hLq.b1];simp),?_⟩
  show sB (Q1++Q2) s (Ep p.1 p.2.1 p.2.2 (Ep q.1 q.2.1 q.2.2 t))
  rw [qX (Ne.symm ZO)]
  exact g2
def gA (ops:Array Oper):Nat->Nat->Nat->Bool
 |0,_,_=>false
 |f+1,i,a=>Region.waitsFor .any ops i a||(List.range ops.size).any λk=>Region.waitsFor .any ops i k&&gA ops f k a
def Ti (ops:Array Oper) (Ac:Array Bool):Prop:= ∀k a,Ac.getD k false=true->Region.waitsFor .any ops k a=true->Ac.getD a false=true
theorem cQ {Ac:Array Bool} {i a:Nat} (h:i∈Region.ready .any ops Ac) (hw:Region.waitsFor .any ops i a=true):Ac.getD a false=true:=by
 obtain ⟨_,o,ho,Gw⟩:=mem_ready.1 h
 obtain ⟨o',ZM,e,he,hb,rfl⟩:=Region.waitsFor_spec hw
 rw [ho] at ZM
 cases ZM
 exact Gw e he hb
theorem fp {Ac:Array Bool} (hc:Ti ops Ac) {a:Nat} : ∀(f i:Nat),(∀x,Region.waitsFor .any ops i x=true->Ac.getD x false=true)->gA ops f i a=true->Ac.getD a false=true
 |0,_,_,h=>by cases h
 |f+1,i,hi,h=>by
  simp only [gA,Bool.or_eq_true,List.any_eq_true,Bool.and_eq_true] at h
  rcases h with h|⟨k,_,h1,h2⟩
  ·exact hi a h
  ·exact fp hc f k (λx hx=>hc k x (hi k h1) hx) h2
theorem Ti.set {Ac:Array Bool} (hc:Ti ops Ac) {i:Nat} (hi:i∈Region.ready .any ops Ac):Ti ops (Ac.setIfInBounds i true):= λk a hk hw=>by
 by_cases hik:i=k
 ·subst hik
  exact getD_set_true (cQ hi hw)
 ·rw [getD_set_ne false hik] at hk
  exact getD_set_true (hc k a hk hw)
def zV (P:List (Nat×Nat×AV×OB)) (Γ:Env) (ops:Array Oper) (st:St) (o:Oper) (i:Nat):Bool:=
 (P.all λa=>gA ops 5 i a.1)||(Pj Γ st o&&P.all λa=>gA ops 5 i a.1||((dr o).all (cG a.2.1)&&(match o.dst with
  |some e=>!Nat.beq e a.2.1
  |none=>true)))
def UO (T:Tab) (Γ:Env) (ops:Array Oper) (P:List (Nat×Nat×AV×OB)) (K:St->Prop):Nat->Array Bool->St->Prop
 |0,Ac,st=>Region.ready .any ops Ac= []/\K st
 |f+1,Ac,st=>Region.ready .any ops Ac≠ []/\ ∀i∈Region.ready .any ops Ac,∃o st',ops[i]?=some o/\zV P Γ ops st o i=true/\Ch T Γ ops st o=some st'/\UO T Γ ops P K f (Ac.setIfInBounds i true) st'
structure IP (lc la:Array Bool) (Q:List Nat):Prop where
 size:la.size=lc.size
 off: ∀k∈Q,k<la.size/\la.getD k false=false/\lc.getD k false=true
 same: ∀k,k∉Q->la.getD k false=lc.getD k false
theorem IP.ready {lc la:Array Bool} {Q:List Nat} (h:IP lc la Q) {i:Nat} (hi:i∈Region.ready .any ops la) (hn:i∉Q):i∈Region.ready .any ops lc:=by
 obtain ⟨h1,o,ho,Gw⟩:=mem_ready.1 hi
 have Fg:i<la.size:=by
  rcases Nat.lt_or_ge i la.size with h'|h'
  ·exact h'
  ·simp [Array.getElem?_eq_none h'] at h1
 have h2:=getD_both h1
 rw [h.same i hn] at h2
 refine mem_ready.2 ⟨getD_in (by rw [<-h.size];exact Fg) h2,o,ho,λe he hb=>?_⟩
 have h3:=Gw e he hb
 by_cases hq:e.on∈Q
 ·exact (h.off _ hq).2.2
 ·rw [<-h.same _ hq];exact h3
theorem IP.nil {lc la:Array Bool} (h:IP lc la []):la=lc:=by
 refine Array.ext h.size λk h1 h2=>?_
 have:=h.same k (by simp)
 simpa [h1,h2] using this
theorem IP.one {lc la:Array Bool} {Q Q':List Nat} {i:Nat} (h:IP lc la Q) (hi:i∈Q) (hs: ∀k,k∈Q'↔k∈Q/\k≠i):IP lc (la.setIfInBounds i true) Q':=by
 refine ⟨by simp [h.size],λk hk=>?_,λk hk=>?_⟩
 ·obtain ⟨h1,h2⟩:=(hs k).1 hk
  obtain ⟨g1,g2,g3⟩:=h.off k h1
  exact ⟨by simpa using g1,by rw [getD_set_ne false (Ne.symm h2)];exact g2,g3⟩
 ·by_cases e:i=k
  ·subst e
   obtain ⟨g1,g2,g3⟩:=h.off i hi
   rw [g3]
   simp [g1]
  ·rw [getD_set_ne false e]
   exact h.same k λhq=>hk ((hs k).2 ⟨hq,Ne.symm e⟩)
theorem IP.both {lc la:Array Bool} {Q:List Nat} {i:Nat} (h:IP lc la Q) (hi:i∉Q):IP (lc.setIfInBounds i true) (la.setIfInBounds i true) Q:=by
 refine ⟨by simp [h.size],λk hk=>?_,λk hk=>?_⟩
 ·obtain ⟨g1,g2,g3⟩:=h.off k hk
  have Ex:i≠k:= λe=>hi (by rw [e];exact hk)
  exact ⟨by simpa using g1,by rw [getD_set_ne false Ex];exact g2,by rw [getD_set_ne false Ex];exact g3⟩
 ·by_cases e:i=k
  ·subst e
   have hs:=h.same i hi
   have hz:=h.size
   by_cases hl:i<la.size
   ·simp [hl,hz▸hl]
   ·have Fz: ¬i<lc.size:=by omega
    simp [hl,Fz]
  ·rw [getD_set_ne false e,getD_set_ne false e];exact h.same k hk
theorem zT {dst:Option Tmp} {d:Nat} (h:(match dst with
  |some e=>!Nat.beq e d
  |none=>true)=true):dst≠some d:= λe=>by
 subst e
 simp at h
theorem EO {P:List (Nat×Nat×AV×OB)} {K:St->Prop} (hP: ∀a∈P,∃o,ops[a.1]?=some o/\Zs T o=some a.2):
  ∀(n f:Nat) (Q:List (Nat×Nat×AV×OB)) (lc la:Array Bool) (s t:St),n=f+Q.length->UO T Γ ops P K f lc s->sB (Q.map (·.2)) s t->IP lc la (Q.map (·.1))->(∀a∈Q,a∈P)->
   (Q.Pairwise λa c=>a.2.1≠c.2.1/\a.1≠c.1)->Ti ops la->(∀a∈Q,∀x,Region.waitsFor .any ops a.1 x=true->la.getD x false=true)->anyS T Γ ops K n la t:=by
 intro n
 induction n with
 |zero=>
  intro f Q lc la s t hn hC hp hb hQ hpw Ly hw
  have hf:f=0:=by omega
  have hq:Q= []:=List.eq_nil_of_length_eq_zero (by omega)
  subst hf hq
  have hp:s=t:=hp
  subst hp
  rw [hb.nil]
  exact hC
 |succ n ih=>
  intro f Q lc la s t hn hC hp hb hQ hpw Ly hw
  refine ⟨?_,λi hi=>?_⟩
  ·cases Q with
   |nil=>
    rw [hb.nil]
    cases f with
    |zero=>simp at hn
    |succ f=>exact hC.1
   |cons a Q=>
    obtain ⟨o,ho,_⟩:=hP a (hQ a (by simp))
    obtain ⟨g1,g2,_⟩:=hb.off a.1 (by simp)
    have:a.1∈Region.ready .any ops la:=mem_ready.2 ⟨getD_in g1 g2,o,ho,λe he hbd=>hw a (by simp) e.on (by
     unfold Region.waitsFor
     rw [ho]
     exact Array.any_eq_true'.2 ⟨e,he,by simp [hbd]⟩)⟩
    intro e
    rw [e] at this
    cases this
  ·by_cases hiQ:i∈Q.map (·.1)
   ·obtain ⟨a,ha,rfl⟩:=List.mem_map.1 hiQ
    obtain ⟨Q1,Q2,rfl⟩:=List.append_of_mem ha
    obtain ⟨o,ho,hal⟩:=hP a (hQ a ha)
    obtain ⟨_,_,Te⟩:=Zt (Γ:=Γ) (ops:=ops) hal
    have KL:=List.pairwise_append.1 hpw
    have Ab2:=List.pairwise_cons.1 KL.2.1
    rw [List.map_append,List.map_cons] at hp
    have hL: ∀p∈Q1.map (·.2)++a.2::Q2.map (·.2),mz p.1 p.2.1 p.2.2:= λp tq=>by
     have:p∈(Q1++a::Q2).map (·.2):=by rw [List.map_append,List.map_cons];exact tq
     obtain ⟨c,hc,rfl⟩:=List.mem_map.1 this
     obtain ⟨o',_,Af8⟩:=hP c (hQ c hc)
     exact (Zt (Γ:=Γ) (ops:=ops) Af8).2.1
    obtain ⟨p1,p2⟩:=s8 _ hp hL λp tq=>by
     obtain ⟨c,hc,rfl⟩:=List.mem_map.1 tq
     exact (KL.2.2 c hc a (by simp)).1
    refine ⟨o,_,ho,Te t p1,ih f (Q1++Q2) lc _ s _ ?_ hC (by rw [List.map_append];exact p2) (hb.one hiQ λk=>?_) (λc hc=>hQ c ?_) ?_ (Ly.set hi) λc hc x hx=>getD_set_true (hw c ?_ x hx)⟩
    ·simp only [List.length_append,List.length_cons] at hn⊢;omega
    ·simp only [List.map_append,List.map_cons,List.mem_append,List.mem_cons]
     constructor
     ·intro h
      rcases h with h|h
      ·obtain ⟨c,hc,rfl⟩:=List.mem_map.1 h
       exact ⟨.inl h,(KL.2.2 c hc a (by simp)).2⟩
      ·obtain ⟨c,hc,rfl⟩:=List.mem_map.1 h
       exact ⟨.inr (.inr h),Ne.symm (Ab2.1 c hc).2⟩
     ·rintro ⟨h|h|h,Ex⟩
      ·exact .inl h
      ·exact absurd h Ex
      ·exact .inr h
    ·rcases List.mem_append.1 hc with hc|hc
     ·exact List.mem_append_left _ hc
     ·exact List.mem_append_right _ (List.mem_cons_of_mem _ hc)
    ·exact List.pairwise_append.2 ⟨KL.1,Ab2.2,λc hc e he=>KL.2.2 c hc e (List.mem_cons_of_mem _ he)⟩
    ·rcases List.mem_append.1 hc with hc|hc
     ·exact List.mem_append_left _ hc
     ·exact List.mem_append_right _ (List.mem_cons_of_mem _ hc)
   ·have hic:=hb.ready hi hiQ
    cases f with
    |zero=>
     rw [hC.1] at hic
     cases hic
    |succ f=>
     obtain ⟨o,s',ho,eo,he,eP⟩:=hC.2 i hic
     have QG: ∀a∈Q,gA ops 5 i a.1=false:= λa ha=>by
      cases hwt:gA ops 5 i a.1 with
      |false=>rfl
      |true=>
       have h1:=fp Ly _ i (λx hx=>cQ hi hx) hwt
       rw [(hb.off a.1 (List.mem_map.2 ⟨a,ha,rfl⟩)).2.1] at h1
       cases h1
     have key: ∃t',Ch T Γ ops t o=some t'/\sB (Q.map (·.2)) s' t':=by
      unfold zV at eo
      rw [Bool.or_eq_true,Bool.and_eq_true] at eo
      rcases eo with eo|⟨h1,h2⟩
      ·cases Q with
       |nil=>
        have hp:s=t:=hp
        subst hp
        exact ⟨s',he,rfl⟩
       |cons a Q=>
        have:=List.all_eq_true.1 eo a (hQ a (by simp))
        rw [QG a (by simp)] at this
        cases this
      ·obtain ⟨t',g1,g2,_⟩:=rZ (T:=T) (ops:=ops) _ s t s' hp (λq hq=>by
        obtain ⟨a,ha,rfl⟩:=List.mem_map.1 hq
        obtain ⟨o',_,hal⟩:=hP a (hQ a ha)
        have h3:=List.all_eq_true.1 h2 a (hQ a ha)
        rw [QG a ha,Bool.false_or,Bool.and_eq_true] at h3
        exact ⟨(Zt (Γ:=Γ) (ops:=ops) hal).2.1,h3.1,zT h3.2⟩) h1 he
       exact ⟨t',g1,g2⟩
     obtain ⟨t',g1,g2⟩:=key
     exact ⟨o,t',ho,g1,ih f Q _ _ s' t' (by omega) eP g2 (hb.both hiQ) hQ hpw (Ly.set hi) λc hc x hx=>getD_set_true (hw c hc x hx)⟩
def Ru (T:Tab) (ops:Array Oper) (Ac:Array Bool):List (Nat×Nat×AV×OB):=(Region.ready .any ops Ac).filterMap λi=>((ops[i]?).bind (Zs T)).map λr=>(i,r)
theorem sH {Ac:Array Bool} {a:Nat×Nat×AV×OB} (h:a∈Ru T ops Ac):a.1∈Region.ready .any ops Ac/\ ∃o,ops[a.1]?=some o/\Zs T o=some a.2:=by
 unfold Ru at h
 obtain ⟨i,hi,he⟩:=List.mem_filterMap.1 h
 cases ho:ops[i]? with
 |none=>rw [ho] at he;cases he
 |some o=>
  rw [ho] at he
  simp only [Option.bind_some,Option.map_eq_some_iff] at he
  obtain ⟨r,h1,rfl⟩:=he
  exact ⟨hi,o,ho,h1⟩
theorem vY:Ti ops (Array.replicate ops.size false):= λk a hk _=>by
 rw [getD_replicate_false] at hk
 cases hk
theorem Zz (q:Bool): ∀(l:List Nat) (Ac:Array Bool),Ti ops Ac->Ti ops (Ec (Es q ops l Ac) Ac)
 | [],Ac,h=>h
 |i::r,Ac,h=>by
  simp only [Es]
  split
  ·rename_i hc
   rw [Bool.and_eq_true,Bool.and_eq_true] at hc
   have hi:i∈Region.ready .any ops Ac:=by simpa using hc.2.1
   exact Zz q r _ (h.set hi)
  ·exact Zz q r Ac h
theorem cB: ∀(l:List Nat) (Ac:Array Bool),(Ec l Ac).size=Ac.size
 | [],_=>rfl
 |i::r,Ac=>by simp only [Ec];rw [cB r];simp
theorem ix: ∀(l:List Nat) (Ac:Array Bool) (k:Nat),k∈l->k<Ac.size->(Ec l Ac).getD k false=true
 |i::r,Ac,k,h,hk=>by
  simp only [Ec]
  by_cases hr:k∈r
  ·exact ix r _ k hr (by simpa using hk)
  ·have:k=i:=(List.mem_cons.1 h).resolve_right hr
   subst this
   have hs: ∀(l:List Nat) (A:Array Bool),A.getD k false=true->(Ec l A).getD k false=true:=by
    intro l
    induction l with
    |nil=>exact λA h=>h
    |cons j l ih=>exact λA h=>ih _ (getD_set_true h)
   exact hs r _ (by simp [hk])
theorem eU: ∀(l:List Nat) (Ac:Array Bool) (k:Nat),k∉l->(Ec l Ac).getD k false=Ac.getD k false
 | [],_,_,_=>rfl
 |i::r,Ac,k,h=>by
  simp only [Ec]
  rw [eU r _ k λhk=>h (List.mem_cons_of_mem _ hk),getD_set_ne false (λe=>h (by rw [e];simp))]
theorem PJ {Ac:Array Bool} {Q:List Nat} (h: ∀i∈Q,i∈Region.ready .any ops Ac):IP (Ec Q Ac) Ac Q:=by
 have hr: ∀i∈Q,i<Ac.size/\Ac.getD i false=false:= λi hi=>by
  have h1:=(mem_ready.1 (h i hi)).1
  refine ⟨?_,getD_both h1⟩
  rcases Nat.lt_or_ge i Ac.size with h'|h'
  ·exact h'
  ·simp [Array.getElem?_eq_none h'] at h1
 exact ⟨(cB Q Ac).symm,λk hk=>⟨(hr k hk).1,(hr k hk).2,ix Q Ac k hk (hr k hk).1⟩,λk hk=>(eU Q Ac k hk).symm⟩
theorem xG: ∀(Q:List (Nat×Nat×AV×OB)) (t s:St),(∀a∈Q,∃o,ops[a.1]?=some o/\Zs T o=some a.2)->(∀a∈Q,Ed a.2.1 t)->(Q.Pairwise λa c=>a.2.1≠c.2.1)->Ix T Γ ops (Q.map (·.1)) t=some s->sB (Q.map (·.2)) s t
 | [],t,s,_,_,_,h=>by
  have h:some t=some s:=h
  exact (Option.some.inj h).symm
 |a::Q,t,s,hQ,hn,hp,h=>by
  obtain ⟨o,ho,hal⟩:=hQ a (by simp)
  obtain ⟨_,hL,Te⟩:=Zt (Γ:=Γ) (ops:=ops) hal
  obtain ⟨vr,FG⟩:=List.pairwise_cons.1 hp
  simp only [List.map_cons,Ix,ho] at h
  rw [Te t (hn a (by simp))] at h
  refine ⟨hn a (by simp),xG Q _ s (λc hc=>hQ c (List.mem_cons_of_mem _ hc)) (λc hc=>?_) FG h⟩
  exact (hn c (List.mem_cons_of_mem _ hc)).plus (Ne.symm (vr c hc)) (λh=>vr c hc (hL.v1 _ h).symm) (by rw [hL.b1];simp)
end
end Go.Proofs.YtfolipnappekaaaGreat
