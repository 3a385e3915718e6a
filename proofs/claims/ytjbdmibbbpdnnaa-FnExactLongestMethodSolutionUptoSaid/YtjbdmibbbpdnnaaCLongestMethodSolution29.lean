/-
  Part 30 of the proof that the statement FnExactLongestMethodSolution holds.
-/
import Derived.Test.YtjbdmibbbpdnnaaCLongestMethodSolution28
namespace Go.Proofs.Ytjbdmibbbpdnnaa
open Go.RowKit
def Ex (d:Nat) (v:AV) (b:OB) (st:St):St:= {tmps:=Nm st.tmps d v,heap:=Jd st.heap d b}
def ji (d:Nat) (st:St):Bool:=(st.get d).refs.isEmpty&&((st.tmps.all λv=>!v.refs.contains d)&&st.heap.all λp=>!Nat.beq p.1 d&&!p.2.refs.contains d)
structure Ei (d:Nat) (st:St):Prop where
 own:(st.get d).refs= []
 tmps: ∀v∈st.tmps,d∉v.refs
 heap: ∀p∈st.heap,p.1≠d/\d∉p.2.refs
theorem mM {d:Nat} {st:St} (h:ji d st=true):Ei d st:=by
 unfold ji at h
 rw [Bool.and_eq_true,Bool.and_eq_true,List.all_eq_true,List.all_eq_true] at h
 obtain ⟨h0,h⟩:=h
 refine ⟨List.isEmpty_iff.1 h0,λv hv=>?_,λp hp=>?_⟩
 ·have:=h.1 v hv
  intro hd
  rw [List.contains_iff_mem.2 hd] at this
  cases this
 ·have:=h.2 p hp
  rw [Bool.and_eq_true] at this
  refine ⟨λe=>?_,λhd=>?_⟩
  ·have h1:=this.1
   rw [e,Nat.beq_refl] at h1
   cases h1
  ·have h1:=this.2
   rw [List.contains_iff_mem.2 hd] at h1
   cases h1
theorem CW {d:Nat} {st:St} (h:Ei d st):ji d st=true:=by
 unfold ji
 rw [Bool.and_eq_true,Bool.and_eq_true,List.all_eq_true,List.all_eq_true]
 refine ⟨by rw [h.own];rfl,λv hv=>?_,λp hp=>?_⟩
 ·rw [Bool.not_eq_true',<-Bool.not_eq_true,List.contains_iff_mem];exact h.tmps v hv
 ·rw [Bool.and_eq_true]
  refine ⟨?_,?_⟩
  ·rw [Bool.not_eq_true',<-Bool.not_eq_true]
   exact λe=>(h.heap p hp).1 (Nat.eq_of_beq_eq_true e)
  ·rw [Bool.not_eq_true',<-Bool.not_eq_true,List.contains_iff_mem];exact (h.heap p hp).2
structure lD (d:Nat) (v:AV) (b:OB):Prop where
 v1: ∀l,l∈v.refs->l=d
 b1:b.refs= []
 v2: ∀l,l≠d->v.map (Az l)=v
 b2: ∀l,b.map (Az l)=b
theorem Xt {α:Type} : ∀(xs:List α) (d t:Nat) (v x:α),d≠t->(Nm xs d v).getD t x=xs.getD t x
 | [],_,_,_,_,_=>rfl
 |y::r,0,0,_,_,h=>absurd rfl h
 |y::r,0,t+1,_,_,_=>by simp [Nm]
 |y::r,d+1,0,_,_,_=>by simp [Nm]
 |y::r,d+1,t+1,v,x,h=>by simpa [Nm] using Xt r d t v x (by omega)
theorem jy {α:Type} : ∀(xs:List α) (d e:Nat) (v w:α),d≠e->Nm (Nm xs d v) e w=Nm (Nm xs e w) d v
 | [],_,_,_,_,_=>rfl
 |y::r,0,0,_,_,h=>absurd rfl h
 |y::r,0,e+1,_,_,_=>rfl
 |y::r,d+1,0,_,_,_=>rfl
 |y::r,d+1,e+1,v,w,h=>by simp only [Nm];rw [jy r d e v w (by omega)]
theorem pV: ∀(H:List (Nat×OB)) (d l:Nat) (b:OB),d≠l->Ae (Jd H d b) l=Ae H l
 | [],d,l,b,h=>by simp [Jd,Ae,h]
 |(k,c)::r,d,l,b,h=>by
  simp only [Jd]
  split
  ·simp only [Ae];rw [if_neg h]
  ·simp only [Ae]
   split
   ·rfl
   ·exact pV r d l b h
theorem pZ: ∀(H:List (Nat×OB)) (d e:Nat) (b c:OB),d≠e->Jd (Jd H d b) e c=Jd (Jd H e c) d b
 | [],d,e,b,c,h=>by
  simp only [Jd]
  by_cases h1:e<d
  ·rw [if_pos h1,if_neg (by omega)]
  ·rw [if_neg h1,if_pos (by omega)]
 |(k,a)::r,d,e,b,c,h=>by
  simp only [Jd]
  by_cases h1:d<k<;>by_cases h2:e<k
  ·rw [if_pos h1,if_pos h2]
   simp only [Jd]
   by_cases h3:e<d
   ·rw [if_pos h3,if_neg (by omega),if_pos h1]
   ·rw [if_neg h3,if_pos h2,if_pos (by omega)]
  ·rw [if_pos h1,if_neg h2]
   simp only [Jd]
   rw [if_neg (by omega),if_neg h2,if_pos h1]
  ·rw [if_neg h1,if_pos h2]
   simp only [Jd]
   rw [if_pos h2,if_neg (by omega),if_neg h1]
  ·rw [if_neg h1,if_neg h2]
   simp only [Jd]
   rw [if_neg h1,if_neg h2,pZ r d e b c h]
theorem qO: ∀(H:List (Nat×OB)) (d l:Nat) (b c:OB),d≠l->Xa (Jd H d b) l c=Jd (Xa H l c) d b
 | [],d,l,b,c,h=>by simp [Jd,Xa,h]
 |(k,a)::r,d,l,b,c,h=>by
  simp only [Jd,Xa]
  by_cases h1:d<k<;>by_cases h2:k=l
  ·rw [if_pos h1,if_pos h2]
   simp only [Xa,Jd]
   rw [if_neg h,if_pos h2,if_pos h1]
  ·rw [if_pos h1,if_neg h2]
   simp only [Xa,Jd]
   rw [if_neg h,if_neg h2,if_pos h1]
  ·rw [if_neg h1,if_pos h2]
   simp only [Xa,Jd]
   rw [if_pos h2,if_neg h1]
  ·rw [if_neg h1,if_neg h2]
   simp only [Xa,Jd]
   rw [if_neg h2,if_neg h1,qO r d l b c h]
theorem jU {l:Nat} : ∀ {c:AC},l∉c.refs->Az l c=c:=by
 intro c h
 cases c<;>simp only [Az]<;>simp only [AC.refs,List.mem_singleton] at h
 case clo f Bx=>rw [if_neg (by simpa using h)]
 all_goals (first|rfl|rw [if_neg (Ne.symm h)])
theorem Tb {l:Nat} : ∀ {cs:List AC},l∉cs.flatMap AC.refs->cs.map (Az l)=cs
 | [],_=>rfl
 |c::r,h=>by
  rw [List.flatMap_cons,List.mem_append] at h
  rw [List.map_cons,jU (λhh=>h (.inl hh)),Tb (λhh=>h (.inr hh))]
theorem uO {l:Nat} : ∀ {v:AV},l∉v.refs->v.map (Az l)=v
 | .at a,h=>by simp only [AV.map];rw [jU h]
 | .agg cs,h=>by simp only [AV.map];rw [Tb h]
 | .Tv _ _ _,_=>rfl
 | .Iz ps,h=>by
  simp only [AV.map]
  congr 1
  simp only [AV.refs] at h
  induction ps with
  |nil=>rfl
  |cons p r ih=>
   rw [List.flatMap_cons,List.mem_append] at h
   rw [List.map_cons,Tb (λhh=>h (.inl hh)),ih (λhh=>h (.inr hh))]
theorem uP {l:Nat} : ∀ {b:OB},l∉b.refs->b.map (Az l)=b
 | .arr _ _ _ _ _,_=>rfl
 | .Dh _ _ _,_=>rfl
 | .var _ vs,h=>by simp only [OB.map];rw [Tb h]
 | .Al _ _ _ _ _,_=>rfl
 | .Oh _ _,_=>rfl
theorem uD {l:Nat} : ∀ {H:List (Nat×OB)},(∀p∈H,p.1≠l)->Sl H l=H
 | [],_=>rfl
 |(k,b)::r,h=>by
  simp only [Sl]
  rw [if_neg (h (k,b) (by simp)),uD λp hp=>h p (by simp [hp])]
theorem Ei.forget {l:Nat} {st:St} (h:Ei l st):st.forget l=st:=by
 have e1:st.tmps.map (λv=>v.map (Az l))=st.tmps:=(List.map_congr_left λv hv=>uO (h.tmps v hv)).trans (List.map_id _)
 have e2:st.heap.map (λp=>(p.1,p.2.map (Az l)))=st.heap:=(List.map_congr_left λp hp=>by rw [uP (h.heap p hp).2];rfl).trans (List.map_id _)
 unfold St.forget St.Gh
 simp only [e1,e2]
 rw [uD λp hp=>(h.heap p hp).1]
theorem Ei.new {l:Nat} {st:St} (h:Ei l st) (b:OB) (v:AV):(st.new l b).put (some l) v=Ex l v b st:=by
 unfold St.new
 rw [h.forget]
 rfl
theorem mJ {α:Type} : ∀ {xs:List α} {d:Nat} {v x:α},x∈Nm xs d v->x∈xs\/x=v
 | [],_,_,_,h=>by cases h
 |y::r,0,v,x,h=>by
  rcases List.mem_cons.1 h with h|h
  ·exact .inr h
  ·exact .inl (List.mem_cons_of_mem _ h)
 |y::r,d+1,v,x,h=>by
  rcases List.mem_cons.1 h with h|h
  ·exact .inl (by rw [h];simp)
  ·exact (mJ h).imp (List.mem_cons_of_mem _) id
theorem vO: ∀ {H:List (Nat×OB)} {d:Nat} {b:OB} {p:Nat×OB},p∈Jd H d b->p∈H\/p=(d,b)
 | [],d,b,p,h=> .inr (by simpa [Jd] using h)
 |(k,c)::r,d,b,p,h=>by
  simp only [Jd] at h
  split at h
  ·rcases List.mem_cons.1 h with h|h
   ·exact .inr h
   ·exact .inl h
  ·rcases List.mem_cons.1 h with h|h
   ·exact .inl (by rw [h];simp)
   ·exact (vO h).imp (List.mem_cons_of_mem _) id
theorem MM {d:Nat} {v:AV} {b:OB} {st:St} {x:Operand} (h:x≠ .tmp d):(Ex d v b st).ev x=st.ev x:=by
 cases x with
 |tmp t=>exact Xt _ _ _ _ _ (λe=>h (by rw [e]))
 |_=>rfl
theorem zD {d l:Nat} {v:AV} {b:OB} {st:St} (h:d≠l):(Ex d v b st).at l=st.at l:=pV _ _ _ _ h
theorem GP {d e:Nat} {v u:AV} {b:OB} {st:St} (h:d≠e):(Ex d v b st).put (some e) u=Ex d v b (st.put (some e) u):=by
 unfold Ex St.put
 simp only
 rw [jy _ _ _ _ _ h]
theorem BH {d l:Nat} {v:AV} {b c:OB} {st:St} (h:d≠l):(Ex d v b st).Ga l c=Ex d v b (st.Ga l c):=by
 unfold Ex St.Ga
 simp only
 rw [qO _ _ _ _ _ h]
theorem pE {d e:Nat} {v u:AV} {b c:OB} {st:St} (h:d≠e):Ex e u c (Ex d v b st)=Ex d v b (Ex e u c st):=by
 unfold Ex
 rw [jy _ _ _ _ _ h,pZ _ _ _ _ _ h]
theorem Ei.put {d:Nat} {st:St} {e:Nat} {u:AV} (h:Ei d st) (NM:e≠d) (hu:d∉u.refs):Ei d (st.put (some e) u):=
 ⟨by show (List.getD (Nm st.tmps e u) d .undef).refs= [];rw [Xt _ _ _ _ _ NM];exact h.own,λv hv=>(mJ hv).elim (h.tmps v) λe=>by rw [e];exact hu,h.heap⟩
theorem Ei.plus {d e:Nat} {u:AV} {c:OB} {st:St} (h:Ei d st) (NM:d≠e) (hu:d∉u.refs) (hc:d∉c.refs):Ei d (Ex e u c st):=
 ⟨by show (List.getD (Nm st.tmps e u) d .undef).refs= [];rw [Xt _ _ _ _ _ (Ne.symm NM)];exact h.own,λv hv=>(mJ hv).elim (h.tmps v) λe=>by rw [e];exact hu,λp hp=>(vO hp).elim (h.heap p) λe'=>by rw [e'];exact ⟨Ne.symm NM,hc⟩⟩
theorem Ei.UY {d e:Nat} {u:AV} {c:OB} {st:St} (h:Ei d (Ex e u c st)): ∀p∈st.heap,p.1≠d/\d∉p.2.refs:= λp hp=>h.heap p (by
 show p∈Jd st.heap e c
 generalize st.heap=H at hp
 induction H with
 |nil=>cases hp
 |cons q r ih=>
  obtain ⟨k,a⟩:=q
  simp only [Jd]
  split
  ·exact List.mem_cons_of_mem _ hp
  ·rcases List.mem_cons.1 hp with hp|hp
   ·rw [hp];simp
   ·exact List.mem_cons_of_mem _ (ih hp))
theorem l9 {st st':St} : ∀(τ:Ty) (cs:List AC),cs.all (·.settled)=true->Cp st' τ cs=Cp st τ cs:=by
 intro τ
 induction τ with
 |unit=>intro cs _;cases cs<;>rfl
 |pair a r gf dt=>
  intro cs h
  simp only [Cp]
  rw [List.all_eq_true] at h
  rw [gf _ (List.all_eq_true.2 λc hc=>h c (List.mem_of_mem_take hc)),dt _ (List.all_eq_true.2 λc hc=>h c (List.mem_of_mem_drop hc))]
 |_=>
  intro cs h
  rcases cs with _|⟨c,_|⟨c',cs⟩⟩
  ·rfl
  ·simp only [List.all_cons,List.all_nil,Bool.and_true] at h
   simp only [Cp]
   exact Ti h
  ·rfl
theorem aC {st st':St} {τ:Ty} {v:AV} (h:v.settled=true):Cr st' τ v=Cr st τ v:=by
 cases v with
 | «at»a=>
  have ha:a.settled=true:=h
  cases a<;>simp only [AC.settled,Bool.false_eq_true] at ha
  all_goals
   simp only [Cr]
   rw [Km rfl,Km rfl]
   rw [Ti (st:=st) (st':=st') rfl]
 |agg cs=>simp only [Cr];rw [l9 _ _ h]
 |Tv _ _ _=>rfl
 |Iz _=>rfl
theorem cZ {st st':St} : ∀(τ:Ty) (vs:List AV),vs.all (·.settled)=true->Bq st' τ vs=Bq st τ vs
 | .pair a r,v::vs,h=>by
  rw [List.all_cons,Bool.and_eq_true] at h
  simp only [Bq]
  rw [aC (st:=st) (st':=st') h.1,cZ r vs h.2]
 | .pair _ _,[],_=>rfl
 | .unit,[],_=>rfl
 | .unit,_::_,_=>rfl
 | .int _,vs,_=>by cases vs<;>rfl
 | .bool,vs,_=>by cases vs<;>rfl
 | .str,vs,_=>by cases vs<;>rfl
 | .slice _,vs,_=>by cases vs<;>rfl
 | .oslice _,vs,_=>by cases vs<;>rfl
 | .ptr _,vs,_=>by cases vs<;>rfl
 | .optr _,vs,_=>by cases vs<;>rfl
 | .smap _,vs,_=>by cases vs<;>rfl
 | .clo _ _,vs,_=>by cases vs<;>rfl
def Pb:AV->Bool
 | .at (.data _ _ _)=>true
 |_=>false
def cX (o:Oper):List Operand:=match o.op with
 | .move x=> [x]
 | .load _ x=> [x]
 | .call {callee:= .value (.func _),args, .. } =>args.toList
 | .insert _ m k x=> [m,k,x]
 | .buildSlice _ _ parts=>parts.toList.map (·.2)
 |_=> []
def cv (d:Nat):Operand->Bool
 | .tmp t=>!Nat.beq t d
 |_=>true
theorem CY {d:Nat} {x:Operand} (h:cv d x=true):x≠ .tmp d:= λe=>by
 subst e
 simp [cv] at h
def Pf (Γ:Env) (st:St) (o:Oper):Bool:=match o.guard with
 |some _=>false
 |none=>match o.op with
  | .move _=>true
  | .load _ x=>(match st.ev x with
   | .at (.Dx _ _)=>true
   |_=>false)
  | .call {callee:= .value (.func f),args, .. } =>(match Γ f with
   |some (.q _)=>true
   |_=>false)&&args.toList.all λx=>(st.ev x).settled
  | .insert _ m k x=>(match st.ev m with
   | .at (.Gi _)=>true
   |_=>false)&&Pb (st.ev k)&&(st.ev x).settled
  | .buildSlice _ _ parts=>(parts.toList.all λp=>Pb (st.ev p.2))&&(match o.dst with
   |some e=>ji e st
   |none=>false)
  |_=>false
theorem Ei.ev {d:Nat} {st:St} (h:Ei d st) (x:Operand):d∉(st.ev x).refs:=by
 cases x with
 |tmp t=>
  simp only [St.ev,St.get]
  rw [List.getD_eq_getElem?_getD]
  by_cases hl:t<st.tmps.length
  ·rw [List.getElem?_eq_getElem hl];exact h.tmps _ (List.getElem_mem hl)
  ·rw [List.getElem?_eq_none (Nat.le_of_not_lt hl)];simp [AV.refs,AC.refs]
 |const c=>
  simp only [St.ev]
  unfold gu
  split<;>simp [AV.refs,AC.refs]
 |func f=>simp [St.ev,AV.refs,AC.refs]
 |_=>simp [St.ev,AV.refs,AC.refs]
theorem uZ: ∀ {H:List (Nat×OB)} {l:Nat} {b:OB},Ae H l=some b->(l,b)∈H
 |(k,c)::r,l,b,h=>by
  simp only [Ae] at h
  split at h
  ·rename_i e;subst e;cases h;simp
  ·exact List.mem_cons_of_mem _ (uZ h)
section
variable {T:Tab} {Γ:Env} {ops:Array Oper} {d:Nat} {v:AV} {b:OB} {t:St}
theorem qy {e:Option Tmp} (h:e≠some d) (hn:Ei d t) {y:AV} (hy:d∉y.refs):(Ex d v b t).put e y=Ex d v b (t.put e y)/\Ei d (t.put e y):=by
 cases e with
 |none=>exact ⟨rfl,hn⟩
 |some k=>exact ⟨GP (λe=>h (by rw [e])),hn.put (λe=>h (by rw [e])) hy⟩
theorem cC {o:Oper} (hg:o.guard=none) (Xw:o.dst≠some d) (hn:Ei d t) {q:Option AV} (h1:evalOp T Γ (Ex d v b t) o=q.map λy=>(y,Ex d v b t)) (h2:evalOp T Γ t o=q.map λy=>(y,t)) (hq: ∀y,q=some y->d∉y.refs) {s':St}
  (he:Cm T Γ ops (Ex d v b t) o=some s'): ∃t',Cm T Γ ops t o=some t'/\s'=Ex d v b t'/\Ei d t':=by
 unfold Cm at he⊢
 rw [hg] at he⊢
 simp only at he⊢
 rw [h1] at he
 cases q with
 |none=>cases he
 |some y=>
  obtain ⟨p1,p2⟩:=qy (v:=v) (b:=b) Xw hn (hq y rfl)
  refine ⟨_,by rw [h2];rfl,?_,p2⟩
  simp only [Option.map_some,Option.some.injEq] at he
  rw [<-he,p1]
theorem Rk {l:List Operand} (hu:l.all (cv d)=true): ∀x∈l,(Ex d v b t).ev x=t.ev x:= λx hx=>MM (CY (List.all_eq_true.1 hu x hx))
theorem yp {dst:Option Tmp} {x:Operand} {ty:TypeId} {pos:String} {after:Array Edge} (hn:Ei d t) (hx:(Ex d v b t).ev x=t.ev x) (Xw:dst≠some d) {s':St}
  (he:Cm T Γ ops (Ex d v b t) {dst:=dst,op:= .move x,type:=ty,pos:=pos,after:=after,guard:=none} =some s'):
  ∃t',Cm T Γ ops t {dst:=dst,op:= .move x,type:=ty,pos:=pos,after:=after,guard:=none} =some t'/\s'=Ex d v b t'/\Ei d t':=
 cC rfl Xw hn (q:=some (t.ev x)) (by simp only [evalOp,Cl,hx]) (by simp only [evalOp,Cl]) (λy hy=>by cases hy;exact hn.ev x) he
def loadVar (T:Tab) (o:Option OB) (t0:TypeId) (i:Nat):Option AV:=match T.ty t0 with
 |some τ=>(match o with
  |some (.var _ vs)=>if τ.Ac then (if i+τ.size<=vs.length then some (.agg ((vs.drop i).take τ.size)) else none) else vs[i]?.map .at
  |_=>none)
 |none=>none
theorem dU {st:St} {t0:TypeId} {l i:Nat} :Kh T st t0 (.at (.Dx l i))=loadVar T (st.at l) t0 i:=by
 unfold Kh loadVar
 cases T.ty t0<;>rfl
theorem yk {dst:Option Tmp} {t0:TypeId} {x:Operand} {ty:TypeId} {pos:String} {after:Array Edge} (hn:Ei d t) (hx:(Ex d v b t).ev x=t.ev x) (Xw:dst≠some d) {l i:Nat} (hp:t.ev x= .at (.Dx l i)) {s':St}
  (he:Cm T Γ ops (Ex d v b t) {dst:=dst,op:= .load t0 x,type:=ty,pos:=pos,after:=after,guard:=none} =some s'):
  ∃t',Cm T Γ ops t {dst:=dst,op:= .load t0 x,type:=ty,pos:=pos,after:=after,guard:=none} =some t'/\s'=Ex d v b t'/\Ei d t':=by
 have hld:d≠l:= λe=>by
  have:=hn.ev x
  rw [hp,e] at this
  exact this (by simp [AV.refs,AC.refs])
 refine cC rfl Xw hn (q:=loadVar T (t.at l) t0 i) ?_ ?_ (λy hy=>?_) he
 ·simp only [evalOp,Cl,hx,hp]
  rw [dU,zD hld]
 ·simp only [evalOp,Cl,hp]
  rw [dU]
 ·unfold loadVar at hy
  split at hy
  ·split at hy
   ·rename_i vs hb
    have hr:d∉vs.flatMap AC.refs:=(hn.heap _ (uZ hb)).2
    have fq: ∀c∈vs,d∉c.refs:= λc hc hd=>hr (List.mem_flatMap.2 ⟨c,hc,hd⟩)
    split at hy
    ·split at hy
     ·cases hy
      intro hd
      obtain ⟨c,hc,hd⟩:=List.mem_flatMap.1 hd
      exact fq c (List.mem_of_mem_drop (List.mem_of_mem_take hc)) hd
     ·cases hy
    ·cases hv:vs[i]? with
     |none=>rw [hv] at hy;cases hy
     |some c=>
      rw [hv] at hy
      cases hy
      exact fq c (List.mem_of_getElem? hv)
   ·cases hy
  ·cases hy
theorem BK {l:List Operand} (hu:l.all (cv d)=true):l.map (Ex d v b t).ev=l.map t.ev:=List.map_congr_left λx hx=>Rk hu x hx
theorem xA {dst:Option Tmp} {f:FuncId} {args:Array Operand} {tys:Array TypeId} {ty:TypeId} {pos:String} {after:Array Edge} {sp:Spec} (Md:Γ f=some (.q sp)) (hn:Ei d t) (hx:args.toList.map (Ex d v b t).ev=args.toList.map t.ev) (Xw:dst≠some d)
  (hs:(args.toList.map t.ev).all (·.settled)=true) {s':St} (he:Cm T Γ ops (Ex d v b t) {dst:=dst,op:= .call {callee:= .value (.func f),args:=args,argTypes:=tys},type:=ty,pos:=pos,after:=after,guard:=none} =some s'):
  ∃t',Cm T Γ ops t {dst:=dst,op:= .call {callee:= .value (.func f),args:=args,argTypes:=tys},type:=ty,pos:=pos,after:=after,guard:=none} =some t'/\s'=Ex d v b t'/\Ei d t':=by
 have AG:Zx sp (args.toList.map t.ev)=false:=by unfold Zx;rw [hs];simp
 have xR: ∀st:St,Ji Γ st f (args.toList.map t.ev)=(match Bq t sp.arg (args.toList.map t.ev) with
   |none=>none
   |some (_,x)=>(sp.fn x).map λy=>if sp.Gb then .Tv (sp.fresh||sp.res.flat) sp.res y else .at (.data (sp.fresh||sp.res.flat) sp.res y)):= λst=>by
  unfold Ji
  rw [Md]
  simp only
  rw [hs,cZ (st:=t) _ _ hs]
  simp only [Bool.or_true,if_true]
  cases Bq t sp.arg (args.toList.map t.ev)<;>rfl
 refine cC rfl Xw hn (q:=Ji Γ t f (args.toList.map t.ev)) ?_ ?_ (λy hy=>?_) he
 ·simp only [evalOp,Cl,Md,hx,AG]
  rw [xR,xR t]
  simp
 ·simp only [evalOp,Cl,Md,AG]
  simp
 ·rw [xR t] at hy
  split at hy
  ·cases hy
  ·rename_i x _
   cases hf:sp.fn x with
   |none=>rw [hf] at hy;cases hy
   |some z=>
    rw [hf] at hy
    simp only [Option.map_some,Option.some.injEq] at hy
    rw [<-hy]
    split<;>simp [AV.refs,AC.refs]
def gZ (T:Tab) (o:Option OB) (t0:TypeId) (s:ByteArray) (vw:(v:Ty)->Option (Bool×v.den)):Option OB:=match T.mapOf t0 with
 |some v=>(match o,vw v with
  |some (.Oh v' f),some (_,y)=>if h:v'=v/\v.flat=true/\v.Ac=false then some (.Oh v (aB (h.1▸f:ByteArray->Option v.den) s y)) else none
  |_,_=>none)
 |none=>none
theorem dV {st:St} {t0:TypeId} {l:Nat} {fr:Bool} {s:ByteArray} {x:AV} :Et T st t0 (.at (.Gi l)) (.at (.data fr .str s)) x=(gZ T (st.at l) t0 s λv=>Cr st v x).map λc=>st.Ga l c:=by
 unfold Et gZ
 cases T.mapOf t0 with
 |none=>rfl
 |some v0=>
  simp only
  cases st.at l with
  |none=>rfl
  |some c=>
   cases c with
   |Oh v' f=>
    cases Cr st v0 x with
    |none=>rfl
    |some p=>
     simp only
     split<;>rfl
   |_=>rfl
theorem vL {o:Option OB} {t0:TypeId} {s:ByteArray} {vw:(v:Ty)->Option (Bool×v.den)} {c:OB} (h:gZ T o t0 s vw=some c):c.refs= []:=by
 unfold gZ at h
 split at h
 ·split at h
  ·split at h
   ·cases h;rfl
   ·cases h
  ·cases h
 ·cases h
theorem m4 {st:St} {t0:TypeId} {m k x:AV} {s':St} (h:Et T st t0 m k x=some s'): ∃l fr s,m= .at (.Gi l)/\k= .at (.data fr .str s):=by
 unfold Et at h
 split at h
 ·exact ⟨_,_,_,rfl,rfl⟩
 ·cases h
theorem vP: ∀ {H:List (Nat×OB)} {l:Nat} {c:OB} {p:Nat×OB},p∈Xa H l c->p∈H\/(p.2=c/\p.1=l/\ ∃c',(l,c')∈H)
 |(k,a)::r,l,c,p,h=>by
  simp only [Xa] at h
  split at h
  ·rename_i e
   rcases List.mem_cons.1 h with h|h
   ·subst h;exact .inr ⟨rfl,e,a,by rw [e];simp⟩
   ·exact .inl (List.mem_cons_of_mem _ h)
  ·rcases List.mem_cons.1 h with h|h
   ·exact .inl (by rw [h];simp)
   ·exact (vP h).imp (List.mem_cons_of_mem _) λ⟨h1,h2,c',h3⟩=>⟨h1,h2,c',List.mem_cons_of_mem _ h3⟩
theorem Ei.Ga {st:St} {l:Nat} {c:OB} (h:Ei d st) (hc:d∉c.refs):Ei d (st.Ga l c):=
 ⟨h.own,h.tmps,λp hp=>(vP hp).elim (h.heap p) λ⟨h1,h2,c',h3⟩=>⟨by rw [h2];exact (h.heap _ h3).1,by rw [h1];exact hc⟩⟩
theorem rV {dst:Option Tmp} {t0:TypeId} {m k x:Operand} {ty:TypeId} {pos:String} {after:Array Edge} (hn:Ei d t) (hm:(Ex d v b t).ev m=t.ev m) (hk:(Ex d v b t).ev k=t.ev k) (hx:(Ex d v b t).ev x=t.ev x) (Xw:dst≠some d)
  (hs:(t.ev x).settled=true) {s':St} (he:Cm T Γ ops (Ex d v b t) {dst:=dst,op:= .insert t0 m k x,type:=ty,pos:=pos,after:=after,guard:=none} =some s'):
  ∃t',Cm T Γ ops t {dst:=dst,op:= .insert t0 m k x,type:=ty,pos:=pos,after:=after,guard:=none} =some t'/\s'=Ex d v b t'/\Ei d t':=by
 unfold Cm at he⊢
 simp only [evalOp,hm,hk,hx] at he⊢
 cases MH:Et T (Ex d v b t) t0 (t.ev m) (t.ev k) (t.ev x) with
 |none=>rw [MH] at he;cases he
 |some s1=>
  rw [MH] at he
  simp only [Option.map_some,Option.some.injEq] at he
  obtain ⟨l,fr,s,e1,e2⟩:=m4 MH
  have hld:d≠l:= λe=>by
   have:=hn.ev m
   rw [e1,e] at this
   exact this (by simp [AV.refs,AC.refs])
  rw [e1,e2,dV,zD hld] at MH
  have hvw:(λv0=>Cr (Ex d v b t) v0 (t.ev x))= λv0=>Cr t v0 (t.ev x):=funext λv0=>aC hs
  rw [hvw] at MH
  rw [e1,e2,dV]
  cases ho:gZ T (t.at l) t0 s λv0=>Cr t v0 (t.ev x) with
  |none=>rw [ho] at MH;cases MH
  |some c=>
   rw [ho] at MH
   simp only [Option.map_some,Option.some.injEq] at MH
   have hc:=vL ho
   have lq:Ei d (t.Ga l c):=hn.Ga (by rw [hc];simp)
   obtain ⟨p1,p2⟩:=qy (v:=v) (b:=b) (y:= .undef) Xw lq (by simp [AV.refs,AC.refs])
   refine ⟨_,rfl,?_,p2⟩
   rw [<-he,<-MH,BH hld,p1]
theorem Ei.back {e:Nat} (h:Ei e (Ex d v b t)) (NM:e≠d) (hn:Ei d t):Ei e t:=by
 have hg: ∀k,k≠d->(Ex d v b t).get k=t.get k:= λk hk=>Xt _ _ _ _ _ (Ne.symm hk)
 refine ⟨by rw [<-hg e NM];exact h.own,λu hu hd=>?_,h.UY⟩
 obtain ⟨k,hk,rfl⟩:=List.mem_iff_getElem.1 hu
 have e1:t.get k=t.tmps[k]:=by unfold St.get;rw [List.getD_eq_getElem?_getD,List.getElem?_eq_getElem hk];rfl
 by_cases RE:k=d
 ·subst RE
  have:=hn.own
  rw [e1] at this
  rw [this] at hd
  cases hd
 ·have h1:=h.ev (.tmp k)
  have h2:(Ex d v b t).ev (.tmp k)=t.tmps[k]:=by show (Ex d v b t).get k=_;rw [hg k RE,e1]
  rw [h2] at h1
  exact h1 hd
def fH (e:Ty):Nat->List (Nat×AV)->Option (Bool×Bool×List e.den)
 |_,[]=>some (true,true,[])
 |i,(j,x)::r=>if i=j then match Cr ⟨[],[]⟩ e x with
  |some (fr,y)=>match fH e (i+1) r with
   |some (Oo,LG,ys)=>some (fr&&Oo,Mn ⟨[],[]⟩ x&&e.tree&&LG,y::ys)
   |none=>none
  |none=>none
  else none
theorem Xi {st:St} {e:Ty} : ∀(l:List (Nat×Operand)) (i:Nat),(l.all λp=>Pb (st.ev p.2))=true->Gq e i l st=(fH e i (l.map λp=>(p.1,st.ev p.2))).map λp=>(p.1,p.2.1,p.2.2,st)
 | [],i,_=>rfl
 |(j,x)::r,i,h=>by
  rw [List.all_cons,Bool.and_eq_true] at h
  have hx:Pb (st.ev x)=true:=h.1
  simp only [Gq,fH,List.map_cons]
  split
  ·generalize hxv:st.ev x=xv at hx
   unfold Pb at hx
   split at hx
   ·rename_i fr τ z
    have UF:settle st (.at (.data fr τ z))=some (.at (.data fr τ z),st):=rfl
    rw [UF]
    simp only
    rw [aC (st:=⟨[],[]⟩) (st':=st) (v:= .at (.data fr τ z)) rfl]
    cases Cr ⟨[],[]⟩ e (.at (.data fr τ z)) with
    |none=>rfl
    |some p=>
     simp only
     rw [Xi r (i+1) h.2]
     cases fH e (i+1) (r.map λp=>(p.1,st.ev p.2)) with
     |none=>rfl
     |some q=>rfl
   ·cases hx
  ·rfl
def rowOf (T:Tab) (t0:TypeId) (len:Nat) (parts:List (Nat×AV)) (dst:Nat):Option (AV×OB):=match Xu T t0 with
 |some _=>none
 |none=>match T.elem t0 with
  |none=>none
  |some te=>match T.ty te with
   |none=>none
   |some e=>if parts.length=len/\len<=64/\e.size<=64/\dst<Aj then (fH e 0 parts).map λp=>(.at (.own dst 0 len), .arr ((T.m8||e.flat)&&p.1) (T.tw&&p.2.1) e te p.2.2) else none
theorem bC {st:St} {t0:TypeId} {len dst:Nat} {parts:Array (Nat×Operand)} (h:(parts.toList.all λp=>Pb (st.ev p.2))=true):
  Ep T st dst t0 len parts=(rowOf T t0 len (parts.toList.map λp=>(p.1,st.ev p.2)) dst).map λr=>(r.1,st.new dst r.2):=by
 unfold Ep rowOf
 cases Xu T t0 with
 |some p=>
  obtain ⟨te,e⟩:=p
  simp only [Option.map_none]
  split
  ·rename_i x hp
   rw [hp,List.all_cons,Bool.and_eq_true] at h
   have hx:Pb (st.ev x)=true:=h.1
   unfold Pb at hx
   split at hx
   ·rename_i hv;simp only [hv]
   ·cases hx
  ·rfl
 |none=>
  simp only
  unfold Hk
  cases T.elem t0 with
  |none=>rfl
  |some te=>
   simp only
   cases T.ty te with
   |none=>rfl
   |some e=>
    simp only [List.length_map,Array.length_toList]
    split
    ·rw [Xi _ 0 h]
     cases fH e 0 (parts.toList.map λp=>(p.1,st.ev p.2))<;>rfl
    ·rfl
theorem kA {t0:TypeId} {len dst:Nat} {parts:List (Nat×AV)} {r:AV×OB} (h:rowOf T t0 len parts dst=some r):lD dst r.1 r.2:=by
 unfold rowOf at h
 split at h
 ·cases h
 ·split at h
  ·cases h
  ·split at h
   ·cases h
   ·split at h
    ·rename_i e _ _
     cases hp:fH e 0 parts with
     |none=>rw [hp] at h;cases h
     |some p=>
      rw [hp] at h
      simp only [Option.map_some,Option.some.injEq] at h
      subst h
      exact ⟨λl hl=>by simpa [AV.refs,AC.refs] using hl,rfl,λl hl=>by simp only [AV.map,Az];rw [if_neg (Ne.symm hl)],λl=>rfl⟩
    ·cases h
theorem um {e:Nat} {t0:TypeId} {len:Nat} {parts:Array (Nat×Operand)} {ty:TypeId} {pos:String} {after:Array Edge} (_hl:lD d v b) (hn:Ei d t) (hx: ∀p∈parts.toList,(Ex d v b t).ev p.2=t.ev p.2) (Xw:e≠d)
  (hp:(parts.toList.all λp=>Pb (t.ev p.2))=true) (Er:Ei e (Ex d v b t)) {s':St} (he:Cm T Γ ops (Ex d v b t) {dst:=some e,op:= .buildSlice t0 len parts,type:=ty,pos:=pos,after:=after,guard:=none} =some s'):
  ∃t',Cm T Γ ops t {dst:=some e,op:= .buildSlice t0 len parts,type:=ty,pos:=pos,after:=after,guard:=none} =some t'/\s'=Ex d v b t'/\Ei d t':=by
 have TW:=Er.back Xw hn
 have AH:(parts.toList.all λp=>Pb ((Ex d v b t).ev p.2))=true:=List.all_eq_true.2 λp rQ=>by rw [hx p rQ];exact List.all_eq_true.1 hp p rQ
 have hm:(parts.toList.map λp=>(p.1,(Ex d v b t).ev p.2))=parts.toList.map λp=>(p.1,t.ev p.2):=List.map_congr_left λp rQ=>by rw [hx p rQ]
 unfold Cm at he⊢
 simp only [evalOp] at he⊢
 rw [bC AH,hm] at he
 rw [bC hp]
 cases hr:rowOf T t0 len (parts.toList.map λp=>(p.1,t.ev p.2)) e with
 |none=>rw [hr] at he;cases he
 |some r=>
  rw [hr] at he
  have hL:=kA hr
  simp only [Option.map_some,Option.some.injEq] at he
  rw [Er.new] at he
  refine ⟨Ex e r.1 r.2 t,by simp only [Option.map_some];rw [TW.new],?_,hn.plus (Ne.symm Xw) (λh=>Xw (hL.v1 _ h).symm) (by rw [hL.b1];simp)⟩
  rw [<-he,pE (Ne.symm Xw)]
def SN:Operand->AV
 | .const c=>gu c
 |_=> .undef
theorem SO {st:St} {x:Operand} (h:Pb (SN x)=true):st.ev x=SN x:=by
 cases x<;>first|rfl|cases h
def Zc (T:Tab) (o:Oper):Option (Nat×AV×OB):=match o.guard with
 |some _=>none
 |none=>match o.dst with
  |none=>none
  |some d=>match o.op with
   | .buildSlice t0 len parts=>if (parts.toList.all λp=>Pb (SN p.2))=true then (rowOf T t0 len (parts.toList.map λp=>(p.1,SN p.2)) d).map λr=>(d,r.1,r.2) else none
   | .makeMap t0 none=>match T.mapOf t0 with
    |some τ=>if d<Aj then some (d, .at (.Gi d), .Oh τ λ_=>none) else none
    |none=>none
   |_=>none
theorem Zd {o:Oper} {r:Nat×AV×OB} (h:Zc T o=some r):o.dst=some r.1/\lD r.1 r.2.1 r.2.2/\ ∀st:St,Ei r.1 st->Cm T Γ ops st o=some (Ex r.1 r.2.1 r.2.2 st):=by
 obtain ⟨dst,op,ty,pos,after,guard⟩:=o
 unfold Zc at h
 cases guard with
 |some g=>cases h
 |none=>
  cases dst with
  |none=>cases h
  |some d=>
   cases op with
   |buildSlice t0 len parts=>
    simp only at h
    split at h
    ·rename_i hp
     cases hr:rowOf T t0 len (parts.toList.map λp=>(p.1,SN p.2)) d with
     |none=>rw [hr] at h;cases h
     |some q=>
      rw [hr] at h
      simp only [Option.map_some,Option.some.injEq] at h
      subst h
      refine ⟨rfl,kA hr,λst Og=>?_⟩
      have xR: ∀p∈parts.toList,st.ev p.2=SN p.2:= λp rQ=>SO (List.all_eq_true.1 hp p rQ)
      have hm:(parts.toList.map λp=>(p.1,st.ev p.2))=parts.toList.map λp=>(p.1,SN p.2):=List.map_congr_left λp rQ=>by rw [xR p rQ]
      have AH:(parts.toList.all λp=>Pb (st.ev p.2))=true:=List.all_eq_true.2 λp rQ=>by rw [xR p rQ];exact List.all_eq_true.1 hp p rQ
      unfold Cm
      simp only [evalOp]
      rw [bC AH,hm,hr]
      simp only [Option.map_some]
      rw [Og.new]
    ·cases h
   |makeMap t0 hint=>
    cases hint with
    |some x=>cases h
    |none=>
     simp only at h
     split at h
     ·rename_i τ Ms
      split at h
      ·rename_i hd
       cases h
       refine ⟨rfl,⟨λl hl=>by simpa [AV.refs,AC.refs] using hl,rfl,λl hl=>by simp only [AV.map,Az];rw [if_neg (Ne.symm hl)],λl=>rfl⟩,λst Og=>?_⟩
       unfold Cm
       simp only [evalOp,Np,Ms,if_pos hd,Option.map_some]
       rw [Og.new]
      ·cases h
     ·cases h
   |_=>cases h
theorem sN {l:List Operand} (h: ∀x∈l,(Ex d v b t).ev x=t.ev x):(l.all λx=>((Ex d v b t).ev x).settled)=(l.map t.ev).all (·.settled):=by
 rw [List.all_map]
 induction l with
 |nil=>rfl
 |cons x r ih=>
  simp only [List.all_cons,Function.comp]
  rw [h x (by simp),ih λy hy=>h y (by simp [hy])]
theorem sO {o:Oper} (hl:lD d v b) (hn:Ei d t) (hs:Pf Γ (Ex d v b t) o=true) (hu:(cX o).all (cv d)=true) (Xw:o.dst≠some d) {s':St} (he:Cm T Γ ops (Ex d v b t) o=some s'):
  ∃t',Cm T Γ ops t o=some t'/\s'=Ex d v b t'/\Ei d t'/\Pf Γ t o=true:=by
 obtain ⟨dst,op,ty,pos,after,guard⟩:=o
 unfold Pf at hs
 cases guard with
 |some g=>cases hs
 |none=>
  simp only at hs
  split at hs
  ·rename_i x
   have hx:=Rk (v:=v) (b:=b) (t:=t) hu x (by simp [cX])
   obtain ⟨t',h1,h2,h3⟩:=yp hn hx Xw he
   exact ⟨t',h1,h2,h3,rfl⟩
  ·rename_i t0 x
   have hx:=Rk (v:=v) (b:=b) (t:=t) hu x (by simp [cX])
   rw [hx] at hs
   split at hs
   ·rename_i l i hp
    obtain ⟨t',h1,h2,h3⟩:=yk hn hx Xw hp he
    exact ⟨t',h1,h2,h3,by simp only [Pf,hp]⟩
   ·cases hs
  ·rename_i f args tys
   rw [Bool.and_eq_true] at hs
   obtain ⟨kb,AJ⟩:=hs
   split at kb
   ·rename_i sp Md
    have xR:=Rk (v:=v) (b:=b) (t:=t) (l:=args.toList) hu
    rw [sN xR] at AJ
    obtain ⟨t',h1,h2,h3⟩:=xA Md hn (BK hu) Xw AJ he
    refine ⟨t',h1,h2,h3,?_⟩
    simp only [Pf,Md,Bool.true_and]
    rw [List.all_map] at AJ
    exact AJ
   ·cases kb
  ·rename_i t0 m k x
   have hm:=Rk (v:=v) (b:=b) (t:=t) hu m (by simp [cX])
   have hk:=Rk (v:=v) (b:=b) (t:=t) hu k (by simp [cX])
   have hx:=Rk (v:=v) (b:=b) (t:=t) hu x (by simp [cX])
   rw [hm,hk,hx] at hs
   have hs0:=hs
   rw [Bool.and_eq_true] at hs
   obtain ⟨t',h1,h2,h3⟩:=rV hn hm hk hx Xw hs.2 he
   exact ⟨t',h1,h2,h3,hs0⟩
  ·rename_i t0 len parts
   rw [Bool.and_eq_true] at hs
   obtain ⟨kb,AJ⟩:=hs
   cases dst with
   |none=>cases AJ
   |some e=>
    simp only at AJ
    have hed:e≠d:= λh=>Xw (by rw [h])
    have bn:(parts.toList.map (λp=>p.2)).all (cv d)=true:=hu
    have xR:=Rk (v:=v) (b:=b) (t:=t) bn
    have hx: ∀p∈parts.toList,(Ex d v b t).ev p.2=t.ev p.2:= λp hp=>xR p.2 (List.mem_map.2 ⟨p,hp,rfl⟩)
    have hp:(parts.toList.all λp=>Pb (t.ev p.2))=true:=List.all_eq_true.2 λp hp=>by rw [<-hx p hp];exact List.all_eq_true.1 kb p hp
    have Er:=mM AJ
    obtain ⟨t',h1,h2,h3⟩:=um hl hn hx hed hp Er he
    refine ⟨t',h1,h2,h3,?_⟩
    simp only [Pf,hp,Bool.true_and]
    exact CW (Er.back hed hn)
  ·cases hs
def qV:List (Nat×AV×OB)->St->St->Prop
 | [],s,t=>s=t
 |q::Q,s,t=>Ei q.1 t/\qV Q s (Ex q.1 q.2.1 q.2.2 t)
theorem qp {o:Oper} : ∀(Q:List (Nat×AV×OB)) (s t s':St),qV Q s t->(∀q∈Q,lD q.1 q.2.1 q.2.2/\(cX o).all (cv q.1)=true/\o.dst≠some q.1)->Pf Γ s o=true->Cm T Γ ops s o=some s'->
  ∃t',Cm T Γ ops t o=some t'/\qV Q s' t'/\Pf Γ t o=true
 | [],s,t,s',h,_,hs,he=>by
  have h:s=t:=h
  subst h
  exact ⟨s',he,rfl,hs⟩
 |q::Q,s,t,s',⟨h1,h2⟩,hq,hs,he=>by
  obtain ⟨u',e1,e2,e3⟩:=qp Q s _ s' h2 (λp hp=>hq p (List.mem_cons_of_mem _ hp)) hs he
  obtain ⟨l1,l2,l3⟩:=hq q (by simp)
  obtain ⟨t',f1,f2,f3,f4⟩:=sO l1 h1 e3 l2 l3 e1
  exact ⟨t',f1,⟨f3,by rw [<-f2];exact e2⟩,f4⟩
theorem qt {q:Nat×AV×OB} : ∀(Q1:List (Nat×AV×OB)) {Q2:List (Nat×AV×OB)} {s t:St},qV (Q1++q::Q2) s t->(∀p∈Q1++q::Q2,lD p.1 p.2.1 p.2.2)->(∀p∈Q1,p.1≠q.1)->
  Ei q.1 t/\qV (Q1++Q2) s (Ex q.1 q.2.1 q.2.2 t)
 | [],Q2,s,t,h,_,_=>h
 |p::Q1,Q2,s,t,⟨h1,h2⟩,hL,Er=>by
  have XF:=Er p (by simp)
  have hLp:=hL p (by simp)
  have hLq:=hL q (by simp)
  obtain ⟨g1,g2⟩:=qt Q1 h2 (λr hr=>hL r (List.mem_cons_of_mem _ hr)) λr hr=>Er r (List.mem_cons_of_mem _ hr)
  refine ⟨g1.back (Ne.symm XF) h1,h1.plus XF (λh=>XF (hLq.v1 _ h)) (by rw [hLq.b1];simp),?_⟩
  show qV (Q1++Q2) s (Ex p.1 p.2.1 p.2.2 (Ex q.1 q.2.1 q.2.2 t))
  rw [pE (Ne.symm XF)]
  exact g2
def fZ (ops:Array Oper):Nat->Nat->Nat->Bool
 |0,_,_=>false
 |f+1,i,a=>Region.waitsFor .any ops i a||(List.range ops.size).any λk=>Region.waitsFor .any ops i k&&fZ ops f k a
def Sq (ops:Array Oper) (Ad:Array Bool):Prop:= ∀k a,Ad.getD k false=true->Region.waitsFor .any ops k a=true->Ad.getD a false=true
theorem cD {Ad:Array Bool} {i a:Nat} (h:i∈Region.ready .any ops Ad) (hw:Region.waitsFor .any ops i a=true):Ad.getD a false=true:=by
 obtain ⟨_,o,ho,Gz⟩:=mem_ready.1 h
 obtain ⟨o',XC,e,he,hb,rfl⟩:=Region.waitsFor_spec hw
 rw [ho] at XC
 cases XC
 exact Gz e he hb
theorem eL {Ad:Array Bool} (hc:Sq ops Ad) {a:Nat} : ∀(f i:Nat),(∀x,Region.waitsFor .any ops i x=true->Ad.getD x false=true)->fZ ops f i a=true->Ad.getD a false=true
 |0,_,_,h=>by cases h
 |f+1,i,hi,h=>by
  simp only [fZ,Bool.or_eq_true,List.any_eq_true,Bool.and_eq_true] at h
  rcases h with h|⟨k,_,h1,h2⟩
  ·exact hi a h
  ·exact eL hc f k (λx hx=>hc k x (hi k h1) hx) h2
theorem Sq.set {Ad:Array Bool} (hc:Sq ops Ad) {i:Nat} (hi:i∈Region.ready .any ops Ad):Sq ops (Ad.setIfInBounds i true):= λk a hk hw=>by
 by_cases hik:i=k
 ·subst hik
  exact getD_set_true (cD hi hw)
 ·rw [getD_set_ne false hik] at hk
  exact getD_set_true (hc k a hk hw)
def yw (P:List (Nat×Nat×AV×OB)) (Γ:Env) (ops:Array Oper) (st:St) (o:Oper) (i:Nat):Bool:=
 (P.all λa=>fZ ops 5 i a.1)||(Pf Γ st o&&P.all λa=>fZ ops 5 i a.1||((cX o).all (cv a.2.1)&&(match o.dst with
  |some e=>!Nat.beq e a.2.1
  |none=>true)))
def SJ (T:Tab) (Γ:Env) (ops:Array Oper) (P:List (Nat×Nat×AV×OB)) (K:St->Prop):Nat->Array Bool->St->Prop
 |0,Ad,st=>Region.ready .any ops Ad= []/\K st
 |f+1,Ad,st=>Region.ready .any ops Ad≠ []/\ ∀i∈Region.ready .any ops Ad,∃o st',ops[i]?=some o/\yw P Γ ops st o i=true/\Cm T Γ ops st o=some st'/\SJ T Γ ops P K f (Ad.setIfInBounds i true) st'
structure FX (lc la:Array Bool) (Q:List Nat):Prop where
 size:la.size=lc.size
 off: ∀k∈Q,k<la.size/\la.getD k false=false/\lc.getD k false=true
 same: ∀k,k∉Q->la.getD k false=lc.getD k false
theorem FX.ready {lc la:Array Bool} {Q:List Nat} (h:FX lc la Q) {i:Nat} (hi:i∈Region.ready .any ops la) (hn:i∉Q):i∈Region.ready .any ops lc:=by
 obtain ⟨h1,o,ho,Gz⟩:=mem_ready.1 hi
 have Ho:i<la.size:=by
  rcases Nat.lt_or_ge i la.size with h'|h'
  ·exact h'
  ·simp [Array.getElem?_eq_none h'] at h1
 have h2:=getD_both h1
 rw [h.same i hn] at h2
 refine mem_ready.2 ⟨getD_in (by rw [<-h.size];exact Ho) h2,o,ho,λe he hb=>?_⟩
 have h3:=Gz e he hb
 by_cases hq:e.on∈Q
 ·exact (h.off _ hq).2.2
 ·rw [<-h.same _ hq];exact h3
theorem FX.nil {lc la:Array Bool} (h:FX lc la []):la=lc:=by
 refine Array.ext h.size λk h1 h2=>?_
 have:=h.same k (by simp)
 simpa [h1,h2] using this
theorem FX.one {lc la:Array Bool} {Q Q':List Nat} {i:Nat} (h:FX lc la Q) (hi:i∈Q) (hs: ∀k,k∈Q'↔k∈Q/\k≠i):FX lc (la.setIfInBounds i true) Q':=by
 refine ⟨by simp [h.size],λk hk=>?_,λk hk=>?_⟩
 ·obtain ⟨h1,h2⟩:=(hs k).1 hk
  obtain ⟨g1,g2,g3⟩:=h.off k h1
  exact ⟨by simpa using g1,by rw [getD_set_ne false (Ne.symm h2)];exact g2,g3⟩
 ·by_cases e:i=k
  ·subst e
   obtain ⟨g1,g2,g3⟩:=h.off i hi
   rw [g3]
   simp [g1]
  ·rw [getD_set_ne false e]
   exact h.same k λhq=>hk ((hs k).2 ⟨hq,Ne.symm e⟩)
theorem FX.both {lc la:Array Bool} {Q:List Nat} {i:Nat} (h:FX lc la Q) (hi:i∉Q):FX (lc.setIfInBounds i true) (la.setIfInBounds i true) Q:=by
 refine ⟨by simp [h.size],λk hk=>?_,λk hk=>?_⟩
 ·obtain ⟨g1,g2,g3⟩:=h.off k hk
  have Er:i≠k:= λe=>hi (by rw [e];exact hk)
  exact ⟨by simpa using g1,by rw [getD_set_ne false Er];exact g2,by rw [getD_set_ne false Er];exact g3⟩
 ·by_cases e:i=k
  ·subst e
   have hs:=h.same i hi
   have hz:=h.size
   by_cases hl:i<la.size
   ·simp [hl,hz▸hl]
   ·have Hc: ¬i<lc.size:=by omega
    simp [hl,Hc]
  ·rw [getD_set_ne false e,getD_set_ne false e];exact h.same k hk
theorem yr {dst:Option Tmp} {d:Nat} (h:(match dst with
  |some e=>!Nat.beq e d
  |none=>true)=true):dst≠some d:= λe=>by
 subst e
 simp at h
theorem BI {P:List (Nat×Nat×AV×OB)} {K:St->Prop} (hP: ∀a∈P,∃o,ops[a.1]?=some o/\Zc T o=some a.2):
  ∀(n f:Nat) (Q:List (Nat×Nat×AV×OB)) (lc la:Array Bool) (s t:St),n=f+Q.length->SJ T Γ ops P K f lc s->qV (Q.map (·.2)) s t->FX lc la (Q.map (·.1))->(∀a∈Q,a∈P)->
   (Q.Pairwise λa c=>a.2.1≠c.2.1/\a.1≠c.1)->Sq ops la->(∀a∈Q,∀x,Region.waitsFor .any ops a.1 x=true->la.getD x false=true)->anyS T Γ ops K n la t:=by
 intro n
 induction n with
 |zero=>
  intro f Q lc la s t hn hC hp hb hQ hpw Ns hw
  have hf:f=0:=by omega
  have hq:Q= []:=List.eq_nil_of_length_eq_zero (by omega)
  subst hf hq
  have hp:s=t:=hp
  subst hp
  rw [hb.nil]
  exact hC
 |succ n ih=>
  intro f Q lc la s t hn hC hp hb hQ hpw Ns hw
  refine ⟨?_,λi hi=>?_⟩
  ·cases Q with
   |nil=>
    rw [hb.nil]
    cases f with
    |zero=>simp at hn
    |succ f=>exact hC.1
   |cons a Q=>
    obtain ⟨o,ho,_⟩:=hP a (hQ a (by simp))
    obtain ⟨g1,g2,_⟩:=hb.off a.1 (by simp)
    have:a.1∈Region.ready .any ops la:=mem_ready.2 ⟨getD_in g1 g2,o,ho,λe he hbd=>hw a (by simp) e.on (by
     unfold Region.waitsFor
     rw [ho]
     exact Array.any_eq_true'.2 ⟨e,he,by simp [hbd]⟩)⟩
    intro e
    rw [e] at this
    cases this
  ·by_cases hiQ:i∈Q.map (·.1)
   ·obtain ⟨a,ha,rfl⟩:=List.mem_map.1 hiQ
    obtain ⟨Q1,Q2,rfl⟩:=List.append_of_mem ha
    obtain ⟨o,ho,SW⟩:=hP a (hQ a ha)
    obtain ⟨_,_,Og⟩:=Zd (Γ:=Γ) (ops:=ops) SW
    have IB:=List.pairwise_append.1 hpw
    have ZO:=List.pairwise_cons.1 IB.2.1
    rw [List.map_append,List.map_cons] at hp
    have hL: ∀p∈Q1.map (·.2)++a.2::Q2.map (·.2),lD p.1 p.2.1 p.2.2:= λp rQ=>by
     have:p∈(Q1++a::Q2).map (·.2):=by rw [List.map_append,List.map_cons];exact rQ
     obtain ⟨c,hc,rfl⟩:=List.mem_map.1 this
     obtain ⟨o',_,Ae6⟩:=hP c (hQ c hc)
     exact (Zd (Γ:=Γ) (ops:=ops) Ae6).2.1
    obtain ⟨p1,p2⟩:=qt _ hp hL λp rQ=>by
     obtain ⟨c,hc,rfl⟩:=List.mem_map.1 rQ
     exact (IB.2.2 c hc a (by simp)).1
    refine ⟨o,_,ho,Og t p1,ih f (Q1++Q2) lc _ s _ ?_ hC (by rw [List.map_append];exact p2) (hb.one hiQ λk=>?_) (λc hc=>hQ c ?_) ?_ (Ns.set hi) λc hc x hx=>getD_set_true (hw c ?_ x hx)⟩
    ·simp only [List.length_append,List.length_cons] at hn⊢;omega
    ·simp only [List.map_append,List.map_cons,List.mem_append,List.mem_cons]
     constructor
     ·intro h
      rcases h with h|h
      ·obtain ⟨c,hc,rfl⟩:=List.mem_map.1 h
       exact ⟨.inl h,(IB.2.2 c hc a (by simp)).2⟩
      ·obtain ⟨c,hc,rfl⟩:=List.mem_map.1 h
       exact ⟨.inr (.inr h),Ne.symm (ZO.1 c hc).2⟩
     ·rintro ⟨h|h|h,Er⟩
      ·exact .inl h
      ·exact absurd h Er
      ·exact .inr h
    ·rcases List.mem_append.1 hc with hc|hc
     ·exact List.mem_append_left _ hc
     ·exact List.mem_append_right _ (List.mem_cons_of_mem _ hc)
    ·exact List.pairwise_append.2 ⟨IB.1,ZO.2,λc hc e he=>IB.2.2 c hc e (List.mem_cons_of_mem _ he)⟩
    ·rcases List.mem_append.1 hc with hc|hc
     ·exact List.mem_append_left _ hc
     ·exact List.mem_append_right _ (List.mem_cons_of_mem _ hc)
   ·have hic:=hb.ready hi hiQ
    cases f with
    |zero=>
     rw [hC.1] at hic
     cases hic
    |succ f=>
     obtain ⟨o,s',ho,Xy,he,eh⟩:=hC.2 i hic
     have NU: ∀a∈Q,fZ ops 5 i a.1=false:= λa ha=>by
      cases hwt:fZ ops 5 i a.1 with
      |false=>rfl
      |true=>
       have h1:=eL Ns _ i (λx hx=>cD hi hx) hwt
       rw [(hb.off a.1 (List.mem_map.2 ⟨a,ha,rfl⟩)).2.1] at h1
       cases h1
     have key: ∃t',Cm T Γ ops t o=some t'/\qV (Q.map (·.2)) s' t':=by
      unfold yw at Xy
      rw [Bool.or_eq_true,Bool.and_eq_true] at Xy
      rcases Xy with Xy|⟨h1,h2⟩
      ·cases Q with
       |nil=>
        have hp:s=t:=hp
        subst hp
        exact ⟨s',he,rfl⟩
       |cons a Q=>
        have:=List.all_eq_true.1 Xy a (hQ a (by simp))
        rw [NU a (by simp)] at this
        cases this
      ·obtain ⟨t',g1,g2,_⟩:=qp (T:=T) (ops:=ops) _ s t s' hp (λq hq=>by
        obtain ⟨a,ha,rfl⟩:=List.mem_map.1 hq
        obtain ⟨o',_,SW⟩:=hP a (hQ a ha)
        have h3:=List.all_eq_true.1 h2 a (hQ a ha)
        rw [NU a ha,Bool.false_or,Bool.and_eq_true] at h3
        exact ⟨(Zd (Γ:=Γ) (ops:=ops) SW).2.1,h3.1,yr h3.2⟩) h1 he
       exact ⟨t',g1,g2⟩
     obtain ⟨t',g1,g2⟩:=key
     exact ⟨o,t',ho,g1,ih f Q _ _ s' t' (by omega) eh g2 (hb.both hiQ) hQ hpw (Ns.set hi) λc hc x hx=>getD_set_true (hw c hc x hx)⟩
def Rg (T:Tab) (ops:Array Oper) (Ad:Array Bool):List (Nat×Nat×AV×OB):=(Region.ready .any ops Ad).filterMap λi=>((ops[i]?).bind (Zc T)).map λr=>(i,r)
theorem r7 {Ad:Array Bool} {a:Nat×Nat×AV×OB} (h:a∈Rg T ops Ad):a.1∈Region.ready .any ops Ad/\ ∃o,ops[a.1]?=some o/\Zc T o=some a.2:=by
 unfold Rg at h
 obtain ⟨i,hi,he⟩:=List.mem_filterMap.1 h
 cases ho:ops[i]? with
 |none=>rw [ho] at he;cases he
 |some o=>
  rw [ho] at he
  simp only [Option.bind_some,Option.map_eq_some_iff] at he
  obtain ⟨r,h1,rfl⟩:=he
  exact ⟨hi,o,ho,h1⟩
theorem ur:Sq ops (Array.replicate ops.size false):= λk a hk _=>by
 rw [getD_replicate_false] at hk
 cases hk
theorem Zi (q:Bool): ∀(l:List Nat) (Ad:Array Bool),Sq ops Ad->Sq ops (Eg (Fb q ops l Ad) Ad)
 | [],Ad,h=>h
 |i::r,Ad,h=>by
  simp only [Fb]
  split
  ·rename_i hc
   rw [Bool.and_eq_true,Bool.and_eq_true] at hc
   have hi:i∈Region.ready .any ops Ad:=by simpa using hc.2.1
   exact Zi q r _ (h.set hi)
  ·exact Zi q r Ad h
theorem cm: ∀(l:List Nat) (Ad:Array Bool),(Eg l Ad).size=Ad.size
 | [],_=>rfl
 |i::r,Ad=>by simp only [Eg];rw [cm r];simp
theorem gV: ∀(l:List Nat) (Ad:Array Bool) (k:Nat),k∈l->k<Ad.size->(Eg l Ad).getD k false=true
 |i::r,Ad,k,h,hk=>by
  simp only [Eg]
  by_cases hr:k∈r
  ·exact gV r _ k hr (by simpa using hk)
  ·have:k=i:=(List.mem_cons.1 h).resolve_right hr
   subst this
   have hs: ∀(l:List Nat) (A:Array Bool),A.getD k false=true->(Eg l A).getD k false=true:=by
    intro l
    induction l with
    |nil=>exact λA h=>h
    |cons j l ih=>exact λA h=>ih _ (getD_set_true h)
   exact hs r _ (by simp [hk])
theorem eo: ∀(l:List Nat) (Ad:Array Bool) (k:Nat),k∉l->(Eg l Ad).getD k false=Ad.getD k false
 | [],_,_,_=>rfl
 |i::r,Ad,k,h=>by
  simp only [Eg]
  rw [eo r _ k λhk=>h (List.mem_cons_of_mem _ hk),getD_set_ne false (λe=>h (by rw [e];simp))]
theorem MP {Ad:Array Bool} {Q:List Nat} (h: ∀i∈Q,i∈Region.ready .any ops Ad):FX (Eg Q Ad) Ad Q:=by
 have hr: ∀i∈Q,i<Ad.size/\Ad.getD i false=false:= λi hi=>by
  have h1:=(mem_ready.1 (h i hi)).1
  refine ⟨?_,getD_both h1⟩
  rcases Nat.lt_or_ge i Ad.size with h'|h'
  ·exact h'
  ·simp [Array.getElem?_eq_none h'] at h1
 exact ⟨(cm Q Ad).symm,λk hk=>⟨(hr k hk).1,(hr k hk).2,gV Q Ad k hk (hr k hk).1⟩,λk hk=>(eo Q Ad k hk).symm⟩
theorem wg: ∀(Q:List (Nat×Nat×AV×OB)) (t s:St),(∀a∈Q,∃o,ops[a.1]?=some o/\Zc T o=some a.2)->(∀a∈Q,Ei a.2.1 t)->(Q.Pairwise λa c=>a.2.1≠c.2.1)->Je T Γ ops (Q.map (·.1)) t=some s->qV (Q.map (·.2)) s t
 | [],t,s,_,_,_,h=>by
  have h:some t=some s:=h
  exact (Option.some.inj h).symm
 |a::Q,t,s,hQ,hn,hp,h=>by
  obtain ⟨o,ho,SW⟩:=hQ a (by simp)
  obtain ⟨_,hL,Og⟩:=Zd (Γ:=Γ) (ops:=ops) SW
  obtain ⟨tR,CB⟩:=List.pairwise_cons.1 hp
  simp only [List.map_cons,Je,ho] at h
  rw [Og t (hn a (by simp))] at h
  refine ⟨hn a (by simp),wg Q _ s (λc hc=>hQ c (List.mem_cons_of_mem _ hc)) (λc hc=>?_) CB h⟩
  exact (hn c (List.mem_cons_of_mem _ hc)).plus (Ne.symm (tR c hc)) (λh=>tR c hc (hL.v1 _ h).symm) (by rw [hL.b1];simp)
end
end Go.Proofs.Ytjbdmibbbpdnnaa
