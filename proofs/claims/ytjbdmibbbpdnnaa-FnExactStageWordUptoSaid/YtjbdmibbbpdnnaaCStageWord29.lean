/-
  Part 30 of the proof that the statement FnExactStageWord holds.
-/
import Derived.Test.YtjbdmibbbpdnnaaCStageWord28
namespace Go.Proofs.Ytjbdmibbbpdnnaa
open Go.RowKit
def Eu (d:Nat) (v:AV) (b:OB) (st:St):St:= {tmps:=Nn st.tmps d v,heap:=Iy st.heap d b}
def jh (d:Nat) (st:St):Bool:=(st.get d).refs.isEmpty&&((st.tmps.all λv=>!v.refs.contains d)&&st.heap.all λp=>!Nat.beq p.1 d&&!p.2.refs.contains d)
structure Ef (d:Nat) (st:St):Prop where
 own:(st.get d).refs= []
 tmps: ∀v∈st.tmps,d∉v.refs
 heap: ∀p∈st.heap,p.1≠d/\d∉p.2.refs
theorem mQ {d:Nat} {st:St} (h:jh d st=true):Ef d st:=by
 unfold jh at h
 rw [Bool.and_eq_true,Bool.and_eq_true,List.all_eq_true,List.all_eq_true] at h
 obtain ⟨h0,h⟩:=h
 refine ⟨List.isEmpty_iff.1 h0,λv hv=>?_,λp hp=>?_⟩
 ·have:=h.1 v hv
  intro hd
  rw [List.contains_iff_mem.2 hd] at this
  cases this
 ·have:=h.2 p hp
  rw [Bool.and_eq_true] at this
  refine ⟨λe=>?_,λhd=>?_⟩
  ·have h1:=this.1
   rw [e,Nat.beq_refl] at h1
   cases h1
  ·have h1:=this.2
   rw [List.contains_iff_mem.2 hd] at h1
   cases h1
theorem CW {d:Nat} {st:St} (h:Ef d st):jh d st=true:=by
 unfold jh
 rw [Bool.and_eq_true,Bool.and_eq_true,List.all_eq_true,List.all_eq_true]
 refine ⟨by rw [h.own];rfl,λv hv=>?_,λp hp=>?_⟩
 ·rw [Bool.not_eq_true',<-Bool.not_eq_true,List.contains_iff_mem];exact h.tmps v hv
 ·rw [Bool.and_eq_true]
  refine ⟨?_,?_⟩
  ·rw [Bool.not_eq_true',<-Bool.not_eq_true]
   exact λe=>(h.heap p hp).1 (Nat.eq_of_beq_eq_true e)
  ·rw [Bool.not_eq_true',<-Bool.not_eq_true,List.contains_iff_mem];exact (h.heap p hp).2
structure lH (d:Nat) (v:AV) (b:OB):Prop where
 v1: ∀l,l∈v.refs->l=d
 b1:b.refs= []
 v2: ∀l,l≠d->v.map (Ay l)=v
 b2: ∀l,b.map (Ay l)=b
theorem Xx {α:Type} : ∀(xs:List α) (d t:Nat) (v x:α),d≠t->(Nn xs d v).getD t x=xs.getD t x
 | [],_,_,_,_,_=>rfl
 |y::r,0,0,_,_,h=>absurd rfl h
 |y::r,0,t+1,_,_,_=>by simp [Nn]
 |y::r,d+1,0,_,_,_=>by simp [Nn]
 |y::r,d+1,t+1,v,x,h=>by simpa [Nn] using Xx r d t v x (by omega)
theorem jB {α:Type} : ∀(xs:List α) (d e:Nat) (v w:α),d≠e->Nn (Nn xs d v) e w=Nn (Nn xs e w) d v
 | [],_,_,_,_,_=>rfl
 |y::r,0,0,_,_,h=>absurd rfl h
 |y::r,0,e+1,_,_,_=>rfl
 |y::r,d+1,0,_,_,_=>rfl
 |y::r,d+1,e+1,v,w,h=>by simp only [Nn];rw [jB r d e v w (by omega)]
theorem pQ: ∀(H:List (Nat×OB)) (d l:Nat) (b:OB),d≠l->Ae (Iy H d b) l=Ae H l
 | [],d,l,b,h=>by simp [Iy,Ae,h]
 |(k,c)::r,d,l,b,h=>by
  simp only [Iy]
  split
  ·simp only [Ae];rw [if_neg h]
  ·simp only [Ae]
   split
   ·rfl
   ·exact pQ r d l b h
theorem pV: ∀(H:List (Nat×OB)) (d e:Nat) (b c:OB),d≠e->Iy (Iy H d b) e c=Iy (Iy H e c) d b
 | [],d,e,b,c,h=>by
  simp only [Iy]
  by_cases h1:e<d
  ·rw [if_pos h1,if_neg (by omega)]
  ·rw [if_neg h1,if_pos (by omega)]
 |(k,a)::r,d,e,b,c,h=>by
  simp only [Iy]
  by_cases h1:d<k<;>by_cases h2:e<k
  ·rw [if_pos h1,if_pos h2]
   simp only [Iy]
   by_cases h3:e<d
   ·rw [if_pos h3,if_neg (by omega),if_pos h1]
   ·rw [if_neg h3,if_pos h2,if_pos (by omega)]
  ·rw [if_pos h1,if_neg h2]
   simp only [Iy]
   rw [if_neg (by omega),if_neg h2,if_pos h1]
  ·rw [if_neg h1,if_pos h2]
   simp only [Iy]
   rw [if_pos h2,if_neg (by omega),if_neg h1]
  ·rw [if_neg h1,if_neg h2]
   simp only [Iy]
   rw [if_neg h1,if_neg h2,pV r d e b c h]
theorem qI: ∀(H:List (Nat×OB)) (d l:Nat) (b c:OB),d≠l->Xd (Iy H d b) l c=Iy (Xd H l c) d b
 | [],d,l,b,c,h=>by simp [Iy,Xd,h]
 |(k,a)::r,d,l,b,c,h=>by
  simp only [Iy,Xd]
  by_cases h1:d<k<;>by_cases h2:k=l
  ·rw [if_pos h1,if_pos h2]
   simp only [Xd,Iy]
   rw [if_neg h,if_pos h2,if_pos h1]
  ·rw [if_pos h1,if_neg h2]
   simp only [Xd,Iy]
   rw [if_neg h,if_neg h2,if_pos h1]
  ·rw [if_neg h1,if_pos h2]
   simp only [Xd,Iy]
   rw [if_pos h2,if_neg h1]
  ·rw [if_neg h1,if_neg h2]
   simp only [Xd,Iy]
   rw [if_neg h2,if_neg h1,qI r d l b c h]
theorem jW {l:Nat} : ∀ {c:AC},l∉c.refs->Ay l c=c:=by
 intro c h
 cases c<;>simp only [Ay]<;>simp only [AC.refs,List.mem_singleton] at h
 case clo f Bs=>rw [if_neg (by simpa using h)]
 all_goals (first|rfl|rw [if_neg (Ne.symm h)])
theorem Ti {l:Nat} : ∀ {cs:List AC},l∉cs.flatMap AC.refs->cs.map (Ay l)=cs
 | [],_=>rfl
 |c::r,h=>by
  rw [List.flatMap_cons,List.mem_append] at h
  rw [List.map_cons,jW (λhh=>h (.inl hh)),Ti (λhh=>h (.inr hh))]
theorem uN {l:Nat} : ∀ {v:AV},l∉v.refs->v.map (Ay l)=v
 | .at a,h=>by simp only [AV.map];rw [jW h]
 | .agg cs,h=>by simp only [AV.map];rw [Ti h]
 | .Uc _ _ _,_=>rfl
 | .It ps,h=>by
  simp only [AV.map]
  congr 1
  simp only [AV.refs] at h
  induction ps with
  |nil=>rfl
  |cons p r ih=>
   rw [List.flatMap_cons,List.mem_append] at h
   rw [List.map_cons,Ti (λhh=>h (.inl hh)),ih (λhh=>h (.inr hh))]
theorem uO {l:Nat} : ∀ {b:OB},l∉b.refs->b.map (Ay l)=b
 | .arr _ _ _ _ _,_=>rfl
 | .Df _ _ _,_=>rfl
 | .var _ vs,h=>by simp only [OB.map];rw [Ti h]
 | .Ak _ _ _ _ _,_=>rfl
 | .Oh _ _,_=>rfl
theorem uz {l:Nat} : ∀ {H:List (Nat×OB)},(∀p∈H,p.1≠l)->Ss H l=H
 | [],_=>rfl
 |(k,b)::r,h=>by
  simp only [Ss]
  rw [if_neg (h (k,b) (by simp)),uz λp hp=>h p (by simp [hp])]
theorem Ef.forget {l:Nat} {st:St} (h:Ef l st):st.forget l=st:=by
 have e1:st.tmps.map (λv=>v.map (Ay l))=st.tmps:=(List.map_congr_left λv hv=>uN (h.tmps v hv)).trans (List.map_id _)
 have e2:st.heap.map (λp=>(p.1,p.2.map (Ay l)))=st.heap:=(List.map_congr_left λp hp=>by rw [uO (h.heap p hp).2];rfl).trans (List.map_id _)
 unfold St.forget St.Ge
 simp only [e1,e2]
 rw [uz λp hp=>(h.heap p hp).1]
theorem Ef.new {l:Nat} {st:St} (h:Ef l st) (b:OB) (v:AV):(st.new l b).put (some l) v=Eu l v b st:=by
 unfold St.new
 rw [h.forget]
 rfl
theorem mN {α:Type} : ∀ {xs:List α} {d:Nat} {v x:α},x∈Nn xs d v->x∈xs\/x=v
 | [],_,_,_,h=>by cases h
 |y::r,0,v,x,h=>by
  rcases List.mem_cons.1 h with h|h
  ·exact .inr h
  ·exact .inl (List.mem_cons_of_mem _ h)
 |y::r,d+1,v,x,h=>by
  rcases List.mem_cons.1 h with h|h
  ·exact .inl (by rw [h];simp)
  ·exact (mN h).imp (List.mem_cons_of_mem _) id
theorem vL: ∀ {H:List (Nat×OB)} {d:Nat} {b:OB} {p:Nat×OB},p∈Iy H d b->p∈H\/p=(d,b)
 | [],d,b,p,h=> .inr (by simpa [Iy] using h)
 |(k,c)::r,d,b,p,h=>by
  simp only [Iy] at h
  split at h
  ·rcases List.mem_cons.1 h with h|h
   ·exact .inr h
   ·exact .inl h
  ·rcases List.mem_cons.1 h with h|h
   ·exact .inl (by rw [h];simp)
   ·exact (vL h).imp (List.mem_cons_of_mem _) id
theorem MH {d:Nat} {v:AV} {b:OB} {st:St} {x:Operand} (h:x≠ .tmp d):(Eu d v b st).ev x=st.ev x:=by
 cases x with
 |tmp t=>exact Xx _ _ _ _ _ (λe=>h (by rw [e]))
 |_=>rfl
theorem zC {d l:Nat} {v:AV} {b:OB} {st:St} (h:d≠l):(Eu d v b st).at l=st.at l:=pQ _ _ _ _ h
theorem GM {d e:Nat} {v u:AV} {b:OB} {st:St} (h:d≠e):(Eu d v b st).put (some e) u=Eu d v b (st.put (some e) u):=by
 unfold Eu St.put
 simp only
 rw [jB _ _ _ _ _ h]
theorem BH {d l:Nat} {v:AV} {b c:OB} {st:St} (h:d≠l):(Eu d v b st).Fu l c=Eu d v b (st.Fu l c):=by
 unfold Eu St.Fu
 simp only
 rw [qI _ _ _ _ _ h]
theorem py {d e:Nat} {v u:AV} {b c:OB} {st:St} (h:d≠e):Eu e u c (Eu d v b st)=Eu d v b (Eu e u c st):=by
 unfold Eu
 rw [jB _ _ _ _ _ h,pV _ _ _ _ _ h]
theorem Ef.put {d:Nat} {st:St} {e:Nat} {u:AV} (h:Ef d st) (NG:e≠d) (hu:d∉u.refs):Ef d (st.put (some e) u):=
 ⟨by show (List.getD (Nn st.tmps e u) d .undef).refs= [];rw [Xx _ _ _ _ _ NG];exact h.own,λv hv=>(mN hv).elim (h.tmps v) λe=>by rw [e];exact hu,h.heap⟩
theorem Ef.plus {d e:Nat} {u:AV} {c:OB} {st:St} (h:Ef d st) (NG:d≠e) (hu:d∉u.refs) (hc:d∉c.refs):Ef d (Eu e u c st):=
 ⟨by show (List.getD (Nn st.tmps e u) d .undef).refs= [];rw [Xx _ _ _ _ _ (Ne.symm NG)];exact h.own,λv hv=>(mN hv).elim (h.tmps v) λe=>by rw [e];exact hu,λp hp=>(vL hp).elim (h.heap p) λe'=>by rw [e'];exact ⟨Ne.symm NG,hc⟩⟩
theorem Ef.UO {d e:Nat} {u:AV} {c:OB} {st:St} (h:Ef d (Eu e u c st)): ∀p∈st.heap,p.1≠d/\d∉p.2.refs:= λp hp=>h.heap p (by
 show p∈Iy st.heap e c
 generalize st.heap=H at hp
 induction H with
 |nil=>cases hp
 |cons q r ih=>
  obtain ⟨k,a⟩:=q
  simp only [Iy]
  split
  ·exact List.mem_cons_of_mem _ hp
  ·rcases List.mem_cons.1 hp with hp|hp
   ·rw [hp];simp
   ·exact List.mem_cons_of_mem _ (ih hp))
theorem lg {st st':St} : ∀(τ:Ty) (cs:List AC),cs.all (·.settled)=true->Cp st' τ cs=Cp st τ cs:=by
 intro τ
 induction τ with
 |unit=>intro cs _;cases cs<;>rfl
 |pair a r fQ dt=>
  intro cs h
  simp only [Cp]
  rw [List.all_eq_true] at h
  rw [fQ _ (List.all_eq_true.2 λc hc=>h c (List.mem_of_mem_take hc)),dt _ (List.all_eq_true.2 λc hc=>h c (List.mem_of_mem_drop hc))]
 |_=>
  intro cs h
  rcases cs with _|⟨c,_|⟨c',cs⟩⟩
  ·rfl
  ·simp only [List.all_cons,List.all_nil,Bool.and_true] at h
   simp only [Cp]
   exact To h
  ·rfl
theorem aF {st st':St} {τ:Ty} {v:AV} (h:v.settled=true):Cr st' τ v=Cr st τ v:=by
 cases v with
 | «at»a=>
  have ha:a.settled=true:=h
  cases a<;>simp only [AC.settled,Bool.false_eq_true] at ha
  all_goals
   simp only [Cr]
   rw [Ki rfl,Ki rfl]
   rw [To (st:=st) (st':=st') rfl]
 |agg cs=>simp only [Cr];rw [lg _ _ h]
 |Uc _ _ _=>rfl
 |It _=>rfl
theorem cY {st st':St} : ∀(τ:Ty) (vs:List AV),vs.all (·.settled)=true->Bn st' τ vs=Bn st τ vs
 | .pair a r,v::vs,h=>by
  rw [List.all_cons,Bool.and_eq_true] at h
  simp only [Bn]
  rw [aF (st:=st) (st':=st') h.1,cY r vs h.2]
 | .pair _ _,[],_=>rfl
 | .unit,[],_=>rfl
 | .unit,_::_,_=>rfl
 | .int _,vs,_=>by cases vs<;>rfl
 | .bool,vs,_=>by cases vs<;>rfl
 | .str,vs,_=>by cases vs<;>rfl
 | .slice _,vs,_=>by cases vs<;>rfl
 | .oslice _,vs,_=>by cases vs<;>rfl
 | .ptr _,vs,_=>by cases vs<;>rfl
 | .optr _,vs,_=>by cases vs<;>rfl
 | .smap _,vs,_=>by cases vs<;>rfl
 | .clo _ _,vs,_=>by cases vs<;>rfl
def Pb:AV->Bool
 | .at (.data _ _ _)=>true
 |_=>false
def cW (o:Oper):List Operand:=match o.op with
 | .move x=> [x]
 | .load _ x=> [x]
 | .call {callee:= .value (.func _),args, .. } =>args.toList
 | .insert _ m k x=> [m,k,x]
 | .buildSlice _ _ parts=>parts.toList.map (·.2)
 |_=> []
def cv (d:Nat):Operand->Bool
 | .tmp t=>!Nat.beq t d
 |_=>true
theorem CY {d:Nat} {x:Operand} (h:cv d x=true):x≠ .tmp d:= λe=>by
 subst e
 simp [cv] at h
def Pg (Γ:Env) (st:St) (o:Oper):Bool:=match o.guard with
 |some _=>false
 |none=>match o.op with
  | .move _=>true
  | .load _ x=>(match st.ev x with
   | .at (.Dw _ _)=>true
   |_=>false)
  | .call {callee:= .value (.func f),args, .. } =>(match Γ f with
   |some (.q _)=>true
   |_=>false)&&args.toList.all λx=>(st.ev x).settled
  | .insert _ m k x=>(match st.ev m with
   | .at (.Gf _)=>true
   |_=>false)&&Pb (st.ev k)&&(st.ev x).settled
  | .buildSlice _ _ parts=>(parts.toList.all λp=>Pb (st.ev p.2))&&(match o.dst with
   |some e=>jh e st
   |none=>false)
  |_=>false
theorem Ef.ev {d:Nat} {st:St} (h:Ef d st) (x:Operand):d∉(st.ev x).refs:=by
 cases x with
 |tmp t=>
  simp only [St.ev,St.get]
  rw [List.getD_eq_getElem?_getD]
  by_cases hl:t<st.tmps.length
  ·rw [List.getElem?_eq_getElem hl];exact h.tmps _ (List.getElem_mem hl)
  ·rw [List.getElem?_eq_none (Nat.le_of_not_lt hl)];simp [AV.refs,AC.refs]
 |const c=>
  simp only [St.ev]
  unfold ga
  split<;>simp [AV.refs,AC.refs]
 |func f=>simp [St.ev,AV.refs,AC.refs]
 |_=>simp [St.ev,AV.refs,AC.refs]
theorem uX: ∀ {H:List (Nat×OB)} {l:Nat} {b:OB},Ae H l=some b->(l,b)∈H
 |(k,c)::r,l,b,h=>by
  simp only [Ae] at h
  split at h
  ·rename_i e;subst e;cases h;simp
  ·exact List.mem_cons_of_mem _ (uX h)
section
variable {T:Tab} {Γ:Env} {ops:Array Oper} {d:Nat} {v:AV} {b:OB} {t:St}
theorem qt {e:Option Tmp} (h:e≠some d) (hn:Ef d t) {y:AV} (hy:d∉y.refs):(Eu d v b t).put e y=Eu d v b (t.put e y)/\Ef d (t.put e y):=by
 cases e with
 |none=>exact ⟨rfl,hn⟩
 |some k=>exact ⟨GM (λe=>h (by rw [e])),hn.put (λe=>h (by rw [e])) hy⟩
theorem cC {o:Oper} (hg:o.guard=none) (Ya:o.dst≠some d) (hn:Ef d t) {q:Option AV} (h1:evalOp T Γ (Eu d v b t) o=q.map λy=>(y,Eu d v b t)) (h2:evalOp T Γ t o=q.map λy=>(y,t)) (hq: ∀y,q=some y->d∉y.refs) {s':St}
  (he:Ci T Γ ops (Eu d v b t) o=some s'): ∃t',Ci T Γ ops t o=some t'/\s'=Eu d v b t'/\Ef d t':=by
 unfold Ci at he⊢
 rw [hg] at he⊢
 simp only at he⊢
 rw [h1] at he
 cases q with
 |none=>cases he
 |some y=>
  obtain ⟨p1,p2⟩:=qt (v:=v) (b:=b) Ya hn (hq y rfl)
  refine ⟨_,by rw [h2];rfl,?_,p2⟩
  simp only [Option.map_some,Option.some.injEq] at he
  rw [<-he,p1]
theorem Rr {l:List Operand} (hu:l.all (cv d)=true): ∀x∈l,(Eu d v b t).ev x=t.ev x:= λx hx=>MH (CY (List.all_eq_true.1 hu x hx))
theorem yo {dst:Option Tmp} {x:Operand} {ty:TypeId} {pos:String} {after:Array Edge} (hn:Ef d t) (hx:(Eu d v b t).ev x=t.ev x) (Ya:dst≠some d) {s':St}
  (he:Ci T Γ ops (Eu d v b t) {dst:=dst,op:= .move x,type:=ty,pos:=pos,after:=after,guard:=none} =some s'):
  ∃t',Ci T Γ ops t {dst:=dst,op:= .move x,type:=ty,pos:=pos,after:=after,guard:=none} =some t'/\s'=Eu d v b t'/\Ef d t':=
 cC rfl Ya hn (q:=some (t.ev x)) (by simp only [evalOp,Ch,hx]) (by simp only [evalOp,Ch]) (λy hy=>by cases hy;exact hn.ev x) he
def loadVar (T:Tab) (o:Option OB) (t0:TypeId) (i:Nat):Option AV:=match T.ty t0 with
 |some τ=>(match o with
  |some (.var _ vs)=>if τ.Ab then (if i+τ.size<=vs.length then some (.agg ((vs.drop i).take τ.size)) else none) else vs[i]?.map .at
  |_=>none)
 |none=>none
theorem dQ {st:St} {t0:TypeId} {l i:Nat} :Kb T st t0 (.at (.Dw l i))=loadVar T (st.at l) t0 i:=by
 unfold Kb loadVar
 cases T.ty t0<;>rfl
theorem yj {dst:Option Tmp} {t0:TypeId} {x:Operand} {ty:TypeId} {pos:String} {after:Array Edge} (hn:Ef d t) (hx:(Eu d v b t).ev x=t.ev x) (Ya:dst≠some d) {l i:Nat} (hp:t.ev x= .at (.Dw l i)) {s':St}
  (he:Ci T Γ ops (Eu d v b t) {dst:=dst,op:= .load t0 x,type:=ty,pos:=pos,after:=after,guard:=none} =some s'):
  ∃t',Ci T Γ ops t {dst:=dst,op:= .load t0 x,type:=ty,pos:=pos,after:=after,guard:=none} =some t'/\s'=Eu d v b t'/\Ef d t':=by
 have hld:d≠l:= λe=>by
  have:=hn.ev x
  rw [hp,e] at this
  exact this (by simp [AV.refs,AC.refs])
 refine cC rfl Ya hn (q:=loadVar T (t.at l) t0 i) ?_ ?_ (λy hy=>?_) he
 ·simp only [evalOp,Ch,hx,hp]
  rw [dQ,zC hld]
 ·simp only [evalOp,Ch,hp]
  rw [dQ]
 ·unfold loadVar at hy
  split at hy
  ·split at hy
   ·rename_i vs hb
    have hr:d∉vs.flatMap AC.refs:=(hn.heap _ (uX hb)).2
    have fm: ∀c∈vs,d∉c.refs:= λc hc hd=>hr (List.mem_flatMap.2 ⟨c,hc,hd⟩)
    split at hy
    ·split at hy
     ·cases hy
      intro hd
      obtain ⟨c,hc,hd⟩:=List.mem_flatMap.1 hd
      exact fm c (List.mem_of_mem_drop (List.mem_of_mem_take hc)) hd
     ·cases hy
    ·cases hv:vs[i]? with
     |none=>rw [hv] at hy;cases hy
     |some c=>
      rw [hv] at hy
      cases hy
      exact fm c (List.mem_of_getElem? hv)
   ·cases hy
  ·cases hy
theorem BK {l:List Operand} (hu:l.all (cv d)=true):l.map (Eu d v b t).ev=l.map t.ev:=List.map_congr_left λx hx=>Rr hu x hx
theorem xz {dst:Option Tmp} {f:FuncId} {args:Array Operand} {tys:Array TypeId} {ty:TypeId} {pos:String} {after:Array Edge} {sp:Spec} (Mb:Γ f=some (.q sp)) (hn:Ef d t) (hx:args.toList.map (Eu d v b t).ev=args.toList.map t.ev) (Ya:dst≠some d)
  (hs:(args.toList.map t.ev).all (·.settled)=true) {s':St} (he:Ci T Γ ops (Eu d v b t) {dst:=dst,op:= .call {callee:= .value (.func f),args:=args,argTypes:=tys},type:=ty,pos:=pos,after:=after,guard:=none} =some s'):
  ∃t',Ci T Γ ops t {dst:=dst,op:= .call {callee:= .value (.func f),args:=args,argTypes:=tys},type:=ty,pos:=pos,after:=after,guard:=none} =some t'/\s'=Eu d v b t'/\Ef d t':=by
 have AD:a6 sp (args.toList.map t.ev)=false:=by unfold a6;rw [hs];simp
 have xP: ∀st:St,Jf Γ st f (args.toList.map t.ev)=(match Bn t sp.arg (args.toList.map t.ev) with
   |none=>none
   |some (_,x)=>(sp.fn x).map λy=>if sp.Fv then .Uc (sp.fresh||sp.res.flat) sp.res y else .at (.data (sp.fresh||sp.res.flat) sp.res y)):= λst=>by
  unfold Jf
  rw [Mb]
  simp only
  rw [hs,cY (st:=t) _ _ hs]
  simp only [Bool.or_true,if_true]
  cases Bn t sp.arg (args.toList.map t.ev)<;>rfl
 refine cC rfl Ya hn (q:=Jf Γ t f (args.toList.map t.ev)) ?_ ?_ (λy hy=>?_) he
 ·simp only [evalOp,Ch,Mb,hx,AD]
  rw [xP,xP t]
  simp
 ·simp only [evalOp,Ch,Mb,AD]
  simp
 ·rw [xP t] at hy
  split at hy
  ·cases hy
  ·rename_i x _
   cases hf:sp.fn x with
   |none=>rw [hf] at hy;cases hy
   |some z=>
    rw [hf] at hy
    simp only [Option.map_some,Option.some.injEq] at hy
    rw [<-hy]
    split<;>simp [AV.refs,AC.refs]
def gP (T:Tab) (o:Option OB) (t0:TypeId) (s:ByteArray) (vw:(v:Ty)->Option (Bool×v.den)):Option OB:=match T.mapOf t0 with
 |some v=>(match o,vw v with
  |some (.Oh v' f),some (_,y)=>if h:v'=v/\v.flat=true/\v.Ab=false then some (.Oh v (aE (h.1▸f:ByteArray->Option v.den) s y)) else none
  |_,_=>none)
 |none=>none
theorem dR {st:St} {t0:TypeId} {l:Nat} {fr:Bool} {s:ByteArray} {x:AV} :Er T st t0 (.at (.Gf l)) (.at (.data fr .str s)) x=(gP T (st.at l) t0 s λv=>Cr st v x).map λc=>st.Fu l c:=by
 unfold Er gP
 cases T.mapOf t0 with
 |none=>rfl
 |some v0=>
  simp only
  cases st.at l with
  |none=>rfl
  |some c=>
   cases c with
   |Oh v' f=>
    cases Cr st v0 x with
    |none=>rfl
    |some p=>
     simp only
     split<;>rfl
   |_=>rfl
theorem vI {o:Option OB} {t0:TypeId} {s:ByteArray} {vw:(v:Ty)->Option (Bool×v.den)} {c:OB} (h:gP T o t0 s vw=some c):c.refs= []:=by
 unfold gP at h
 split at h
 ·split at h
  ·split at h
   ·cases h;rfl
   ·cases h
  ·cases h
 ·cases h
theorem m9 {st:St} {t0:TypeId} {m k x:AV} {s':St} (h:Er T st t0 m k x=some s'): ∃l fr s,m= .at (.Gf l)/\k= .at (.data fr .str s):=by
 unfold Er at h
 split at h
 ·exact ⟨_,_,_,rfl,rfl⟩
 ·cases h
theorem vM: ∀ {H:List (Nat×OB)} {l:Nat} {c:OB} {p:Nat×OB},p∈Xd H l c->p∈H\/(p.2=c/\p.1=l/\ ∃c',(l,c')∈H)
 |(k,a)::r,l,c,p,h=>by
  simp only [Xd] at h
  split at h
  ·rename_i e
   rcases List.mem_cons.1 h with h|h
   ·subst h;exact .inr ⟨rfl,e,a,by rw [e];simp⟩
   ·exact .inl (List.mem_cons_of_mem _ h)
  ·rcases List.mem_cons.1 h with h|h
   ·exact .inl (by rw [h];simp)
   ·exact (vM h).imp (List.mem_cons_of_mem _) λ⟨h1,h2,c',h3⟩=>⟨h1,h2,c',List.mem_cons_of_mem _ h3⟩
theorem Ef.Fu {st:St} {l:Nat} {c:OB} (h:Ef d st) (hc:d∉c.refs):Ef d (st.Fu l c):=
 ⟨h.own,h.tmps,λp hp=>(vM hp).elim (h.heap p) λ⟨h1,h2,c',h3⟩=>⟨by rw [h2];exact (h.heap _ h3).1,by rw [h1];exact hc⟩⟩
theorem rT {dst:Option Tmp} {t0:TypeId} {m k x:Operand} {ty:TypeId} {pos:String} {after:Array Edge} (hn:Ef d t) (hm:(Eu d v b t).ev m=t.ev m) (hk:(Eu d v b t).ev k=t.ev k) (hx:(Eu d v b t).ev x=t.ev x) (Ya:dst≠some d)
  (hs:(t.ev x).settled=true) {s':St} (he:Ci T Γ ops (Eu d v b t) {dst:=dst,op:= .insert t0 m k x,type:=ty,pos:=pos,after:=after,guard:=none} =some s'):
  ∃t',Ci T Γ ops t {dst:=dst,op:= .insert t0 m k x,type:=ty,pos:=pos,after:=after,guard:=none} =some t'/\s'=Eu d v b t'/\Ef d t':=by
 unfold Ci at he⊢
 simp only [evalOp,hm,hk,hx] at he⊢
 cases MC:Er T (Eu d v b t) t0 (t.ev m) (t.ev k) (t.ev x) with
 |none=>rw [MC] at he;cases he
 |some s1=>
  rw [MC] at he
  simp only [Option.map_some,Option.some.injEq] at he
  obtain ⟨l,fr,s,e1,e2⟩:=m9 MC
  have hld:d≠l:= λe=>by
   have:=hn.ev m
   rw [e1,e] at this
   exact this (by simp [AV.refs,AC.refs])
  rw [e1,e2,dR,zC hld] at MC
  have hvw:(λv0=>Cr (Eu d v b t) v0 (t.ev x))= λv0=>Cr t v0 (t.ev x):=funext λv0=>aF hs
  rw [hvw] at MC
  rw [e1,e2,dR]
  cases ho:gP T (t.at l) t0 s λv0=>Cr t v0 (t.ev x) with
  |none=>rw [ho] at MC;cases MC
  |some c=>
   rw [ho] at MC
   simp only [Option.map_some,Option.some.injEq] at MC
   have hc:=vI ho
   have lu:Ef d (t.Fu l c):=hn.Fu (by rw [hc];simp)
   obtain ⟨p1,p2⟩:=qt (v:=v) (b:=b) (y:= .undef) Ya lu (by simp [AV.refs,AC.refs])
   refine ⟨_,rfl,?_,p2⟩
   rw [<-he,<-MC,BH hld,p1]
theorem Ef.back {e:Nat} (h:Ef e (Eu d v b t)) (NG:e≠d) (hn:Ef d t):Ef e t:=by
 have hg: ∀k,k≠d->(Eu d v b t).get k=t.get k:= λk hk=>Xx _ _ _ _ _ (Ne.symm hk)
 refine ⟨by rw [<-hg e NG];exact h.own,λu hu hd=>?_,h.UO⟩
 obtain ⟨k,hk,rfl⟩:=List.mem_iff_getElem.1 hu
 have e1:t.get k=t.tmps[k]:=by unfold St.get;rw [List.getD_eq_getElem?_getD,List.getElem?_eq_getElem hk];rfl
 by_cases QZ:k=d
 ·subst QZ
  have:=hn.own
  rw [e1] at this
  rw [this] at hd
  cases hd
 ·have h1:=h.ev (.tmp k)
  have h2:(Eu d v b t).ev (.tmp k)=t.tmps[k]:=by show (Eu d v b t).get k=_;rw [hg k QZ,e1]
  rw [h2] at h1
  exact h1 hd
def fC (e:Ty):Nat->List (Nat×AV)->Option (Bool×Bool×List e.den)
 |_,[]=>some (true,true,[])
 |i,(j,x)::r=>if i=j then match Cr ⟨[],[]⟩ e x with
  |some (fr,y)=>match fC e (i+1) r with
   |some (On,KZ,ys)=>some (fr&&On,Mp ⟨[],[]⟩ x&&e.tree&&KZ,y::ys)
   |none=>none
  |none=>none
  else none
theorem Xm {st:St} {e:Ty} : ∀(l:List (Nat×Operand)) (i:Nat),(l.all λp=>Pb (st.ev p.2))=true->Gm e i l st=(fC e i (l.map λp=>(p.1,st.ev p.2))).map λp=>(p.1,p.2.1,p.2.2,st)
 | [],i,_=>rfl
 |(j,x)::r,i,h=>by
  rw [List.all_cons,Bool.and_eq_true] at h
  have hx:Pb (st.ev x)=true:=h.1
  simp only [Gm,fC,List.map_cons]
  split
  ·generalize hxv:st.ev x=xv at hx
   unfold Pb at hx
   split at hx
   ·rename_i fr τ z
    have TZ:settle st (.at (.data fr τ z))=some (.at (.data fr τ z),st):=rfl
    rw [TZ]
    simp only
    rw [aF (st:=⟨[],[]⟩) (st':=st) (v:= .at (.data fr τ z)) rfl]
    cases Cr ⟨[],[]⟩ e (.at (.data fr τ z)) with
    |none=>rfl
    |some p=>
     simp only
     rw [Xm r (i+1) h.2]
     cases fC e (i+1) (r.map λp=>(p.1,st.ev p.2)) with
     |none=>rfl
     |some q=>rfl
   ·cases hx
  ·rfl
def rowOf (T:Tab) (t0:TypeId) (len:Nat) (parts:List (Nat×AV)) (dst:Nat):Option (AV×OB):=match Xy T t0 with
 |some _=>none
 |none=>match T.elem t0 with
  |none=>none
  |some te=>match T.ty te with
   |none=>none
   |some e=>if parts.length=len/\len<=64/\e.size<=64/\dst<Aj then (fC e 0 parts).map λp=>(.at (.own dst 0 len), .arr ((T.me||e.flat)&&p.1) (T.tw&&p.2.1) e te p.2.2) else none
theorem bA {st:St} {t0:TypeId} {len dst:Nat} {parts:Array (Nat×Operand)} (h:(parts.toList.all λp=>Pb (st.ev p.2))=true):
  Eo T st dst t0 len parts=(rowOf T t0 len (parts.toList.map λp=>(p.1,st.ev p.2)) dst).map λr=>(r.1,st.new dst r.2):=by
 unfold Eo rowOf
 cases Xy T t0 with
 |some p=>
  obtain ⟨te,e⟩:=p
  simp only [Option.map_none]
  split
  ·rename_i x hp
   rw [hp,List.all_cons,Bool.and_eq_true] at h
   have hx:Pb (st.ev x)=true:=h.1
   unfold Pb at hx
   split at hx
   ·rename_i hv;simp only [hv]
   ·cases hx
  ·rfl
 |none=>
  simp only
  unfold Hi
  cases T.elem t0 with
  |none=>rfl
  |some te=>
   simp only
   cases T.ty te with
   |none=>rfl
   |some e=>
    simp only [List.length_map,Array.length_toList]
    split
    ·rw [Xm _ 0 h]
     cases fC e 0 (parts.toList.map λp=>(p.1,st.ev p.2))<;>rfl
    ·rfl
theorem kA {t0:TypeId} {len dst:Nat} {parts:List (Nat×AV)} {r:AV×OB} (h:rowOf T t0 len parts dst=some r):lH dst r.1 r.2:=by
 unfold rowOf at h
 split at h
 ·cases h
 ·split at h
  ·cases h
  ·split at h
   ·cases h
   ·split at h
    ·rename_i e _ _
     cases hp:fC e 0 parts with
     |none=>rw [hp] at h;cases h
     |some p=>
      rw [hp] at h
      simp only [Option.map_some,Option.some.injEq] at h
      subst h
      exact ⟨λl hl=>by simpa [AV.refs,AC.refs] using hl,rfl,λl hl=>by simp only [AV.map,Ay];rw [if_neg (Ne.symm hl)],λl=>rfl⟩
    ·cases h
theorem uj {e:Nat} {t0:TypeId} {len:Nat} {parts:Array (Nat×Operand)} {ty:TypeId} {pos:String} {after:Array Edge} (_hl:lH d v b) (hn:Ef d t) (hx: ∀p∈parts.toList,(Eu d v b t).ev p.2=t.ev p.2) (Ya:e≠d)
  (hp:(parts.toList.all λp=>Pb (t.ev p.2))=true) (Ek:Ef e (Eu d v b t)) {s':St} (he:Ci T Γ ops (Eu d v b t) {dst:=some e,op:= .buildSlice t0 len parts,type:=ty,pos:=pos,after:=after,guard:=none} =some s'):
  ∃t',Ci T Γ ops t {dst:=some e,op:= .buildSlice t0 len parts,type:=ty,pos:=pos,after:=after,guard:=none} =some t'/\s'=Eu d v b t'/\Ef d t':=by
 have TQ:=Ek.back Ya hn
 have AE:(parts.toList.all λp=>Pb ((Eu d v b t).ev p.2))=true:=List.all_eq_true.2 λp rP=>by rw [hx p rP];exact List.all_eq_true.1 hp p rP
 have hm:(parts.toList.map λp=>(p.1,(Eu d v b t).ev p.2))=parts.toList.map λp=>(p.1,t.ev p.2):=List.map_congr_left λp rP=>by rw [hx p rP]
 unfold Ci at he⊢
 simp only [evalOp] at he⊢
 rw [bA AE,hm] at he
 rw [bA hp]
 cases hr:rowOf T t0 len (parts.toList.map λp=>(p.1,t.ev p.2)) e with
 |none=>rw [hr] at he;cases he
 |some r=>
  rw [hr] at he
  have hL:=kA hr
  simp only [Option.map_some,Option.some.injEq] at he
  rw [Ek.new] at he
  refine ⟨Eu e r.1 r.2 t,by simp only [Option.map_some];rw [TQ.new],?_,hn.plus (Ne.symm Ya) (λh=>Ya (hL.v1 _ h).symm) (by rw [hL.b1];simp)⟩
  rw [<-he,py (Ne.symm Ya)]
def SI:Operand->AV
 | .const c=>ga c
 |_=> .undef
theorem SJ {st:St} {x:Operand} (h:Pb (SI x)=true):st.ev x=SI x:=by
 cases x<;>first|rfl|cases h
def Zf (T:Tab) (o:Oper):Option (Nat×AV×OB):=match o.guard with
 |some _=>none
 |none=>match o.dst with
  |none=>none
  |some d=>match o.op with
   | .buildSlice t0 len parts=>if (parts.toList.all λp=>Pb (SI p.2))=true then (rowOf T t0 len (parts.toList.map λp=>(p.1,SI p.2)) d).map λr=>(d,r.1,r.2) else none
   | .makeMap t0 none=>match T.mapOf t0 with
    |some τ=>if d<Aj then some (d, .at (.Gf d), .Oh τ λ_=>none) else none
    |none=>none
   |_=>none
theorem Zg {o:Oper} {r:Nat×AV×OB} (h:Zf T o=some r):o.dst=some r.1/\lH r.1 r.2.1 r.2.2/\ ∀st:St,Ef r.1 st->Ci T Γ ops st o=some (Eu r.1 r.2.1 r.2.2 st):=by
 obtain ⟨dst,op,ty,pos,after,guard⟩:=o
 unfold Zf at h
 cases guard with
 |some g=>cases h
 |none=>
  cases dst with
  |none=>cases h
  |some d=>
   cases op with
   |buildSlice t0 len parts=>
    simp only at h
    split at h
    ·rename_i hp
     cases hr:rowOf T t0 len (parts.toList.map λp=>(p.1,SI p.2)) d with
     |none=>rw [hr] at h;cases h
     |some q=>
      rw [hr] at h
      simp only [Option.map_some,Option.some.injEq] at h
      subst h
      refine ⟨rfl,kA hr,λst Pp=>?_⟩
      have xP: ∀p∈parts.toList,st.ev p.2=SI p.2:= λp rP=>SJ (List.all_eq_true.1 hp p rP)
      have hm:(parts.toList.map λp=>(p.1,st.ev p.2))=parts.toList.map λp=>(p.1,SI p.2):=List.map_congr_left λp rP=>by rw [xP p rP]
      have AE:(parts.toList.all λp=>Pb (st.ev p.2))=true:=List.all_eq_true.2 λp rP=>by rw [xP p rP];exact List.all_eq_true.1 hp p rP
      unfold Ci
      simp only [evalOp]
      rw [bA AE,hm,hr]
      simp only [Option.map_some]
      rw [Pp.new]
    ·cases h
   |makeMap t0 hint=>
    cases hint with
    |some x=>cases h
    |none=>
     simp only at h
     split at h
     ·rename_i τ Mu
      split at h
      ·rename_i hd
       cases h
       refine ⟨rfl,⟨λl hl=>by simpa [AV.refs,AC.refs] using hl,rfl,λl hl=>by simp only [AV.map,Ay];rw [if_neg (Ne.symm hl)],λl=>rfl⟩,λst Pp=>?_⟩
       unfold Ci
       simp only [evalOp,Nq,Mu,if_pos hd,Option.map_some]
       rw [Pp.new]
      ·cases h
     ·cases h
   |_=>cases h
theorem sP {l:List Operand} (h: ∀x∈l,(Eu d v b t).ev x=t.ev x):(l.all λx=>((Eu d v b t).ev x).settled)=(l.map t.ev).all (·.settled):=by
 rw [List.all_map]
 induction l with
 |nil=>rfl
 |cons x r ih=>
  simp only [List.all_cons,Function.comp]
  rw [h x (by simp),ih λy hy=>h y (by simp [hy])]
theorem sQ {o:Oper} (hl:lH d v b) (hn:Ef d t) (hs:Pg Γ (Eu d v b t) o=true) (hu:(cW o).all (cv d)=true) (Ya:o.dst≠some d) {s':St} (he:Ci T Γ ops (Eu d v b t) o=some s'):
  ∃t',Ci T Γ ops t o=some t'/\s'=Eu d v b t'/\Ef d t'/\Pg Γ t o=true:=by
 obtain ⟨dst,op,ty,pos,after,guard⟩:=o
 unfold Pg at hs
 cases guard with
 |some g=>cases hs
 |none=>
  simp only at hs
  split at hs
  ·rename_i x
   have hx:=Rr (v:=v) (b:=b) (t:=t) hu x (by simp [cW])
   obtain ⟨t',h1,h2,h3⟩:=yo hn hx Ya he
   exact ⟨t',h1,h2,h3,rfl⟩
  ·rename_i t0 x
   have hx:=Rr (v:=v) (b:=b) (t:=t) hu x (by simp [cW])
   rw [hx] at hs
   split at hs
   ·rename_i l i hp
    obtain ⟨t',h1,h2,h3⟩:=yj hn hx Ya hp he
    exact ⟨t',h1,h2,h3,by simp only [Pg,hp]⟩
   ·cases hs
  ·rename_i f args tys
   rw [Bool.and_eq_true] at hs
   obtain ⟨lv,AG⟩:=hs
   split at lv
   ·rename_i sp Mb
    have xP:=Rr (v:=v) (b:=b) (t:=t) (l:=args.toList) hu
    rw [sP xP] at AG
    obtain ⟨t',h1,h2,h3⟩:=xz Mb hn (BK hu) Ya AG he
    refine ⟨t',h1,h2,h3,?_⟩
    simp only [Pg,Mb,Bool.true_and]
    rw [List.all_map] at AG
    exact AG
   ·cases lv
  ·rename_i t0 m k x
   have hm:=Rr (v:=v) (b:=b) (t:=t) hu m (by simp [cW])
   have hk:=Rr (v:=v) (b:=b) (t:=t) hu k (by simp [cW])
   have hx:=Rr (v:=v) (b:=b) (t:=t) hu x (by simp [cW])
   rw [hm,hk,hx] at hs
   have hs0:=hs
   rw [Bool.and_eq_true] at hs
   obtain ⟨t',h1,h2,h3⟩:=rT hn hm hk hx Ya hs.2 he
   exact ⟨t',h1,h2,h3,hs0⟩
  ·rename_i t0 len parts
   rw [Bool.and_eq_true] at hs
   obtain ⟨lv,AG⟩:=hs
   cases dst with
   |none=>cases AG
   |some e=>
    simp only at AG
    have hed:e≠d:= λh=>Ya (by rw [h])
    have bm:(parts.toList.map (λp=>p.2)).all (cv d)=true:=hu
    have xP:=Rr (v:=v) (b:=b) (t:=t) bm
    have hx: ∀p∈parts.toList,(Eu d v b t).ev p.2=t.ev p.2:= λp hp=>xP p.2 (List.mem_map.2 ⟨p,hp,rfl⟩)
    have hp:(parts.toList.all λp=>Pb (t.ev p.2))=true:=List.all_eq_true.2 λp hp=>by rw [<-hx p hp];exact List.all_eq_true.1 lv p hp
    have Ek:=mQ AG
    obtain ⟨t',h1,h2,h3⟩:=uj hl hn hx hed hp Ek he
    refine ⟨t',h1,h2,h3,?_⟩
    simp only [Pg,hp,Bool.true_and]
    exact CW (Ek.back hed hn)
  ·cases hs
def qT:List (Nat×AV×OB)->St->St->Prop
 | [],s,t=>s=t
 |q::Q,s,t=>Ef q.1 t/\qT Q s (Eu q.1 q.2.1 q.2.2 t)
theorem qk {o:Oper} : ∀(Q:List (Nat×AV×OB)) (s t s':St),qT Q s t->(∀q∈Q,lH q.1 q.2.1 q.2.2/\(cW o).all (cv q.1)=true/\o.dst≠some q.1)->Pg Γ s o=true->Ci T Γ ops s o=some s'->
  ∃t',Ci T Γ ops t o=some t'/\qT Q s' t'/\Pg Γ t o=true
 | [],s,t,s',h,_,hs,he=>by
  have h:s=t:=h
  subst h
  exact ⟨s',he,rfl,hs⟩
 |q::Q,s,t,s',⟨h1,h2⟩,hq,hs,he=>by
  obtain ⟨u',e1,e2,e3⟩:=qk Q s _ s' h2 (λp hp=>hq p (List.mem_cons_of_mem _ hp)) hs he
  obtain ⟨l1,l2,l3⟩:=hq q (by simp)
  obtain ⟨t',f1,f2,f3,f4⟩:=sQ l1 h1 e3 l2 l3 e1
  exact ⟨t',f1,⟨f3,by rw [<-f2];exact e2⟩,f4⟩
theorem ql {q:Nat×AV×OB} : ∀(Q1:List (Nat×AV×OB)) {Q2:List (Nat×AV×OB)} {s t:St},qT (Q1++q::Q2) s t->(∀p∈Q1++q::Q2,lH p.1 p.2.1 p.2.2)->(∀p∈Q1,p.1≠q.1)->
  Ef q.1 t/\qT (Q1++Q2) s (Eu q.1 q.2.1 q.2.2 t)
 | [],Q2,s,t,h,_,_=>h
 |p::Q1,Q2,s,t,⟨h1,h2⟩,hL,Ek=>by
  have XA:=Ek p (by simp)
  have hLp:=hL p (by simp)
  have hLq:=hL q (by simp)
  obtain ⟨g1,g2⟩:=ql Q1 h2 (λr hr=>hL r (List.mem_cons_of_mem _ hr)) λr hr=>Ek r (List.mem_cons_of_mem _ hr)
  refine ⟨g1.back (Ne.symm XA) h1,h1.plus XA (λh=>XA (hLq.v1 _ h)) (by rw [hLq.b1];simp),?_⟩
  show qT (Q1++Q2) s (Eu p.1 p.2.1 p.2.2 (Eu q.1 q.2.1 q.2.2 t))
  rw [py (Ne.symm XA)]
  exact g2
def fN (ops:Array Oper):Nat->Nat->Nat->Bool
 |0,_,_=>false
 |f+1,i,a=>Region.waitsFor .any ops i a||(List.range ops.size).any λk=>Region.waitsFor .any ops i k&&fN ops f k a
def Sy (ops:Array Oper) (Ac:Array Bool):Prop:= ∀k a,Ac.getD k false=true->Region.waitsFor .any ops k a=true->Ac.getD a false=true
theorem cD {Ac:Array Bool} {i a:Nat} (h:i∈Region.ready .any ops Ac) (hw:Region.waitsFor .any ops i a=true):Ac.getD a false=true:=by
 obtain ⟨_,o,ho,Hw⟩:=mem_ready.1 h
 obtain ⟨o',WX,e,he,hb,rfl⟩:=Region.waitsFor_spec hw
 rw [ho] at WX
 cases WX
 exact Hw e he hb
theorem eH {Ac:Array Bool} (hc:Sy ops Ac) {a:Nat} : ∀(f i:Nat),(∀x,Region.waitsFor .any ops i x=true->Ac.getD x false=true)->fN ops f i a=true->Ac.getD a false=true
 |0,_,_,h=>by cases h
 |f+1,i,hi,h=>by
  simp only [fN,Bool.or_eq_true,List.any_eq_true,Bool.and_eq_true] at h
  rcases h with h|⟨k,_,h1,h2⟩
  ·exact hi a h
  ·exact eH hc f k (λx hx=>hc k x (hi k h1) hx) h2
theorem Sy.set {Ac:Array Bool} (hc:Sy ops Ac) {i:Nat} (hi:i∈Region.ready .any ops Ac):Sy ops (Ac.setIfInBounds i true):= λk a hk hw=>by
 by_cases hik:i=k
 ·subst hik
  exact getD_set_true (cD hi hw)
 ·rw [getD_set_ne false hik] at hk
  exact getD_set_true (hc k a hk hw)
def yu (P:List (Nat×Nat×AV×OB)) (Γ:Env) (ops:Array Oper) (st:St) (o:Oper) (i:Nat):Bool:=
 (P.all λa=>fN ops 5 i a.1)||(Pg Γ st o&&P.all λa=>fN ops 5 i a.1||((cW o).all (cv a.2.1)&&(match o.dst with
  |some e=>!Nat.beq e a.2.1
  |none=>true)))
def SF (T:Tab) (Γ:Env) (ops:Array Oper) (P:List (Nat×Nat×AV×OB)) (K:St->Prop):Nat->Array Bool->St->Prop
 |0,Ac,st=>Region.ready .any ops Ac= []/\K st
 |f+1,Ac,st=>Region.ready .any ops Ac≠ []/\ ∀i∈Region.ready .any ops Ac,∃o st',ops[i]?=some o/\yu P Γ ops st o i=true/\Ci T Γ ops st o=some st'/\SF T Γ ops P K f (Ac.setIfInBounds i true) st'
structure FQ (lc la:Array Bool) (Q:List Nat):Prop where
 size:la.size=lc.size
 off: ∀k∈Q,k<la.size/\la.getD k false=false/\lc.getD k false=true
 same: ∀k,k∉Q->la.getD k false=lc.getD k false
theorem FQ.ready {lc la:Array Bool} {Q:List Nat} (h:FQ lc la Q) {i:Nat} (hi:i∈Region.ready .any ops la) (hn:i∉Q):i∈Region.ready .any ops lc:=by
 obtain ⟨h1,o,ho,Hw⟩:=mem_ready.1 hi
 have Hl:i<la.size:=by
  rcases Nat.lt_or_ge i la.size with h'|h'
  ·exact h'
  ·simp [Array.getElem?_eq_none h'] at h1
 have h2:=getD_both h1
 rw [h.same i hn] at h2
 refine mem_ready.2 ⟨getD_in (by rw [<-h.size];exact Hl) h2,o,ho,λe he hb=>?_⟩
 have h3:=Hw e he hb
 by_cases hq:e.on∈Q
 ·exact (h.off _ hq).2.2
 ·rw [<-h.same _ hq];exact h3
theorem FQ.nil {lc la:Array Bool} (h:FQ lc la []):la=lc:=by
 refine Array.ext h.size λk h1 h2=>?_
 have:=h.same k (by simp)
 simpa [h1,h2] using this
theorem FQ.one {lc la:Array Bool} {Q Q':List Nat} {i:Nat} (h:FQ lc la Q) (hi:i∈Q) (hs: ∀k,k∈Q'↔k∈Q/\k≠i):FQ lc (la.setIfInBounds i true) Q':=by
 refine ⟨by simp [h.size],λk hk=>?_,λk hk=>?_⟩
 ·obtain ⟨h1,h2⟩:=(hs k).1 hk
  obtain ⟨g1,g2,g3⟩:=h.off k h1
  exact ⟨by simpa using g1,by rw [getD_set_ne false (Ne.symm h2)];exact g2,g3⟩
 ·by_cases e:i=k
  ·subst e
   obtain ⟨g1,g2,g3⟩:=h.off i hi
   rw [g3]
   simp [g1]
  ·rw [getD_set_ne false e]
   exact h.same k λhq=>hk ((hs k).2 ⟨hq,Ne.symm e⟩)
theorem FQ.both {lc la:Array Bool} {Q:List Nat} {i:Nat} (h:FQ lc la Q) (hi:i∉Q):FQ (lc.setIfInBounds i true) (la.setIfInBounds i true) Q:=by
 refine ⟨by simp [h.size],λk hk=>?_,λk hk=>?_⟩
 ·obtain ⟨g1,g2,g3⟩:=h.off k hk
  have Ek:i≠k:= λe=>hi (by rw [e];exact hk)
  exact ⟨by simpa using g1,by rw [getD_set_ne false Ek];exact g2,by rw [getD_set_ne false Ek];exact g3⟩
 ·by_cases e:i=k
  ·subst e
   have hs:=h.same i hi
   have hz:=h.size
   by_cases hl:i<la.size
   ·simp [hl,hz▸hl]
   ·have Ha: ¬i<lc.size:=by omega
    simp [hl,Ha]
  ·rw [getD_set_ne false e,getD_set_ne false e];exact h.same k hk
theorem yq {dst:Option Tmp} {d:Nat} (h:(match dst with
  |some e=>!Nat.beq e d
  |none=>true)=true):dst≠some d:= λe=>by
 subst e
 simp at h
theorem BI {P:List (Nat×Nat×AV×OB)} {K:St->Prop} (hP: ∀a∈P,∃o,ops[a.1]?=some o/\Zf T o=some a.2):
  ∀(n f:Nat) (Q:List (Nat×Nat×AV×OB)) (lc la:Array Bool) (s t:St),n=f+Q.length->SF T Γ ops P K f lc s->qT (Q.map (·.2)) s t->FQ lc la (Q.map (·.1))->(∀a∈Q,a∈P)->
   (Q.Pairwise λa c=>a.2.1≠c.2.1/\a.1≠c.1)->Sy ops la->(∀a∈Q,∀x,Region.waitsFor .any ops a.1 x=true->la.getD x false=true)->anyS T Γ ops K n la t:=by
 intro n
 induction n with
 |zero=>
  intro f Q lc la s t hn hC hp hb hQ hpw Nt hw
  have hf:f=0:=by omega
  have hq:Q= []:=List.eq_nil_of_length_eq_zero (by omega)
  subst hf hq
  have hp:s=t:=hp
  subst hp
  rw [hb.nil]
  exact hC
 |succ n ih=>
  intro f Q lc la s t hn hC hp hb hQ hpw Nt hw
  refine ⟨?_,λi hi=>?_⟩
  ·cases Q with
   |nil=>
    rw [hb.nil]
    cases f with
    |zero=>simp at hn
    |succ f=>exact hC.1
   |cons a Q=>
    obtain ⟨o,ho,_⟩:=hP a (hQ a (by simp))
    obtain ⟨g1,g2,_⟩:=hb.off a.1 (by simp)
    have:a.1∈Region.ready .any ops la:=mem_ready.2 ⟨getD_in g1 g2,o,ho,λe he hbd=>hw a (by simp) e.on (by
     unfold Region.waitsFor
     rw [ho]
     exact Array.any_eq_true'.2 ⟨e,he,by simp [hbd]⟩)⟩
    intro e
    rw [e] at this
    cases this
  ·by_cases hiQ:i∈Q.map (·.1)
   ·obtain ⟨a,ha,rfl⟩:=List.mem_map.1 hiQ
    obtain ⟨Q1,Q2,rfl⟩:=List.append_of_mem ha
    obtain ⟨o,ho,YE⟩:=hP a (hQ a ha)
    obtain ⟨_,_,Pp⟩:=Zg (Γ:=Γ) (ops:=ops) YE
    have HX:=List.pairwise_append.1 hpw
    have ZK:=List.pairwise_cons.1 HX.2.1
    rw [List.map_append,List.map_cons] at hp
    have hL: ∀p∈Q1.map (·.2)++a.2::Q2.map (·.2),lH p.1 p.2.1 p.2.2:= λp rP=>by
     have:p∈(Q1++a::Q2).map (·.2):=by rw [List.map_append,List.map_cons];exact rP
     obtain ⟨c,hc,rfl⟩:=List.mem_map.1 this
     obtain ⟨o',_,Ae0⟩:=hP c (hQ c hc)
     exact (Zg (Γ:=Γ) (ops:=ops) Ae0).2.1
    obtain ⟨p1,p2⟩:=ql _ hp hL λp rP=>by
     obtain ⟨c,hc,rfl⟩:=List.mem_map.1 rP
     exact (HX.2.2 c hc a (by simp)).1
    refine ⟨o,_,ho,Pp t p1,ih f (Q1++Q2) lc _ s _ ?_ hC (by rw [List.map_append];exact p2) (hb.one hiQ λk=>?_) (λc hc=>hQ c ?_) ?_ (Nt.set hi) λc hc x hx=>getD_set_true (hw c ?_ x hx)⟩
    ·simp only [List.length_append,List.length_cons] at hn⊢;omega
    ·simp only [List.map_append,List.map_cons,List.mem_append,List.mem_cons]
     constructor
     ·intro h
      rcases h with h|h
      ·obtain ⟨c,hc,rfl⟩:=List.mem_map.1 h
       exact ⟨.inl h,(HX.2.2 c hc a (by simp)).2⟩
      ·obtain ⟨c,hc,rfl⟩:=List.mem_map.1 h
       exact ⟨.inr (.inr h),Ne.symm (ZK.1 c hc).2⟩
     ·rintro ⟨h|h|h,Ek⟩
      ·exact .inl h
      ·exact absurd h Ek
      ·exact .inr h
    ·rcases List.mem_append.1 hc with hc|hc
     ·exact List.mem_append_left _ hc
     ·exact List.mem_append_right _ (List.mem_cons_of_mem _ hc)
    ·exact List.pairwise_append.2 ⟨HX.1,ZK.2,λc hc e he=>HX.2.2 c hc e (List.mem_cons_of_mem _ he)⟩
    ·rcases List.mem_append.1 hc with hc|hc
     ·exact List.mem_append_left _ hc
     ·exact List.mem_append_right _ (List.mem_cons_of_mem _ hc)
   ·have hic:=hb.ready hi hiQ
    cases f with
    |zero=>
     rw [hC.1] at hic
     cases hic
    |succ f=>
     obtain ⟨o,s',ho,Yc,he,ec⟩:=hC.2 i hic
     have NO: ∀a∈Q,fN ops 5 i a.1=false:= λa ha=>by
      cases hwt:fN ops 5 i a.1 with
      |false=>rfl
      |true=>
       have h1:=eH Nt _ i (λx hx=>cD hi hx) hwt
       rw [(hb.off a.1 (List.mem_map.2 ⟨a,ha,rfl⟩)).2.1] at h1
       cases h1
     have key: ∃t',Ci T Γ ops t o=some t'/\qT (Q.map (·.2)) s' t':=by
      unfold yu at Yc
      rw [Bool.or_eq_true,Bool.and_eq_true] at Yc
      rcases Yc with Yc|⟨h1,h2⟩
      ·cases Q with
       |nil=>
        have hp:s=t:=hp
        subst hp
        exact ⟨s',he,rfl⟩
       |cons a Q=>
        have:=List.all_eq_true.1 Yc a (hQ a (by simp))
        rw [NO a (by simp)] at this
        cases this
      ·obtain ⟨t',g1,g2,_⟩:=qk (T:=T) (ops:=ops) _ s t s' hp (λq hq=>by
        obtain ⟨a,ha,rfl⟩:=List.mem_map.1 hq
        obtain ⟨o',_,YE⟩:=hP a (hQ a ha)
        have h3:=List.all_eq_true.1 h2 a (hQ a ha)
        rw [NO a ha,Bool.false_or,Bool.and_eq_true] at h3
        exact ⟨(Zg (Γ:=Γ) (ops:=ops) YE).2.1,h3.1,yq h3.2⟩) h1 he
       exact ⟨t',g1,g2⟩
     obtain ⟨t',g1,g2⟩:=key
     exact ⟨o,t',ho,g1,ih f Q _ _ s' t' (by omega) ec g2 (hb.both hiQ) hQ hpw (Nt.set hi) λc hc x hx=>getD_set_true (hw c hc x hx)⟩
def Rp (T:Tab) (ops:Array Oper) (Ac:Array Bool):List (Nat×Nat×AV×OB):=(Region.ready .any ops Ac).filterMap λi=>((ops[i]?).bind (Zf T)).map λr=>(i,r)
theorem qZ {Ac:Array Bool} {a:Nat×Nat×AV×OB} (h:a∈Rp T ops Ac):a.1∈Region.ready .any ops Ac/\ ∃o,ops[a.1]?=some o/\Zf T o=some a.2:=by
 unfold Rp at h
 obtain ⟨i,hi,he⟩:=List.mem_filterMap.1 h
 cases ho:ops[i]? with
 |none=>rw [ho] at he;cases he
 |some o=>
  rw [ho] at he
  simp only [Option.bind_some,Option.map_eq_some_iff] at he
  obtain ⟨r,h1,rfl⟩:=he
  exact ⟨hi,o,ho,h1⟩
theorem uo:Sy ops (Array.replicate ops.size false):= λk a hk _=>by
 rw [getD_replicate_false] at hk
 cases hk
theorem Zl (q:Bool): ∀(l:List Nat) (Ac:Array Bool),Sy ops Ac->Sy ops (Ee (Ex q ops l Ac) Ac)
 | [],Ac,h=>h
 |i::r,Ac,h=>by
  simp only [Ex]
  split
  ·rename_i hc
   rw [Bool.and_eq_true,Bool.and_eq_true] at hc
   have hi:i∈Region.ready .any ops Ac:=by simpa using hc.2.1
   exact Zl q r _ (h.set hi)
  ·exact Zl q r Ac h
theorem cg: ∀(l:List Nat) (Ac:Array Bool),(Ee l Ac).size=Ac.size
 | [],_=>rfl
 |i::r,Ac=>by simp only [Ee];rw [cg r];simp
theorem gJ: ∀(l:List Nat) (Ac:Array Bool) (k:Nat),k∈l->k<Ac.size->(Ee l Ac).getD k false=true
 |i::r,Ac,k,h,hk=>by
  simp only [Ee]
  by_cases hr:k∈r
  ·exact gJ r _ k hr (by simpa using hk)
  ·have:k=i:=(List.mem_cons.1 h).resolve_right hr
   subst this
   have hs: ∀(l:List Nat) (A:Array Bool),A.getD k false=true->(Ee l A).getD k false=true:=by
    intro l
    induction l with
    |nil=>exact λA h=>h
    |cons j l ih=>exact λA h=>ih _ (getD_set_true h)
   exact hs r _ (by simp [hk])
theorem eg: ∀(l:List Nat) (Ac:Array Bool) (k:Nat),k∉l->(Ee l Ac).getD k false=Ac.getD k false
 | [],_,_,_=>rfl
 |i::r,Ac,k,h=>by
  simp only [Ee]
  rw [eg r _ k λhk=>h (List.mem_cons_of_mem _ hk),getD_set_ne false (λe=>h (by rw [e];simp))]
theorem MK {Ac:Array Bool} {Q:List Nat} (h: ∀i∈Q,i∈Region.ready .any ops Ac):FQ (Ee Q Ac) Ac Q:=by
 have hr: ∀i∈Q,i<Ac.size/\Ac.getD i false=false:= λi hi=>by
  have h1:=(mem_ready.1 (h i hi)).1
  refine ⟨?_,getD_both h1⟩
  rcases Nat.lt_or_ge i Ac.size with h'|h'
  ·exact h'
  ·simp [Array.getElem?_eq_none h'] at h1
 exact ⟨(cg Q Ac).symm,λk hk=>⟨(hr k hk).1,(hr k hk).2,gJ Q Ac k hk (hr k hk).1⟩,λk hk=>(eg Q Ac k hk).symm⟩
theorem we: ∀(Q:List (Nat×Nat×AV×OB)) (t s:St),(∀a∈Q,∃o,ops[a.1]?=some o/\Zf T o=some a.2)->(∀a∈Q,Ef a.2.1 t)->(Q.Pairwise λa c=>a.2.1≠c.2.1)->Iz T Γ ops (Q.map (·.1)) t=some s->qT (Q.map (·.2)) s t
 | [],t,s,_,_,_,h=>by
  have h:some t=some s:=h
  exact (Option.some.inj h).symm
 |a::Q,t,s,hQ,hn,hp,h=>by
  obtain ⟨o,ho,YE⟩:=hQ a (by simp)
  obtain ⟨_,hL,Pp⟩:=Zg (Γ:=Γ) (ops:=ops) YE
  obtain ⟨tS,BZ⟩:=List.pairwise_cons.1 hp
  simp only [List.map_cons,Iz,ho] at h
  rw [Pp t (hn a (by simp))] at h
  refine ⟨hn a (by simp),we Q _ s (λc hc=>hQ c (List.mem_cons_of_mem _ hc)) (λc hc=>?_) BZ h⟩
  exact (hn c (List.mem_cons_of_mem _ hc)).plus (Ne.symm (tS c hc)) (λh=>tS c hc (hL.v1 _ h).symm) (by rw [hL.b1];simp)
end
end Go.Proofs.Ytjbdmibbbpdnnaa
