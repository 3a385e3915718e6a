/-
  Part 30 of the proof that the statement FnStateClasses holds.
-/
import Derived.Test.YtkkdpknjohcekaaCFStateClasses28
namespace Go.Proofs.Ytkkdpknjohcekaa
open Go.RowKit
def Ir (d:Nat) (v:AV) (b:OB) (st:St):St:= {tmps:=Rx st.tmps d v,heap:=Nz st.heap d b}
def nv (d:Nat) (st:St):Bool:=(st.get d).refs.isEmpty&&((st.tmps.all λv=>!v.refs.contains d)&&st.heap.all λp=>!Nat.beq p.1 d&&!p.2.refs.contains d)
structure Hw (d:Nat) (st:St):Prop where
 own:(st.get d).refs= []
 tmps: ∀v∈st.tmps,d∉v.refs
 heap: ∀p∈st.heap,p.1≠d/\d∉p.2.refs
theorem rJ {d:Nat} {st:St} (h:nv d st=true):Hw d st:=by
 unfold nv at h
 rw [Ag,Ag,Ba,Ba] at h
 obtain ⟨h0,h⟩:=h
 refine ⟨List.isEmpty_iff.1 h0,λv hv=>?_,λp hp=>?_⟩
 ·have:=h.1 v hv
  intro hd
  rw [Hk.2 hd] at this
  cases this
 ·have:=h.2 p hp
  rw [Ag] at this
  refine ⟨λe=>?_,λhd=>?_⟩
  ·have h1:=this.1
   rw [e,Nat.beq_refl] at h1
   cases h1
  ·have h1:=this.2
   rw [Hk.2 hd] at h1
   cases h1
theorem NZ {d:Nat} {st:St} (h:Hw d st):nv d st=true:=by
 unfold nv
 rw [Ag,Ag,Ba,Ba]
 refine ⟨by rw [h.own];rfl,λv hv=>?_,λp hp=>?_⟩
 ·rw [Fk,<-Hs,Hk];exact h.tmps v hv
 ·rw [Ag]
  refine ⟨?_,?_⟩
  ·rw [Fk,<-Hs]
   exact λe=>(h.heap p hp).1 (Ja e)
  ·rw [Fk,<-Hs,Hk];exact (h.heap p hp).2
structure pW (d:Nat) (v:AV) (b:OB):Prop where
 v1: ∀l,l∈v.refs->l=d
 b1:b.refs= []
 v2: ∀l,l≠d->v.map (Cl l)=v
 b2: ∀l,b.map (Cl l)=b
theorem cN {α:Type} : ∀(xs:List α) (d t:Nat) (v x:α),d≠t->(Rx xs d v).getD t x=xs.getD t x
 | [],_,_,_,_,_=>rfl
 |y::r,0,0,_,_,h=>absurd rfl h
 |y::r,0,t+1,_,_,_=>by simp [Rx]
 |y::r,d+1,0,_,_,_=>by simp [Rx]
 |y::r,d+1,t+1,v,x,h=>by simpa [Rx] using cN r d t v x (by omega)
theorem nL {α:Type} : ∀(xs:List α) (d e:Nat) (v w:α),d≠e->Rx (Rx xs d v) e w=Rx (Rx xs e w) d v
 | [],_,_,_,_,_=>rfl
 |y::r,0,0,_,_,h=>absurd rfl h
 |y::r,0,e+1,_,_,_=>rfl
 |y::r,d+1,0,_,_,_=>rfl
 |y::r,d+1,e+1,v,w,h=>by simp only [Rx];rw [nL r d e v w (by omega)]
theorem uP: ∀(H:List (Nat×OB)) (d l:Nat) (b:OB),d≠l->At (Nz H d b) l=At H l
 | [],d,l,b,h=>by simp [Nz,At,h]
 |(k,c)::r,d,l,b,h=>by
  simp only [Nz]
  split
  ·simp only [At];rw [Ai h]
  ·simp only [At]
   split
   ·rfl
   ·exact uP r d l b h
theorem uW: ∀(H:List (Nat×OB)) (d e:Nat) (b c:OB),d≠e->Nz (Nz H d b) e c=Nz (Nz H e c) d b
 | [],d,e,b,c,h=>by
  simp only [Nz]
  by_cases h1:e<d
  ·rw [Ac h1,Ai (by omega)]
  ·rw [Ai h1,Ac (by omega)]
 |(k,a)::r,d,e,b,c,h=>by
  simp only [Nz]
  by_cases h1:d<k<;>by_cases h2:e<k
  ·rw [Ac h1,Ac h2]
   simp only [Nz]
   by_cases h3:e<d
   ·rw [Ac h3,Ai (by omega),Ac h1]
   ·rw [Ai h3,Ac h2,Ac (by omega)]
  ·rw [Ac h1,Ai h2]
   simp only [Nz]
   rw [Ai (by omega),Ai h2,Ac h1]
  ·rw [Ai h1,Ac h2]
   simp only [Nz]
   rw [Ac h2,Ai (by omega),Ai h1]
  ·rw [Ai h1,Ai h2]
   simp only [Nz]
   rw [Ai h1,Ai h2,uW r d e b c h]
theorem vW: ∀(H:List (Nat×OB)) (d l:Nat) (b c:OB),d≠l->Ze (Nz H d b) l c=Nz (Ze H l c) d b
 | [],d,l,b,c,h=>by simp [Nz,Ze,h]
 |(k,a)::r,d,l,b,c,h=>by
  simp only [Nz,Ze]
  by_cases h1:d<k<;>by_cases h2:k=l
  ·rw [Ac h1,Ac h2]
   simp only [Ze,Nz]
   rw [Ai h,Ac h2,Ac h1]
  ·rw [Ac h1,Ai h2]
   simp only [Ze,Nz]
   rw [Ai h,Ai h2,Ac h1]
  ·rw [Ai h1,Ac h2]
   simp only [Ze,Nz]
   rw [Ac h2,Ai h1]
  ·rw [Ai h1,Ai h2]
   simp only [Ze,Nz]
   rw [Ai h2,Ai h1,vW r d l b c h]
theorem od {l:Nat} : ∀ {c:AC},l∉c.refs->Cl l c=c:=by
 intro c h
 cases c<;>simp only [Cl]<;>simp only [AC.refs,Ae] at h
 case clo f Dz=>rw [Ai (by simpa using h)]
 all_goals (first|rfl|rw [Ai (Fv h)])
theorem Zz {l:Nat} : ∀ {cs:List AC},l∉cs.flatMap AC.refs->cs.map (Cl l)=cs
 | [],_=>rfl
 |c::r,h=>by
  rw [Kr,Az] at h
  rw [Bk,od (λhh=>h (.inl hh)),Zz (λhh=>h (.inr hh))]
theorem zW {l:Nat} : ∀ {v:AV},l∉v.refs->v.map (Cl l)=v
 | .at a,h=>by simp only [AV.map];rw [od h]
 | .agg cs,h=>by simp only [AV.map];rw [Zz h]
 | .ay _ _ _,_=>rfl
 | .Mh ps,h=>by
  simp only [AV.map]
  congr 1
  simp only [AV.refs] at h
  induction ps with
  |nil=>rfl
  |cons p r ih=>
   rw [Kr,Az] at h
   rw [Bk,Zz (λhh=>h (.inl hh)),ih (λhh=>h (.inr hh))]
theorem zX {l:Nat} : ∀ {b:OB},l∉b.refs->b.map (Cl l)=b
 | .arr _ _ _ _ _,_=>rfl
 | .Gg _ _ _,_=>rfl
 | .var _ vs,h=>by simp only [OB.map];rw [Zz h]
 | .Bo _ _ _ _ _,_=>rfl
 | .Ur _ _,_=>rfl
theorem zE {l:Nat} : ∀ {H:List (Nat×OB)},(∀p∈H,p.1≠l)->Zk H l=H
 | [],_=>rfl
 |(k,b)::r,h=>by
  simp only [Zk]
  rw [Ai (h (k,b) (by simp)),zE λp hp=>h p (by simp [hp])]
theorem Hw.forget {l:Nat} {st:St} (h:Hw l st):st.forget l=st:=by
 have e1:st.tmps.map (λv=>v.map (Cl l))=st.tmps:=(Fz λv hv=>zW (h.tmps v hv)).trans (List.map_id _)
 have e2:st.heap.map (λp=>(p.1,p.2.map (Cl l)))=st.heap:=(Fz λp hp=>by rw [zX (h.heap p hp).2];rfl).trans (List.map_id _)
 unfold St.forget St.Km
 simp only [e1,e2]
 rw [zE λp hp=>(h.heap p hp).1]
theorem Hw.new {l:Nat} {st:St} (h:Hw l st) (b:OB) (v:AV):(st.new l b).put (some l) v=Ir l v b st:=by
 unfold St.new
 rw [h.forget]
 rfl
theorem rD {α:Type} : ∀ {xs:List α} {d:Nat} {v x:α},x∈Rx xs d v->x∈xs\/x=v
 | [],_,_,_,h=>by cases h
 |y::r,0,v,x,h=>by
  rcases Ay.1 h with h|h
  ·exact .inr h
  ·exact .inl (An _ h)
 |y::r,d+1,v,x,h=>by
  rcases Ay.1 h with h|h
  ·exact .inl (by rw [h];simp)
  ·exact (rD h).imp (An _) id
theorem BG: ∀ {H:List (Nat×OB)} {d:Nat} {b:OB} {p:Nat×OB},p∈Nz H d b->p∈H\/p=(d,b)
 | [],d,b,p,h=> .inr (by simpa [Nz] using h)
 |(k,c)::r,d,b,p,h=>by
  simp only [Nz] at h
  split at h
  ·rcases Ay.1 h with h|h
   ·exact .inr h
   ·exact .inl h
  ·rcases Ay.1 h with h|h
   ·exact .inl (by rw [h];simp)
   ·exact (BG h).imp (An _) id
theorem XO {d:Nat} {v:AV} {b:OB} {st:St} {x:Operand} (h:x≠ .tmp d):(Ir d v b st).ev x=st.ev x:=by
 cases x with
 |tmp t=>exact cN _ _ _ _ _ (λe=>h (by rw [e]))
 |_=>rfl
theorem JZ {d l:Nat} {v:AV} {b:OB} {st:St} (h:d≠l):(Ir d v b st).at l=st.at l:=uP _ _ _ _ h
theorem RJ {d e:Nat} {v u:AV} {b:OB} {st:St} (h:d≠e):(Ir d v b st).put (some e) u=Ir d v b (st.put (some e) u):=by
 unfold Ir St.put
 simp only
 rw [nL _ _ _ _ _ h]
theorem MG {d l:Nat} {v:AV} {b c:OB} {st:St} (h:d≠l):(Ir d v b st).Ji l c=Ir d v b (st.Ji l c):=by
 unfold Ir St.Ji
 simp only
 rw [vW _ _ _ _ _ h]
theorem uw {d e:Nat} {v u:AV} {b c:OB} {st:St} (h:d≠e):Ir e u c (Ir d v b st)=Ir d v b (Ir e u c st):=by
 unfold Ir
 rw [nL _ _ _ _ _ h,uW _ _ _ _ _ h]
theorem Hw.put {d:Nat} {st:St} {e:Nat} {u:AV} (h:Hw d st) (YI:e≠d) (hu:d∉u.refs):Hw d (st.put (some e) u):=
 ⟨by show (List.getD (Rx st.tmps e u) d .undef).refs= [];rw [cN _ _ _ _ _ YI];exact h.own,λv hv=>(rD hv).elim (h.tmps v) λe=>by rw [e];exact hu,h.heap⟩
theorem Hw.plus {d e:Nat} {u:AV} {c:OB} {st:St} (h:Hw d st) (YI:d≠e) (hu:d∉u.refs) (hc:d∉c.refs):Hw d (Ir e u c st):=
 ⟨by show (List.getD (Rx st.tmps e u) d .undef).refs= [];rw [cN _ _ _ _ _ (Fv YI)];exact h.own,λv hv=>(rD hv).elim (h.tmps v) λe=>by rw [e];exact hu,λp hp=>(BG hp).elim (h.heap p) λe'=>by rw [e'];exact ⟨Fv YI,hc⟩⟩
theorem Hw.Adz {d e:Nat} {u:AV} {c:OB} {st:St} (h:Hw d (Ir e u c st)): ∀p∈st.heap,p.1≠d/\d∉p.2.refs:= λp hp=>h.heap p (by
 show p∈Nz st.heap e c
 generalize st.heap=H at hp
 induction H with
 |nil=>cases hp
 |cons q r ih=>
  obtain ⟨k,a⟩:=q
  simp only [Nz]
  split
  ·exact An _ hp
  ·rcases Ay.1 hp with hp|hp
   ·rw [hp];simp
   ·exact An _ (ih hp))
theorem pA {st st':St} : ∀(τ:Ty) (cs:List AC),cs.all (·.settled)=true->Et st' τ cs=Et st τ cs:=by
 intro τ
 induction τ with
 |unit=>intro cs _;cases cs<;>rfl
 |pair a r fH fF=>
  intro cs h
  simp only [Et]
  rw [Ba] at h
  rw [fH _ (Ba.2 λc hc=>h c (Ib hc)),fF _ (Ba.2 λc hc=>h c (cz hc))]
 |_=>
  intro cs h
  rcases cs with _|⟨c,_|⟨c',cs⟩⟩
  ·rfl
  ·simp only [Iw,List.all_nil,Bool.and_true] at h
   simp only [Et]
   exact ae h
  ·rfl
theorem eJ {st st':St} {τ:Ty} {v:AV} (h:v.settled=true):Ff st' τ v=Ff st τ v:=by
 cases v with
 | «at»a=>
  have ha:a.settled=true:=h
  cases a<;>simp only [AC.settled,Cx] at ha
  all_goals
   simp only [Ff]
   rw [Px rfl,Px rfl]
   rw [ae (st:=st) (st':=st') rfl]
 |agg cs=>simp only [Ff];rw [pA _ _ h]
 |ay _ _ _=>rfl
 |Mh _=>rfl
theorem iw {st st':St} : ∀(τ:Ty) (vs:List AV),vs.all (·.settled)=true->Dq st' τ vs=Dq st τ vs
 | .pair a r,v::vs,h=>by
  rw [Iw,Ag] at h
  simp only [Dq]
  rw [eJ (st:=st) (st':=st') h.1,iw r vs h.2]
 | .pair _ _,[],_=>rfl
 | .unit,[],_=>rfl
 | .unit,_::_,_=>rfl
 | .int _,vs,_=>by cases vs<;>rfl
 | .bool,vs,_=>by cases vs<;>rfl
 | .str,vs,_=>by cases vs<;>rfl
 | .slice _,vs,_=>by cases vs<;>rfl
 | .oslice _,vs,_=>by cases vs<;>rfl
 | .ptr _,vs,_=>by cases vs<;>rfl
 | .optr _,vs,_=>by cases vs<;>rfl
 | .smap _,vs,_=>by cases vs<;>rfl
 | .clo _ _,vs,_=>by cases vs<;>rfl
def Vn:AV->Bool
 | .at (.data _ _ _)=>true
 |_=>false
def iu (o:Oper):List Operand:=match o.op with
 | .move x=> [x]
 | .load _ x=> [x]
 | .call {callee:= .value (.func _),args, .. } =>args.toList
 | .insert _ m k x=> [m,k,x]
 | .buildSlice _ _ parts=>parts.toList.map (·.2)
 |_=> []
def gM (d:Nat):Operand->Bool
 | .tmp t=>!Nat.beq t d
 |_=>true
theorem OC {d:Nat} {x:Operand} (h:gM d x=true):x≠ .tmp d:= λe=>by
 subst e
 simp [gM] at h
def Vq (Γ:Env) (st:St) (o:Oper):Bool:=match o.guard with
 |some _=>false
 |none=>match o.op with
  | .move _=>true
  | .load _ x=>(match st.ev x with
   | .at (.Gp _ _)=>true
   |_=>false)
  | .call {callee:= .value (.func f),args, .. } =>(match Γ f with
   |some (.q _)=>true
   |_=>false)&&args.toList.all λx=>(st.ev x).settled
  | .insert _ m k x=>(match st.ev m with
   | .at (.Jt _)=>true
   |_=>false)&&Vn (st.ev k)&&(st.ev x).settled
  | .buildSlice _ _ parts=>(parts.toList.all λp=>Vn (st.ev p.2))&&(match o.dst with
   |some e=>nv e st
   |none=>false)
  |_=>false
theorem Hw.ev {d:Nat} {st:St} (h:Hw d st) (x:Operand):d∉(st.ev x).refs:=by
 cases x with
 |tmp t=>
  simp only [St.ev,St.get]
  rw [Ah]
  by_cases hl:t<st.tmps.length
  ·rw [Ab hl];exact h.tmps _ (Al hl)
  ·rw [Ds (Nat.le_of_not_lt hl)];simp [AV.refs,AC.refs]
 |const c=>
  simp only [St.ev]
  unfold ll
  split<;>simp [AV.refs,AC.refs]
 |func f=>simp [St.ev,AV.refs,AC.refs]
 |_=>simp [St.ev,AV.refs,AC.refs]
theorem AE: ∀ {H:List (Nat×OB)} {l:Nat} {b:OB},At H l=some b->(l,b)∈H
 |(k,c)::r,l,b,h=>by
  simp only [At] at h
  split at h
  ·rename_i e;subst e;cases h;simp
  ·exact An _ (AE h)
section
variable {T:Tab} {Γ:Env} {ops:Array Oper} {d:Nat} {v:AV} {b:OB} {t:St}
theorem vN {e:Option Tmp} (h:e≠some d) (hn:Hw d t) {y:AV} (hy:d∉y.refs):(Ir d v b t).put e y=Ir d v b (t.put e y)/\Hw d (t.put e y):=by
 cases e with
 |none=>exact ⟨rfl,hn⟩
 |some k=>exact ⟨RJ (λe=>h (by rw [e])),hn.put (λe=>h (by rw [e])) hy⟩
theorem gU {o:Oper} (hg:o.guard=none) (cQ:o.dst≠some d) (hn:Hw d t) {q:Option AV} (h1:evalOp T Γ (Ir d v b t) o=q.map λy=>(y,Ir d v b t)) (h2:evalOp T Γ t o=q.map λy=>(y,t)) (hq: ∀y,q=some y->d∉y.refs) {s':St}
  (he:Er T Γ ops (Ir d v b t) o=some s'): ∃t',Er T Γ ops t o=some t'/\s'=Ir d v b t'/\Hw d t':=by
 unfold Er at he⊢
 rw [hg] at he⊢
 simp only at he⊢
 rw [h1] at he
 cases q with
 |none=>cases he
 |some y=>
  obtain ⟨p1,p2⟩:=vN (v:=v) (b:=b) cQ hn (hq y rfl)
  refine ⟨_,by rw [h2];rfl,?_,p2⟩
  simp only [Ak,Aa] at he
  rw [<-he,p1]
theorem Yj {l:List Operand} (hu:l.all (gM d)=true): ∀x∈l,(Ir d v b t).ev x=t.ev x:= λx hx=>XO (OC (Ba.1 hu x hx))
theorem HF {dst:Option Tmp} {x:Operand} {ty:TypeId} {pos:String} {after:Array Edge} (hn:Hw d t) (hx:(Ir d v b t).ev x=t.ev x) (cQ:dst≠some d) {s':St}
  (he:Er T Γ ops (Ir d v b t) {dst:=dst,op:= .move x,type:=ty,pos:=pos,after:=after,guard:=none} =some s'):
  ∃t',Er T Γ ops t {dst:=dst,op:= .move x,type:=ty,pos:=pos,after:=after,guard:=none} =some t'/\s'=Ir d v b t'/\Hw d t':=
 gU rfl cQ hn (q:=some (t.ev x)) (by simp only [evalOp,Eu,hx]) (by simp only [evalOp,Eu]) (λy hy=>by cases hy;exact hn.ev x) he
def loadVar (T:Tab) (o:Option OB) (t0:TypeId) (i:Nat):Option AV:=match T.ty t0 with
 |some τ=>(match o with
  |some (.var _ vs)=>if τ.Ap then (if i+τ.size<=vs.length then some (.agg ((vs.drop i).take τ.size)) else none) else vs[i]?.map .at
  |_=>none)
 |none=>none
theorem jm {st:St} {t0:TypeId} {l i:Nat} :Pq T st t0 (.at (.Gp l i))=loadVar T (st.at l) t0 i:=by
 unfold Pq loadVar
 cases T.ty t0<;>rfl
theorem HB {dst:Option Tmp} {t0:TypeId} {x:Operand} {ty:TypeId} {pos:String} {after:Array Edge} (hn:Hw d t) (hx:(Ir d v b t).ev x=t.ev x) (cQ:dst≠some d) {l i:Nat} (hp:t.ev x= .at (.Gp l i)) {s':St}
  (he:Er T Γ ops (Ir d v b t) {dst:=dst,op:= .load t0 x,type:=ty,pos:=pos,after:=after,guard:=none} =some s'):
  ∃t',Er T Γ ops t {dst:=dst,op:= .load t0 x,type:=ty,pos:=pos,after:=after,guard:=none} =some t'/\s'=Ir d v b t'/\Hw d t':=by
 have hld:d≠l:= λe=>by
  have:=hn.ev x
  rw [hp,e] at this
  exact this (by simp [AV.refs,AC.refs])
 refine gU rfl cQ hn (q:=loadVar T (t.at l) t0 i) ?_ ?_ (λy hy=>?_) he
 ·simp only [evalOp,Eu,hx,hp]
  rw [jm,JZ hld]
 ·simp only [evalOp,Eu,hp]
  rw [jm]
 ·unfold loadVar at hy
  split at hy
  ·split at hy
   ·rename_i vs hb
    have hr:d∉vs.flatMap AC.refs:=(hn.heap _ (AE hb)).2
    have ja: ∀c∈vs,d∉c.refs:= λc hc hd=>hr (Ey.2 ⟨c,hc,hd⟩)
    split at hy
    ·split at hy
     ·cases hy
      intro hd
      obtain ⟨c,hc,hd⟩:=Ey.1 hd
      exact ja c (cz (Ib hc)) hd
     ·cases hy
    ·cases hv:vs[i]? with
     |none=>rw [hv] at hy;cases hy
     |some c=>
      rw [hv] at hy
      cases hy
      exact ja c (Cf hv)
   ·cases hy
  ·cases hy
theorem MJ {l:List Operand} (hu:l.all (gM d)=true):l.map (Ir d v b t).ev=l.map t.ev:=Fz λx hx=>Yj hu x hx
theorem FD {dst:Option Tmp} {f:FuncId} {args:Array Operand} {tys:Array TypeId} {ty:TypeId} {pos:String} {after:Array Edge} {sp:Spec} (Oh:Γ f=some (.q sp)) (hn:Hw d t) (hx:args.toList.map (Ir d v b t).ev=args.toList.map t.ev) (cQ:dst≠some d)
  (hs:(args.toList.map t.ev).all (·.settled)=true) {s':St} (he:Er T Γ ops (Ir d v b t) {dst:=dst,op:= .call {callee:= .value (.func f),args:=args,argTypes:=tys},type:=ty,pos:=pos,after:=after,guard:=none} =some s'):
  ∃t',Er T Γ ops t {dst:=dst,op:= .call {callee:= .value (.func f),args:=args,argTypes:=tys},type:=ty,pos:=pos,after:=after,guard:=none} =some t'/\s'=Ir d v b t'/\Hw d t':=by
 have KW:dZ sp (args.toList.map t.ev)=false:=by unfold dZ;rw [hs];simp
 have FY: ∀st:St,Of Γ st f (args.toList.map t.ev)=(match Dq t sp.arg (args.toList.map t.ev) with
   |none=>none
   |some (_,x)=>(sp.fn x).map λy=>if sp.Gh then .ay (sp.fresh||sp.res.flat) sp.res y else .at (.data (sp.fresh||sp.res.flat) sp.res y)):= λst=>by
  unfold Of
  rw [Oh]
  simp only
  rw [hs,iw (st:=t) _ _ hs]
  simp only [Bool.or_true,Oy]
  cases Dq t sp.arg (args.toList.map t.ev)<;>rfl
 refine gU rfl cQ hn (q:=Of Γ t f (args.toList.map t.ev)) ?_ ?_ (λy hy=>?_) he
 ·simp only [evalOp,Eu,Oh,hx,KW]
  rw [FY,FY t]
  simp
 ·simp only [evalOp,Eu,Oh,KW]
  simp
 ·rw [FY t] at hy
  split at hy
  ·cases hy
  ·rename_i x _
   cases hf:sp.fn x with
   |none=>rw [hf] at hy;cases hy
   |some z=>
    rw [hf] at hy
    simp only [Ak,Aa] at hy
    rw [<-hy]
    split<;>simp [AV.refs,AC.refs]
def me (T:Tab) (o:Option OB) (t0:TypeId) (s:ByteArray) (vw:(v:Ty)->Option (Bool×v.den)):Option OB:=match T.mapOf t0 with
 |some v=>(match o,vw v with
  |some (.Ur v' f),some (_,y)=>if h:v'=v/\v.flat=true/\v.Ap=false then some (.Ur v (eI (h.1▸f:ByteArray->Option v.den) s y)) else none
  |_,_=>none)
 |none=>none
theorem jn {st:St} {t0:TypeId} {l:Nat} {fr:Bool} {s:ByteArray} {x:AV} :Ip T st t0 (.at (.Jt l)) (.at (.data fr .str s)) x=(me T (st.at l) t0 s λv=>Ff st v x).map λc=>st.Ji l c:=by
 unfold Ip me
 cases T.mapOf t0 with
 |none=>rfl
 |some v0=>
  simp only
  cases st.at l with
  |none=>rfl
  |some c=>
   cases c with
   |Ur v' f=>
    cases Ff st v0 x with
    |none=>rfl
    |some p=>
     simp only
     split<;>rfl
   |_=>rfl
theorem BD {o:Option OB} {t0:TypeId} {s:ByteArray} {vw:(v:Ty)->Option (Bool×v.den)} {c:OB} (h:me T o t0 s vw=some c):c.refs= []:=by
 unfold me at h
 split at h
 ·split at h
  ·split at h
   ·cases h;rfl
   ·cases h
  ·cases h
 ·cases h
theorem qE {st:St} {t0:TypeId} {m k x:AV} {s':St} (h:Ip T st t0 m k x=some s'): ∃l fr s,m= .at (.Jt l)/\k= .at (.data fr .str s):=by
 unfold Ip at h
 split at h
 ·exact ⟨_,_,_,rfl,rfl⟩
 ·cases h
theorem BH: ∀ {H:List (Nat×OB)} {l:Nat} {c:OB} {p:Nat×OB},p∈Ze H l c->p∈H\/(p.2=c/\p.1=l/\ ∃c',(l,c')∈H)
 |(k,a)::r,l,c,p,h=>by
  simp only [Ze] at h
  split at h
  ·rename_i e
   rcases Ay.1 h with h|h
   ·subst h;exact .inr ⟨rfl,e,a,by rw [e];simp⟩
   ·exact .inl (An _ h)
  ·rcases Ay.1 h with h|h
   ·exact .inl (by rw [h];simp)
   ·exact (BH h).imp (An _) λ⟨h1,h2,c',h3⟩=>⟨h1,h2,c',An _ h3⟩
theorem Hw.Ji {st:St} {l:Nat} {c:OB} (h:Hw d st) (hc:d∉c.refs):Hw d (st.Ji l c):=
 ⟨h.own,h.tmps,λp hp=>(BH hp).elim (h.heap p) λ⟨h1,h2,c',h3⟩=>⟨by rw [h2];exact (h.heap _ h3).1,by rw [h1];exact hc⟩⟩
theorem x6 {dst:Option Tmp} {t0:TypeId} {m k x:Operand} {ty:TypeId} {pos:String} {after:Array Edge} (hn:Hw d t) (hm:(Ir d v b t).ev m=t.ev m) (hk:(Ir d v b t).ev k=t.ev k) (hx:(Ir d v b t).ev x=t.ev x) (cQ:dst≠some d)
  (hs:(t.ev x).settled=true) {s':St} (he:Er T Γ ops (Ir d v b t) {dst:=dst,op:= .insert t0 m k x,type:=ty,pos:=pos,after:=after,guard:=none} =some s'):
  ∃t',Er T Γ ops t {dst:=dst,op:= .insert t0 m k x,type:=ty,pos:=pos,after:=after,guard:=none} =some t'/\s'=Ir d v b t'/\Hw d t':=by
 unfold Er at he⊢
 simp only [evalOp,hm,hk,hx] at he⊢
 cases XJ:Ip T (Ir d v b t) t0 (t.ev m) (t.ev k) (t.ev x) with
 |none=>rw [XJ] at he;cases he
 |some s1=>
  rw [XJ] at he
  simp only [Ak,Aa] at he
  obtain ⟨l,fr,s,e1,e2⟩:=qE XJ
  have hld:d≠l:= λe=>by
   have:=hn.ev m
   rw [e1,e] at this
   exact this (by simp [AV.refs,AC.refs])
  rw [e1,e2,jn,JZ hld] at XJ
  have hvw:(λv0=>Ff (Ir d v b t) v0 (t.ev x))= λv0=>Ff t v0 (t.ev x):=funext λv0=>eJ hs
  rw [hvw] at XJ
  rw [e1,e2,jn]
  cases ho:me T (t.at l) t0 s λv0=>Ff t v0 (t.ev x) with
  |none=>rw [ho] at XJ;cases XJ
  |some c=>
   rw [ho] at XJ
   simp only [Ak,Aa] at XJ
   have hc:=BD ho
   have pN:Hw d (t.Ji l c):=hn.Ji (by rw [hc];simp)
   obtain ⟨p1,p2⟩:=vN (v:=v) (b:=b) (y:= .undef) cQ pN (by simp [AV.refs,AC.refs])
   refine ⟨_,rfl,?_,p2⟩
   rw [<-he,<-XJ,MG hld,p1]
theorem Hw.back {e:Nat} (h:Hw e (Ir d v b t)) (YI:e≠d) (hn:Hw d t):Hw e t:=by
 have hg: ∀k,k≠d->(Ir d v b t).get k=t.get k:= λk hk=>cN _ _ _ _ _ (Fv hk)
 refine ⟨by rw [<-hg e YI];exact h.own,λu hu hd=>?_,h.Adz⟩
 obtain ⟨k,hk,rfl⟩:=Bx.1 hu
 have e1:t.get k=t.tmps[k]:=by unfold St.get;rw [Ah,Ab hk];rfl
 by_cases hkd:k=d
 ·subst hkd
  have:=hn.own
  rw [e1] at this
  rw [this] at hd
  cases hd
 ·have h1:=h.ev (.tmp k)
  have h2:(Ir d v b t).ev (.tmp k)=t.tmps[k]:=by show (Ir d v b t).get k=_;rw [hg k hkd,e1]
  rw [h2] at h1
  exact h1 hd
def kN (e:Ty):Nat->List (Nat×AV)->Option (Bool×Bool×List e.den)
 |_,[]=>some (true,true,[])
 |i,(j,x)::r=>if i=j then match Ff ⟨[],[]⟩ e x with
  |some (fr,y)=>match kN e (i+1) r with
   |some (Vc,WG,ys)=>some (fr&&Vc,Sr ⟨[],[]⟩ x&&e.tree&&WG,y::ys)
   |none=>none
  |none=>none
  else none
theorem cE {st:St} {e:Ty} : ∀(l:List (Nat×Operand)) (i:Nat),(l.all λp=>Vn (st.ev p.2))=true->Kv e i l st=(kN e i (l.map λp=>(p.1,st.ev p.2))).map λp=>(p.1,p.2.1,p.2.2,st)
 | [],i,_=>rfl
 |(j,x)::r,i,h=>by
  rw [Iw,Ag] at h
  have hx:Vn (st.ev x)=true:=h.1
  simp only [Kv,kN,Bk]
  split
  ·generalize hxv:st.ev x=xv at hx
   unfold Vn at hx
   split at hx
   ·rename_i fr τ z
    have Adh:settle st (.at (.data fr τ z))=some (.at (.data fr τ z),st):=rfl
    rw [Adh]
    simp only
    rw [eJ (st:=⟨[],[]⟩) (st':=st) (v:= .at (.data fr τ z)) rfl]
    cases Ff ⟨[],[]⟩ e (.at (.data fr τ z)) with
    |none=>rfl
    |some p=>
     simp only
     rw [cE r (i+1) h.2]
     cases kN e (i+1) (r.map λp=>(p.1,st.ev p.2)) with
     |none=>rfl
     |some q=>rfl
   ·cases hx
  ·rfl
def rowOf (T:Tab) (t0:TypeId) (len:Nat) (parts:List (Nat×AV)) (dst:Nat):Option (AV×OB):=match cO T t0 with
 |some _=>none
 |none=>match T.elem t0 with
  |none=>none
  |some te=>match T.ty te with
   |none=>none
   |some e=>if parts.length=len/\len<=64/\e.size<=64/\dst<Bl then (kN e 0 parts).map λp=>(.at (.own dst 0 len), .arr ((T.sS||e.flat)&&p.1) (T.z8&&p.2.1) e te p.2.2) else none
theorem fU {st:St} {t0:TypeId} {len dst:Nat} {parts:Array (Nat×Operand)} (h:(parts.toList.all λp=>Vn (st.ev p.2))=true):
  Io T st dst t0 len parts=(rowOf T t0 len (parts.toList.map λp=>(p.1,st.ev p.2)) dst).map λr=>(r.1,st.new dst r.2):=by
 unfold Io rowOf
 cases cO T t0 with
 |some p=>
  obtain ⟨te,e⟩:=p
  simp only [Option.map_none]
  split
  ·rename_i x hp
   rw [hp,Iw,Ag] at h
   have hx:Vn (st.ev x)=true:=h.1
   unfold Vn at hx
   split at hx
   ·rename_i hv;simp only [hv]
   ·cases hx
  ·rfl
 |none=>
  simp only
  unfold Mc
  cases T.elem t0 with
  |none=>rfl
  |some te=>
   simp only
   cases T.ty te with
   |none=>rfl
   |some e=>
    simp only [Hm,Wf]
    split
    ·rw [cE _ 0 h]
     cases kN e 0 (parts.toList.map λp=>(p.1,st.ev p.2))<;>rfl
    ·rfl
theorem oN {t0:TypeId} {len dst:Nat} {parts:List (Nat×AV)} {r:AV×OB} (h:rowOf T t0 len parts dst=some r):pW dst r.1 r.2:=by
 unfold rowOf at h
 split at h
 ·cases h
 ·split at h
  ·cases h
  ·split at h
   ·cases h
   ·split at h
    ·rename_i e _ _
     cases hp:kN e 0 parts with
     |none=>rw [hp] at h;cases h
     |some p=>
      rw [hp] at h
      simp only [Ak,Aa] at h
      subst h
      exact ⟨λl hl=>by simpa [AV.refs,AC.refs] using hl,rfl,λl hl=>by simp only [AV.map,Cl];rw [Ai (Fv hl)],λl=>rfl⟩
    ·cases h
theorem zu {e:Nat} {t0:TypeId} {len:Nat} {parts:Array (Nat×Operand)} {ty:TypeId} {pos:String} {after:Array Edge} (_hl:pW d v b) (hn:Hw d t) (hx: ∀p∈parts.toList,(Ir d v b t).ev p.2=t.ev p.2) (cQ:e≠d)
  (hp:(parts.toList.all λp=>Vn (t.ev p.2))=true) (Hq:Hw e (Ir d v b t)) {s':St} (he:Er T Γ ops (Ir d v b t) {dst:=some e,op:= .buildSlice t0 len parts,type:=ty,pos:=pos,after:=after,guard:=none} =some s'):
  ∃t',Er T Γ ops t {dst:=some e,op:= .buildSlice t0 len parts,type:=ty,pos:=pos,after:=after,guard:=none} =some t'/\s'=Ir d v b t'/\Hw d t':=by
 have Ad9:=Hq.back cQ hn
 have KX:(parts.toList.all λp=>Vn ((Ir d v b t).ev p.2))=true:=Ba.2 λp wZ=>by rw [hx p wZ];exact Ba.1 hp p wZ
 have hm:(parts.toList.map λp=>(p.1,(Ir d v b t).ev p.2))=parts.toList.map λp=>(p.1,t.ev p.2):=Fz λp wZ=>by rw [hx p wZ]
 unfold Er at he⊢
 simp only [evalOp] at he⊢
 rw [fU KX,hm] at he
 rw [fU hp]
 cases hr:rowOf T t0 len (parts.toList.map λp=>(p.1,t.ev p.2)) e with
 |none=>rw [hr] at he;cases he
 |some r=>
  rw [hr] at he
  have hL:=oN hr
  simp only [Ak,Aa] at he
  rw [Hq.new] at he
  refine ⟨Ir e r.1 r.2 t,by simp only [Ak];rw [Ad9.new],?_,hn.plus (Fv cQ) (λh=>cQ (hL.v1 _ h).symm) (by rw [hL.b1];simp)⟩
  rw [<-he,uw (Fv cQ)]
def evC:Operand->AV
 | .const c=>ll c
 |_=> .undef
theorem Acb {st:St} {x:Operand} (h:Vn (evC x)=true):st.ev x=evC x:=by
 cases x<;>first|rfl|cases h
def dC (T:Tab) (o:Oper):Option (Nat×AV×OB):=match o.guard with
 |some _=>none
 |none=>match o.dst with
  |none=>none
  |some d=>match o.op with
   | .buildSlice t0 len parts=>if (parts.toList.all λp=>Vn (evC p.2))=true then (rowOf T t0 len (parts.toList.map λp=>(p.1,evC p.2)) d).map λr=>(d,r.1,r.2) else none
   | .makeMap t0 none=>match T.mapOf t0 with
    |some τ=>if d<Bl then some (d, .at (.Jt d), .Ur τ λ_=>none) else none
    |none=>none
   |_=>none
theorem dD {o:Oper} {r:Nat×AV×OB} (h:dC T o=some r):o.dst=some r.1/\pW r.1 r.2.1 r.2.2/\ ∀st:St,Hw r.1 st->Er T Γ ops st o=some (Ir r.1 r.2.1 r.2.2 st):=by
 obtain ⟨dst,op,ty,pos,after,guard⟩:=o
 unfold dC at h
 cases guard with
 |some g=>cases h
 |none=>
  cases dst with
  |none=>cases h
  |some d=>
   cases op with
   |buildSlice t0 len parts=>
    simp only at h
    split at h
    ·rename_i hp
     cases hr:rowOf T t0 len (parts.toList.map λp=>(p.1,evC p.2)) d with
     |none=>rw [hr] at h;cases h
     |some q=>
      rw [hr] at h
      simp only [Ak,Aa] at h
      subst h
      refine ⟨rfl,oN hr,λst Ya=>?_⟩
      have FY: ∀p∈parts.toList,st.ev p.2=evC p.2:= λp wZ=>Acb (Ba.1 hp p wZ)
      have hm:(parts.toList.map λp=>(p.1,st.ev p.2))=parts.toList.map λp=>(p.1,evC p.2):=Fz λp wZ=>by rw [FY p wZ]
      have KX:(parts.toList.all λp=>Vn (st.ev p.2))=true:=Ba.2 λp wZ=>by rw [FY p wZ];exact Ba.1 hp p wZ
      unfold Er
      simp only [evalOp]
      rw [fU KX,hm,hr]
      simp only [Ak]
      rw [Ya.new]
    ·cases h
   |makeMap t0 hint=>
    cases hint with
    |some x=>cases h
    |none=>
     simp only at h
     split at h
     ·rename_i τ Sz
      split at h
      ·rename_i hd
       cases h
       refine ⟨rfl,⟨λl hl=>by simpa [AV.refs,AC.refs] using hl,rfl,λl hl=>by simp only [AV.map,Cl];rw [Ai (Fv hl)],λl=>rfl⟩,λst Ya=>?_⟩
       unfold Er
       simp only [evalOp,Tx,Sz,Ac hd,Ak]
       rw [Ya.new]
      ·cases h
     ·cases h
   |_=>cases h
theorem xZ {l:List Operand} (h: ∀x∈l,(Ir d v b t).ev x=t.ev x):(l.all λx=>((Ir d v b t).ev x).settled)=(l.map t.ev).all (·.settled):=by
 rw [List.all_map]
 induction l with
 |nil=>rfl
 |cons x r ih=>
  simp only [Iw,Function.comp]
  rw [h x (by simp),ih λy hy=>h y (by simp [hy])]
theorem y0 {o:Oper} (hl:pW d v b) (hn:Hw d t) (hs:Vq Γ (Ir d v b t) o=true) (hu:(iu o).all (gM d)=true) (cQ:o.dst≠some d) {s':St} (he:Er T Γ ops (Ir d v b t) o=some s'):
  ∃t',Er T Γ ops t o=some t'/\s'=Ir d v b t'/\Hw d t'/\Vq Γ t o=true:=by
 obtain ⟨dst,op,ty,pos,after,guard⟩:=o
 unfold Vq at hs
 cases guard with
 |some g=>cases hs
 |none=>
  simp only at hs
  split at hs
  ·rename_i x
   have hx:=Yj (v:=v) (b:=b) (t:=t) hu x (by simp [iu])
   obtain ⟨t',h1,h2,h3⟩:=HF hn hx cQ he
   exact ⟨t',h1,h2,h3,rfl⟩
  ·rename_i t0 x
   have hx:=Yj (v:=v) (b:=b) (t:=t) hu x (by simp [iu])
   rw [hx] at hs
   split at hs
   ·rename_i l i hp
    obtain ⟨t',h1,h2,h3⟩:=HB hn hx cQ hp he
    exact ⟨t',h1,h2,h3,by simp only [Vq,hp]⟩
   ·cases hs
  ·rename_i f args tys
   rw [Ag] at hs
   obtain ⟨jb,sX⟩:=hs
   split at jb
   ·rename_i sp Oh
    have FY:=Yj (v:=v) (b:=b) (t:=t) (l:=args.toList) hu
    rw [xZ FY] at sX
    obtain ⟨t',h1,h2,h3⟩:=FD Oh hn (MJ hu) cQ sX he
    refine ⟨t',h1,h2,h3,?_⟩
    simp only [Vq,Oh,fG]
    rw [List.all_map] at sX
    exact sX
   ·cases jb
  ·rename_i t0 m k x
   have hm:=Yj (v:=v) (b:=b) (t:=t) hu m (by simp [iu])
   have hk:=Yj (v:=v) (b:=b) (t:=t) hu k (by simp [iu])
   have hx:=Yj (v:=v) (b:=b) (t:=t) hu x (by simp [iu])
   rw [hm,hk,hx] at hs
   have hs0:=hs
   rw [Ag] at hs
   obtain ⟨t',h1,h2,h3⟩:=x6 hn hm hk hx cQ hs.2 he
   exact ⟨t',h1,h2,h3,hs0⟩
  ·rename_i t0 len parts
   rw [Ag] at hs
   obtain ⟨jb,sX⟩:=hs
   cases dst with
   |none=>cases sX
   |some e=>
    simp only at sX
    have hed:e≠d:= λh=>cQ (by rw [h])
    have fE:(parts.toList.map (λp=>p.2)).all (gM d)=true:=hu
    have FY:=Yj (v:=v) (b:=b) (t:=t) fE
    have hx: ∀p∈parts.toList,(Ir d v b t).ev p.2=t.ev p.2:= λp hp=>FY p.2 (Be.2 ⟨p,hp,rfl⟩)
    have hp:(parts.toList.all λp=>Vn (t.ev p.2))=true:=Ba.2 λp hp=>by rw [<-hx p hp];exact Ba.1 jb p hp
    have Hq:=rJ sX
    obtain ⟨t',h1,h2,h3⟩:=zu hl hn hx hed hp Hq he
    refine ⟨t',h1,h2,h3,?_⟩
    simp only [Vq,hp,fG]
    exact NZ (Hq.back hed hn)
  ·cases hs
def wm:List (Nat×AV×OB)->St->St->Prop
 | [],s,t=>s=t
 |q::Q,s,t=>Hw q.1 t/\wm Q s (Ir q.1 q.2.1 q.2.2 t)
theorem vG {o:Oper} : ∀(Q:List (Nat×AV×OB)) (s t s':St),wm Q s t->(∀q∈Q,pW q.1 q.2.1 q.2.2/\(iu o).all (gM q.1)=true/\o.dst≠some q.1)->Vq Γ s o=true->Er T Γ ops s o=some s'->
  ∃t',Er T Γ ops t o=some t'/\wm Q s' t'/\Vq Γ t o=true
 | [],s,t,s',h,_,hs,he=>by
  have h:s=t:=h
  subst h
  exact ⟨s',he,rfl,hs⟩
 |q::Q,s,t,s',⟨h1,h2⟩,hq,hs,he=>by
  obtain ⟨u',e1,e2,e3⟩:=vG Q s _ s' h2 (λp hp=>hq p (An _ hp)) hs he
  obtain ⟨l1,l2,l3⟩:=hq q (by simp)
  obtain ⟨t',f1,f2,f3,f4⟩:=y0 l1 h1 e3 l2 l3 e1
  exact ⟨t',f1,⟨f3,by rw [<-f2];exact e2⟩,f4⟩
theorem vH {q:Nat×AV×OB} : ∀(Q1:List (Nat×AV×OB)) {Q2:List (Nat×AV×OB)} {s t:St},wm (Q1++q::Q2) s t->(∀p∈Q1++q::Q2,pW p.1 p.2.1 p.2.2)->(∀p∈Q1,p.1≠q.1)->
  Hw q.1 t/\wm (Q1++Q2) s (Ir q.1 q.2.1 q.2.2 t)
 | [],Q2,s,t,h,_,_=>h
 |p::Q1,Q2,s,t,⟨h1,h2⟩,hL,Hq=>by
  have TC:=Hq p (by simp)
  have hLp:=hL p (by simp)
  have hLq:=hL q (by simp)
  obtain ⟨g1,g2⟩:=vH Q1 h2 (λr hr=>hL r (An _ hr)) λr hr=>Hq r (An _ hr)
  refine ⟨g1.back (Fv TC) h1,h1.plus TC (λh=>TC (hLq.v1 _ h)) (by rw [hLq.b1];simp),?_⟩
  show wm (Q1++Q2) s (Ir p.1 p.2.1 p.2.2 (Ir q.1 q.2.1 q.2.2 t))
  rw [uw (Fv TC)]
  exact g2
def kZ (ops:Array Oper):Nat->Nat->Nat->Bool
 |0,_,_=>false
 |f+1,i,a=>Region.waitsFor .any ops i a||(List.range ops.size).any λk=>Region.waitsFor .any ops i k&&kZ ops f k a
theorem jW {Af:Array Bool} (hc:Te ops Af) {a:Nat} : ∀(f i:Nat),(∀x,Region.waitsFor .any ops i x=true->Af.getD x false=true)->kZ ops f i a=true->Af.getD a false=true
 |0,_,_,h=>by cases h
 |f+1,i,hi,h=>by
  simp only [kZ,Li,Ht,Ag] at h
  rcases h with h|⟨k,_,h1,h2⟩
  ·exact hi a h
  ·exact jW hc f k (λx hx=>hc k x (hi k h1) hx) h2
def HJ (P:List (Nat×Nat×AV×OB)) (Γ:Env) (ops:Array Oper) (st:St) (o:Oper) (i:Nat):Bool:=
 (P.all λa=>kZ ops 5 i a.1)||(Vq Γ st o&&P.all λa=>kZ ops 5 i a.1||((iu o).all (gM a.2.1)&&(match o.dst with
  |some e=>!Nat.beq e a.2.1
  |none=>true)))
def Ac5 (T:Tab) (Γ:Env) (ops:Array Oper) (P:List (Nat×Nat×AV×OB)) (K:St->Prop):Nat->Array Bool->St->Prop
 |0,Af,st=>Region.ready .any ops Af= []/\K st
 |f+1,Af,st=>Region.ready .any ops Af≠ []/\ ∀i∈Region.ready .any ops Af,∃o st',ops[i]?=some o/\HJ P Γ ops st o i=true/\Er T Γ ops st o=some st'/\Ac5 T Γ ops P K f (Af.setIfInBounds i true) st'
structure QR (lc la:Array Bool) (Q:List Nat):Prop where
 size:la.size=lc.size
 off: ∀k∈Q,k<la.size/\la.getD k false=false/\lc.getD k false=true
 same: ∀k,k∉Q->la.getD k false=lc.getD k false
theorem QR.ready {lc la:Array Bool} {Q:List Nat} (h:QR lc la Q) {i:Nat} (hi:i∈Region.ready .any ops la) (hn:i∉Q):i∈Region.ready .any ops lc:=by
 obtain ⟨h1,o,ho,Kl⟩:=mem_ready.1 hi
 have Jl:i<la.size:=by
  rcases Nat.lt_or_ge i la.size with h'|h'
  ·exact h'
  ·simp [Array.getElem?_eq_none h'] at h1
 have h2:=getD_both h1
 rw [h.same i hn] at h2
 refine mem_ready.2 ⟨getD_in (by rw [<-h.size];exact Jl) h2,o,ho,λe he hb=>?_⟩
 have h3:=Kl e he hb
 by_cases hq:e.on∈Q
 ·exact (h.off _ hq).2.2
 ·rw [<-h.same _ hq];exact h3
theorem QR.nil {lc la:Array Bool} (h:QR lc la []):la=lc:=by
 refine Array.ext h.size λk h1 h2=>?_
 have:=h.same k (by simp)
 simpa [h1,h2] using this
theorem QR.one {lc la:Array Bool} {Q Q':List Nat} {i:Nat} (h:QR lc la Q) (hi:i∈Q) (hs: ∀k,k∈Q'↔k∈Q/\k≠i):QR lc (la.setIfInBounds i true) Q':=by
 refine ⟨by simp [h.size],λk hk=>?_,λk hk=>?_⟩
 ·obtain ⟨h1,h2⟩:=(hs k).1 hk
  obtain ⟨g1,g2,g3⟩:=h.off k h1
  exact ⟨by simpa using g1,by rw [getD_set_ne false (Fv h2)];exact g2,g3⟩
 ·by_cases e:i=k
  ·subst e
   obtain ⟨g1,g2,g3⟩:=h.off i hi
   rw [g3]
   simp [g1]
  ·rw [getD_set_ne false e]
   exact h.same k λhq=>hk ((hs k).2 ⟨hq,Fv e⟩)
theorem QR.both {lc la:Array Bool} {Q:List Nat} {i:Nat} (h:QR lc la Q) (hi:i∉Q):QR (lc.setIfInBounds i true) (la.setIfInBounds i true) Q:=by
 refine ⟨by simp [h.size],λk hk=>?_,λk hk=>?_⟩
 ·obtain ⟨g1,g2,g3⟩:=h.off k hk
  have Hq:i≠k:= λe=>hi (by rw [e];exact hk)
  exact ⟨by simpa using g1,by rw [getD_set_ne false Hq];exact g2,by rw [getD_set_ne false Hq];exact g3⟩
 ·by_cases e:i=k
  ·subst e
   have hs:=h.same i hi
   have hz:=h.size
   by_cases hl:i<la.size
   ·simp [hl,hz▸hl]
   ·have Ll: ¬i<lc.size:=by omega
    simp [hl,Ll]
  ·rw [getD_set_ne false e,getD_set_ne false e];exact h.same k hk
theorem HH {dst:Option Tmp} {d:Nat} (h:(match dst with
  |some e=>!Nat.beq e d
  |none=>true)=true):dst≠some d:= λe=>by
 subst e
 simp at h
theorem MH {P:List (Nat×Nat×AV×OB)} {K:St->Prop} (hP: ∀a∈P,∃o,ops[a.1]?=some o/\dC T o=some a.2):
  ∀(n f:Nat) (Q:List (Nat×Nat×AV×OB)) (lc la:Array Bool) (s t:St),n=f+Q.length->Ac5 T Γ ops P K f lc s->wm (Q.map (·.2)) s t->QR lc la (Q.map (·.1))->(∀a∈Q,a∈P)->
   (Q.Pairwise λa c=>a.2.1≠c.2.1/\a.1≠c.1)->Te ops la->(∀a∈Q,∀x,Region.waitsFor .any ops a.1 x=true->la.getD x false=true)->anyS T Γ ops K n la t:=by
 intro n
 induction n with
 |zero=>
  intro f Q lc la s t hn hC hp hb hQ hpw Py hw
  have hf:f=0:=by omega
  have hq:Q= []:=Ce (by omega)
  subst hf hq
  have hp:s=t:=hp
  subst hp
  rw [hb.nil]
  exact hC
 |succ n ih=>
  intro f Q lc la s t hn hC hp hb hQ hpw Py hw
  refine ⟨?_,λi hi=>?_⟩
  ·cases Q with
   |nil=>
    rw [hb.nil]
    cases f with
    |zero=>simp at hn
    |succ f=>exact hC.1
   |cons a Q=>
    obtain ⟨o,ho,_⟩:=hP a (hQ a (by simp))
    obtain ⟨g1,g2,_⟩:=hb.off a.1 (by simp)
    have:a.1∈Region.ready .any ops la:=mem_ready.2 ⟨getD_in g1 g2,o,ho,λe he hbd=>hw a (by simp) e.on (by
     unfold Region.waitsFor
     rw [ho]
     exact Array.any_eq_true'.2 ⟨e,he,by simp [hbd]⟩)⟩
    intro e
    rw [e] at this
    cases this
  ·by_cases hiQ:i∈Q.map (·.1)
   ·obtain ⟨a,ha,rfl⟩:=Be.1 hiQ
    obtain ⟨Q1,Q2,rfl⟩:=List.append_of_mem ha
    obtain ⟨o,ho,hal⟩:=hP a (hQ a ha)
    obtain ⟨_,_,Ya⟩:=dD (Γ:=Γ) (ops:=ops) hal
    have TE:=Ic.1 hpw
    have Ah7:=Lq.1 TE.2.1
    rw [Nn,Bk] at hp
    have hL: ∀p∈Q1.map (·.2)++a.2::Q2.map (·.2),pW p.1 p.2.1 p.2.2:= λp wZ=>by
     have:p∈(Q1++a::Q2).map (·.2):=by rw [Nn,Bk];exact wZ
     obtain ⟨c,hc,rfl⟩:=Be.1 this
     obtain ⟨o',_,Ald⟩:=hP c (hQ c hc)
     exact (dD (Γ:=Γ) (ops:=ops) Ald).2.1
    obtain ⟨p1,p2⟩:=vH _ hp hL λp wZ=>by
     obtain ⟨c,hc,rfl⟩:=Be.1 wZ
     exact (TE.2.2 c hc a (by simp)).1
    refine ⟨o,_,ho,Ya t p1,ih f (Q1++Q2) lc _ s _ ?_ hC (by rw [Nn];exact p2) (hb.one hiQ λk=>?_) (λc hc=>hQ c ?_) ?_ (Py.set hi) λc hc x hx=>getD_set_true (hw c ?_ x hx)⟩
    ·simp only [Au,Aw] at hn⊢;omega
    ·simp only [Nn,Bk,Az,Ay]
     constructor
     ·intro h
      rcases h with h|h
      ·obtain ⟨c,hc,rfl⟩:=Be.1 h
       exact ⟨.inl h,(TE.2.2 c hc a (by simp)).2⟩
      ·obtain ⟨c,hc,rfl⟩:=Be.1 h
       exact ⟨.inr (.inr h),Fv (Ah7.1 c hc).2⟩
     ·rintro ⟨h|h|h,Hq⟩
      ·exact .inl h
      ·exact absurd h Hq
      ·exact .inr h
    ·rcases Az.1 hc with hc|hc
     ·exact Bj _ hc
     ·exact Cc _ (An _ hc)
    ·exact Ic.2 ⟨TE.1,Ah7.2,λc hc e he=>TE.2.2 c hc e (An _ he)⟩
    ·rcases Az.1 hc with hc|hc
     ·exact Bj _ hc
     ·exact Cc _ (An _ hc)
   ·have hic:=hb.ready hi hiQ
    cases f with
    |zero=>
     rw [hC.1] at hic
     cases hic
    |succ f=>
     obtain ⟨o,s',ho,lR,he,eV⟩:=hC.2 i hic
     have YP: ∀a∈Q,kZ ops 5 i a.1=false:= λa ha=>by
      cases hwt:kZ ops 5 i a.1 with
      |false=>rfl
      |true=>
       have h1:=jW Py _ i (λx hx=>bN hi hx) hwt
       rw [(hb.off a.1 (Be.2 ⟨a,ha,rfl⟩)).2.1] at h1
       cases h1
     have key: ∃t',Er T Γ ops t o=some t'/\wm (Q.map (·.2)) s' t':=by
      unfold HJ at lR
      rw [Li,Ag] at lR
      rcases lR with lR|⟨h1,h2⟩
      ·cases Q with
       |nil=>
        have hp:s=t:=hp
        subst hp
        exact ⟨s',he,rfl⟩
       |cons a Q=>
        have:=Ba.1 lR a (hQ a (by simp))
        rw [YP a (by simp)] at this
        cases this
      ·obtain ⟨t',g1,g2,_⟩:=vG (T:=T) (ops:=ops) _ s t s' hp (λq hq=>by
        obtain ⟨a,ha,rfl⟩:=Be.1 hq
        obtain ⟨o',_,hal⟩:=hP a (hQ a ha)
        have h3:=Ba.1 h2 a (hQ a ha)
        rw [YP a ha,az,Ag] at h3
        exact ⟨(dD (Γ:=Γ) (ops:=ops) hal).2.1,h3.1,HH h3.2⟩) h1 he
       exact ⟨t',g1,g2⟩
     obtain ⟨t',g1,g2⟩:=key
     exact ⟨o,t',ho,g1,ih f Q _ _ s' t' (by omega) eV g2 (hb.both hiQ) hQ hpw (Py.set hi) λc hc x hx=>getD_set_true (hw c hc x hx)⟩
def Yg (T:Tab) (ops:Array Oper) (Af:Array Bool):List (Nat×Nat×AV×OB):=(Region.ready .any ops Af).filterMap λi=>((ops[i]?).bind (dC T)).map λr=>(i,r)
theorem wx {Af:Array Bool} {a:Nat×Nat×AV×OB} (h:a∈Yg T ops Af):a.1∈Region.ready .any ops Af/\ ∃o,ops[a.1]?=some o/\dC T o=some a.2:=by
 unfold Yg at h
 obtain ⟨i,hi,he⟩:=List.mem_filterMap.1 h
 cases ho:ops[i]? with
 |none=>rw [ho] at he;cases he
 |some o=>
  rw [ho] at he
  simp only [Ez,Option.map_eq_some_iff] at he
  obtain ⟨r,h1,rfl⟩:=he
  exact ⟨hi,o,ho,h1⟩
theorem XT {Af:Array Bool} {Q:List Nat} (h: ∀i∈Q,i∈Region.ready .any ops Af):QR (Ef Q Af) Af Q:=by
 have hr: ∀i∈Q,i<Af.size/\Af.getD i false=false:= λi hi=>by
  have h1:=(mem_ready.1 (h i hi)).1
  refine ⟨?_,getD_both h1⟩
  rcases Nat.lt_or_ge i Af.size with h'|h'
  ·exact h'
  ·simp [Array.getElem?_eq_none h'] at h1
 exact ⟨(Vj Q Af).symm,λk hk=>⟨(hr k hk).1,(hr k hk).2,dW Q Af k hk (hr k hk).1⟩,λk hk=>(cg Q Af k hk).symm⟩
theorem CF: ∀(Q:List (Nat×Nat×AV×OB)) (t s:St),(∀a∈Q,∃o,ops[a.1]?=some o/\dC T o=some a.2)->(∀a∈Q,Hw a.2.1 t)->(Q.Pairwise λa c=>a.2.1≠c.2.1)->Mk T Γ ops (Q.map (·.1)) t=some s->wm (Q.map (·.2)) s t
 | [],t,s,_,_,_,h=>by
  have h:some t=some s:=h
  exact (Ax h).symm
 |a::Q,t,s,hQ,hn,hp,h=>by
  obtain ⟨o,ho,hal⟩:=hQ a (by simp)
  obtain ⟨_,hL,Ya⟩:=dD (Γ:=Γ) (ops:=ops) hal
  obtain ⟨uS,uT⟩:=Lq.1 hp
  simp only [Bk,Mk,ho] at h
  rw [Ya t (hn a (by simp))] at h
  refine ⟨hn a (by simp),CF Q _ s (λc hc=>hQ c (An _ hc)) (λc hc=>?_) uT h⟩
  exact (hn c (An _ hc)).plus (Fv (uS c hc)) (λh=>uS c hc (hL.v1 _ h).symm) (by rw [hL.b1];simp)
end
end Go.Proofs.Ytkkdpknjohcekaa
