/-
  Part 30 of the proof that the statement FnExactSearchDepth holds.
-/
import Derived.Test.YtfolipnappekaaaGreatCSearchDepth28
namespace Go.Proofs.YtfolipnappekaaaGreat
open Go.RowKit
def Jf (d:Nat) (v:AV) (b:OB) (st:St):St:= {tmps:=Sr st.tmps d v,heap:=Og st.heap d b}
def pC (d:Nat) (st:St):Bool:=(st.get d).refs.isEmpty&&((st.tmps.all λv=>!v.refs.contains d)&&st.heap.all λp=>!Nat.beq p.1 d&&!p.2.refs.contains d)
structure Il (d:Nat) (st:St):Prop where
 own:(st.get d).refs= []
 tmps: ∀v∈st.tmps,d∉v.refs
 heap: ∀p∈st.heap,p.1≠d/\d∉p.2.refs
theorem uq {d:Nat} {st:St} (h:pC d st=true):Il d st:=by
 unfold pC at h
 rw [Af,Af,Bd,Bd] at h
 obtain ⟨h0,h⟩:=h
 refine ⟨List.isEmpty_iff.1 h0,λv hv=>?_,λp hp=>?_⟩
 ·have:=h.1 v hv
  intro hd
  rw [Jk.2 hd] at this
  cases this
 ·have:=h.2 p hp
  rw [Af] at this
  refine ⟨λe=>?_,λhd=>?_⟩
  ·have h1:=this.1
   rw [e,Nat.beq_refl] at h1
   cases h1
  ·have h1:=this.2
   rw [Jk.2 hd] at h1
   cases h1
theorem UP {d:Nat} {st:St} (h:Il d st):pC d st=true:=by
 unfold pC
 rw [Af,Af,Bd,Bd]
 refine ⟨by rw [h.own];rfl,λv hv=>?_,λp hp=>?_⟩
 ·rw [Ef,<-Ii,Jk];exact h.tmps v hv
 ·rw [Af]
  refine ⟨?_,?_⟩
  ·rw [Ef,<-Ii]
   exact λe=>(h.heap p hp).1 (Jl e)
  ·rw [Ef,<-Ii,Jk];exact (h.heap p hp).2
structure sO (d:Nat) (v:AV) (b:OB):Prop where
 v1: ∀l,l∈v.refs->l=d
 b1:b.refs= []
 v2: ∀l,l≠d->v.map (Cu l)=v
 b2: ∀l,b.map (Cu l)=b
theorem dQ {α:Type} : ∀(xs:List α) (d t:Nat) (v x:α),d≠t->(Sr xs d v).getD t x=xs.getD t x
 | [],_,_,_,_,_=>rfl
 |y::r,0,0,_,_,h=>absurd rfl h
 |y::r,0,t+1,_,_,_=>by simp [Sr]
 |y::r,d+1,0,_,_,_=>by simp [Sr]
 |y::r,d+1,t+1,v,x,h=>by simpa [Sr] using dQ r d t v x (by omega)
theorem pX {α:Type} : ∀(xs:List α) (d e:Nat) (v w:α),d≠e->Sr (Sr xs d v) e w=Sr (Sr xs e w) d v
 | [],_,_,_,_,_=>rfl
 |y::r,0,0,_,_,h=>absurd rfl h
 |y::r,0,e+1,_,_,_=>rfl
 |y::r,d+1,0,_,_,_=>rfl
 |y::r,d+1,e+1,v,w,h=>by simp only [Sr];rw [pX r d e v w (by omega)]
theorem xZ: ∀(H:List (Nat×OB)) (d l:Nat) (b:OB),d≠l->Au (Og H d b) l=Au H l
 | [],d,l,b,h=>by simp [Og,Au,h]
 |(k,c)::r,d,l,b,h=>by
  simp only [Og]
  split
  ·simp only [Au];rw [Ag h]
  ·simp only [Au]
   split
   ·rfl
   ·exact xZ r d l b h
theorem yh: ∀(H:List (Nat×OB)) (d e:Nat) (b c:OB),d≠e->Og (Og H d b) e c=Og (Og H e c) d b
 | [],d,e,b,c,h=>by
  simp only [Og]
  by_cases h1:e<d
  ·rw [Ab h1,Ag (by omega)]
  ·rw [Ag h1,Ab (by omega)]
 |(k,a)::r,d,e,b,c,h=>by
  simp only [Og]
  by_cases h1:d<k<;>by_cases h2:e<k
  ·rw [Ab h1,Ab h2]
   simp only [Og]
   by_cases h3:e<d
   ·rw [Ab h3,Ag (by omega),Ab h1]
   ·rw [Ag h3,Ab h2,Ab (by omega)]
  ·rw [Ab h1,Ag h2]
   simp only [Og]
   rw [Ag (by omega),Ag h2,Ab h1]
  ·rw [Ag h1,Ab h2]
   simp only [Og]
   rw [Ab h2,Ag (by omega),Ag h1]
  ·rw [Ag h1,Ag h2]
   simp only [Og]
   rw [Ag h1,Ag h2,yh r d e b c h]
theorem yP: ∀(H:List (Nat×OB)) (d l:Nat) (b c:OB),d≠l->au (Og H d b) l c=Og (au H l c) d b
 | [],d,l,b,c,h=>by simp [Og,au,h]
 |(k,a)::r,d,l,b,c,h=>by
  simp only [Og,au]
  by_cases h1:d<k<;>by_cases h2:k=l
  ·rw [Ab h1,Ab h2]
   simp only [au,Og]
   rw [Ag h,Ab h2,Ab h1]
  ·rw [Ab h1,Ag h2]
   simp only [au,Og]
   rw [Ag h,Ag h2,Ab h1]
  ·rw [Ag h1,Ab h2]
   simp only [au,Og]
   rw [Ab h2,Ag h1]
  ·rw [Ag h1,Ag h2]
   simp only [au,Og]
   rw [Ag h2,Ag h1,yP r d l b c h]
theorem qA {l:Nat} : ∀ {c:AC},l∉c.refs->Cu l c=c:=by
 intro c h
 cases c<;>simp only [Cu]<;>simp only [AC.refs,Ae] at h
 case clo f Ec=>rw [Ag (by simpa using h)]
 all_goals (first|rfl|rw [Ag (Ge h)])
theorem aT {l:Nat} : ∀ {cs:List AC},l∉cs.flatMap AC.refs->cs.map (Cu l)=cs
 | [],_=>rfl
 |c::r,h=>by
  rw [cp,Bb] at h
  rw [Ca,qA (λhh=>h (.inl hh)),aT (λhh=>h (.inr hh))]
theorem EW {l:Nat} : ∀ {v:AV},l∉v.refs->v.map (Cu l)=v
 | .at a,h=>by simp only [AV.map];rw [qA h]
 | .agg cs,h=>by simp only [AV.map];rw [aT h]
 | .bz _ _ _,_=>rfl
 | .Mq ps,h=>by
  simp only [AV.map]
  congr 1
  simp only [AV.refs] at h
  induction ps with
  |nil=>rfl
  |cons p r ih=>
   rw [cp,Bb] at h
   rw [Ca,aT (λhh=>h (.inl hh)),ih (λhh=>h (.inr hh))]
theorem EX {l:Nat} : ∀ {b:OB},l∉b.refs->b.map (Cu l)=b
 | .arr _ _ _ _ _,_=>rfl
 | .Gt _ _ _,_=>rfl
 | .var _ vs,h=>by simp only [OB.map];rw [aT h]
 | .Bm _ _ _ _ _,_=>rfl
 | .Vs _ _,_=>rfl
theorem EL {l:Nat} : ∀ {H:List (Nat×OB)},(∀p∈H,p.1≠l)->aF H l=H
 | [],_=>rfl
 |(k,b)::r,h=>by
  simp only [aF]
  rw [Ag (h (k,b) (by simp)),EL λp hp=>h p (by simp [hp])]
theorem Il.forget {l:Nat} {st:St} (h:Il l st):st.forget l=st:=by
 have e1:st.tmps.map (λv=>v.map (Cu l))=st.tmps:=(Ek λv hv=>EW (h.tmps v hv)).trans (List.map_id _)
 have e2:st.heap.map (λp=>(p.1,p.2.map (Cu l)))=st.heap:=(Ek λp hp=>by rw [EX (h.heap p hp).2];rfl).trans (List.map_id _)
 unfold St.forget St.Kr
 simp only [e1,e2]
 rw [EL λp hp=>(h.heap p hp).1]
theorem Il.new {l:Nat} {st:St} (h:Il l st) (b:OB) (v:AV):(st.new l b).put (some l) v=Jf l v b st:=by
 unfold St.new
 rw [h.forget]
 rfl
theorem uk {α:Type} : ∀ {xs:List α} {d:Nat} {v x:α},x∈Sr xs d v->x∈xs\/x=v
 | [],_,_,_,h=>by cases h
 |y::r,0,v,x,h=>by
  rcases Be.1 h with h|h
  ·exact .inr h
  ·exact .inl (As _ h)
 |y::r,d+1,v,x,h=>by
  rcases Be.1 h with h|h
  ·exact .inl (by rw [h];simp)
  ·exact (uk h).imp (As _) id
theorem GU: ∀ {H:List (Nat×OB)} {d:Nat} {b:OB} {p:Nat×OB},p∈Og H d b->p∈H\/p=(d,b)
 | [],d,b,p,h=> .inr (by simpa [Og] using h)
 |(k,c)::r,d,b,p,h=>by
  simp only [Og] at h
  split at h
  ·rcases Be.1 h with h|h
   ·exact .inr h
   ·exact .inl h
  ·rcases Be.1 h with h|h
   ·exact .inl (by rw [h];simp)
   ·exact (GU h).imp (As _) id
theorem Ade {d:Nat} {v:AV} {b:OB} {st:St} {x:Operand} (h:x≠ .tmp d):(Jf d v b st).ev x=st.ev x:=by
 cases x with
 |tmp t=>exact dQ _ _ _ _ _ (λe=>h (by rw [e]))
 |_=>rfl
theorem QU {d l:Nat} {v:AV} {b:OB} {st:St} (h:d≠l):(Jf d v b st).at l=st.at l:=xZ _ _ _ _ h
theorem YH {d e:Nat} {v u:AV} {b:OB} {st:St} (h:d≠e):(Jf d v b st).put (some e) u=Jf d v b (st.put (some e) u):=by
 unfold Jf St.put
 simp only
 rw [pX _ _ _ _ _ h]
theorem TB {d l:Nat} {v:AV} {b c:OB} {st:St} (h:d≠l):(Jf d v b st).Ju l c=Jf d v b (st.Ju l c):=by
 unfold Jf St.Ju
 simp only
 rw [yP _ _ _ _ _ h]
theorem xI {d e:Nat} {v u:AV} {b c:OB} {st:St} (h:d≠e):Jf e u c (Jf d v b st)=Jf d v b (Jf e u c st):=by
 unfold Jf
 rw [pX _ _ _ _ _ h,yh _ _ _ _ _ h]
theorem Il.put {d:Nat} {st:St} {e:Nat} {u:AV} (h:Il d st) (hde:e≠d) (hu:d∉u.refs):Il d (st.put (some e) u):=
 ⟨by show (List.getD (Sr st.tmps e u) d .undef).refs= [];rw [dQ _ _ _ _ _ hde];exact h.own,λv hv=>(uk hv).elim (h.tmps v) λe=>by rw [e];exact hu,h.heap⟩
theorem Il.plus {d e:Nat} {u:AV} {c:OB} {st:St} (h:Il d st) (hde:d≠e) (hu:d∉u.refs) (hc:d∉c.refs):Il d (Jf e u c st):=
 ⟨by show (List.getD (Sr st.tmps e u) d .undef).refs= [];rw [dQ _ _ _ _ _ (Ge hde)];exact h.own,λv hv=>(uk hv).elim (h.tmps v) λe=>by rw [e];exact hu,λp hp=>(GU hp).elim (h.heap p) λe'=>by rw [e'];exact ⟨Ge hde,hc⟩⟩
theorem Il.Ajv {d e:Nat} {u:AV} {c:OB} {st:St} (h:Il d (Jf e u c st)): ∀p∈st.heap,p.1≠d/\d∉p.2.refs:= λp hp=>h.heap p (by
 show p∈Og st.heap e c
 generalize st.heap=H at hp
 induction H with
 |nil=>cases hp
 |cons q r ih=>
  obtain ⟨k,a⟩:=q
  simp only [Og]
  split
  ·exact As _ hp
  ·rcases Be.1 hp with hp|hp
   ·rw [hp];simp
   ·exact As _ (ih hp))
theorem sn {st st':St} : ∀(τ:Ty) (cs:List AC),cs.all (·.settled)=true->Fp st' τ cs=Fp st τ cs:=by
 intro τ
 induction τ with
 |unit=>intro cs _;cases cs<;>rfl
 |pair a r mI jX=>
  intro cs h
  simp only [Fp]
  rw [Bd] at h
  rw [mI _ (Bd.2 λc hc=>h c (Gl hc)),jX _ (Bd.2 λc hc=>h c (dA hc))]
 |_=>
  intro cs h
  rcases cs with _|⟨c,_|⟨c',cs⟩⟩
  ·rfl
  ·simp only [Hx,List.all_nil,Bool.and_true] at h
   simp only [Fp]
   exact bg h
  ·rfl
theorem fO {st st':St} {τ:Ty} {v:AV} (h:v.settled=true):Fu st' τ v=Fu st τ v:=by
 cases v with
 | «at»a=>
  have ha:a.settled=true:=h
  cases a<;>simp only [AC.settled,Dh] at ha
  all_goals
   simp only [Fu]
   rw [Qh rfl,Qh rfl]
   rw [bg (st:=st) (st':=st') rfl]
 |agg cs=>simp only [Fu];rw [sn _ _ h]
 |bz _ _ _=>rfl
 |Mq _=>rfl
theorem jE {st st':St} : ∀(τ:Ty) (vs:List AV),vs.all (·.settled)=true->Dw st' τ vs=Dw st τ vs
 | .pair a r,v::vs,h=>by
  rw [Hx,Af] at h
  simp only [Dw]
  rw [fO (st:=st) (st':=st') h.1,jE r vs h.2]
 | .pair _ _,[],_=>rfl
 | .unit,[],_=>rfl
 | .unit,_::_,_=>rfl
 | .int _,vs,_=>by cases vs<;>rfl
 | .bool,vs,_=>by cases vs<;>rfl
 | .str,vs,_=>by cases vs<;>rfl
 | .slice _,vs,_=>by cases vs<;>rfl
 | .oslice _,vs,_=>by cases vs<;>rfl
 | .ptr _,vs,_=>by cases vs<;>rfl
 | .optr _,vs,_=>by cases vs<;>rfl
 | .smap _,vs,_=>by cases vs<;>rfl
 | .clo _ _,vs,_=>by cases vs<;>rfl
def Wl:AV->Bool
 | .at (.data _ _ _)=>true
 |_=>false
def jC (o:Oper):List Operand:=match o.op with
 | .move x=> [x]
 | .load _ x=> [x]
 | .call {callee:= .value (.func _),args, .. } =>args.toList
 | .insert _ m k x=> [m,k,x]
 | .buildSlice _ _ parts=>parts.toList.map (·.2)
 |_=> []
def j0 (d:Nat):Operand->Bool
 | .tmp t=>!Nat.beq t d
 |_=>true
theorem UQ {d:Nat} {x:Operand} (h:j0 d x=true):x≠ .tmp d:= λe=>by
 subst e
 simp [j0] at h
def Wo (Γ:Env) (st:St) (o:Oper):Bool:=match o.guard with
 |some _=>false
 |none=>match o.op with
  | .move _=>true
  | .load _ x=>(match st.ev x with
   | .at (.Hm _ _)=>true
   |_=>false)
  | .call {callee:= .value (.func f),args, .. } =>(match Γ f with
   |some (.q _)=>true
   |_=>false)&&args.toList.all λx=>(st.ev x).settled
  | .insert _ m k x=>(match st.ev m with
   | .at (.Kg _)=>true
   |_=>false)&&Wl (st.ev k)&&(st.ev x).settled
  | .buildSlice _ _ parts=>(parts.toList.all λp=>Wl (st.ev p.2))&&(match o.dst with
   |some e=>pC e st
   |none=>false)
  |_=>false
theorem Il.ev {d:Nat} {st:St} (h:Il d st) (x:Operand):d∉(st.ev x).refs:=by
 cases x with
 |tmp t=>
  simp only [St.ev,St.get]
  rw [Ak]
  by_cases hl:t<st.tmps.length
  ·rw [Ac hl];exact h.tmps _ (Aj hl)
  ·rw [Fw (Nat.le_of_not_lt hl)];simp [AV.refs,AC.refs]
 |const c=>
  simp only [St.ev]
  unfold mX
  split<;>simp [AV.refs,AC.refs]
 |func f=>simp [St.ev,AV.refs,AC.refs]
 |_=>simp [St.ev,AV.refs,AC.refs]
theorem FL: ∀ {H:List (Nat×OB)} {l:Nat} {b:OB},Au H l=some b->(l,b)∈H
 |(k,c)::r,l,b,h=>by
  simp only [Au] at h
  split at h
  ·rename_i e;subst e;cases h;simp
  ·exact As _ (FL h)
section
variable {T:Tab} {Γ:Env} {ops:Array Oper} {d:Nat} {v:AV} {b:OB} {t:St}
theorem yF {e:Option Tmp} (h:e≠some d) (hn:Il d t) {y:AV} (hy:d∉y.refs):(Jf d v b t).put e y=Jf d v b (t.put e y)/\Il d (t.put e y):=by
 cases e with
 |none=>exact ⟨rfl,hn⟩
 |some k=>exact ⟨YH (λe=>h (by rw [e])),hn.put (λe=>h (by rw [e])) hy⟩
theorem ja {o:Oper} (hg:o.guard=none) (dT:o.dst≠some d) (hn:Il d t) {q:Option AV} (h1:evalOp T Γ (Jf d v b t) o=q.map λy=>(y,Jf d v b t)) (h2:evalOp T Γ t o=q.map λy=>(y,t)) (hq: ∀y,q=some y->d∉y.refs) {s':St}
  (he:Eo T Γ ops (Jf d v b t) o=some s'): ∃t',Eo T Γ ops t o=some t'/\s'=Jf d v b t'/\Il d t':=by
 unfold Eo at he⊢
 rw [hg] at he⊢
 simp only at he⊢
 rw [h1] at he
 cases q with
 |none=>cases he
 |some y=>
  obtain ⟨p1,p2⟩:=yF (v:=v) (b:=b) dT hn (hq y rfl)
  refine ⟨_,by rw [h2];rfl,?_,p2⟩
  simp only [Am,Aa] at he
  rw [<-he,p1]
theorem Zl {l:List Operand} (hu:l.all (j0 d)=true): ∀x∈l,(Jf d v b t).ev x=t.ev x:= λx hx=>Ade (UQ (Bd.1 hu x hx))
theorem NH {dst:Option Tmp} {x:Operand} {ty:TypeId} {pos:String} {after:Array Edge} (hn:Il d t) (hx:(Jf d v b t).ev x=t.ev x) (dT:dst≠some d) {s':St}
  (he:Eo T Γ ops (Jf d v b t) {dst:=dst,op:= .move x,type:=ty,pos:=pos,after:=after,guard:=none} =some s'):
  ∃t',Eo T Γ ops t {dst:=dst,op:= .move x,type:=ty,pos:=pos,after:=after,guard:=none} =some t'/\s'=Jf d v b t'/\Il d t':=
 ja rfl dT hn (q:=some (t.ev x)) (by simp only [evalOp,Ey,hx]) (by simp only [evalOp,Ey]) (λy hy=>by cases hy;exact hn.ev x) he
def loadVar (T:Tab) (o:Option OB) (t0:TypeId) (i:Nat):Option AV:=match T.ty t0 with
 |some τ=>(match o with
  |some (.var _ vs)=>if τ.Aq then (if i+τ.size<=vs.length then some (.agg ((vs.drop i).take τ.size)) else none) else vs[i]?.map .at
  |_=>none)
 |none=>none
theorem kU {st:St} {t0:TypeId} {l i:Nat} :Qd T st t0 (.at (.Hm l i))=loadVar T (st.at l) t0 i:=by
 unfold Qd loadVar
 cases T.ty t0<;>rfl
theorem NB {dst:Option Tmp} {t0:TypeId} {x:Operand} {ty:TypeId} {pos:String} {after:Array Edge} (hn:Il d t) (hx:(Jf d v b t).ev x=t.ev x) (dT:dst≠some d) {l i:Nat} (hp:t.ev x= .at (.Hm l i)) {s':St}
  (he:Eo T Γ ops (Jf d v b t) {dst:=dst,op:= .load t0 x,type:=ty,pos:=pos,after:=after,guard:=none} =some s'):
  ∃t',Eo T Γ ops t {dst:=dst,op:= .load t0 x,type:=ty,pos:=pos,after:=after,guard:=none} =some t'/\s'=Jf d v b t'/\Il d t':=by
 have hld:d≠l:= λe=>by
  have:=hn.ev x
  rw [hp,e] at this
  exact this (by simp [AV.refs,AC.refs])
 refine ja rfl dT hn (q:=loadVar T (t.at l) t0 i) ?_ ?_ (λy hy=>?_) he
 ·simp only [evalOp,Ey,hx,hp]
  rw [kU,QU hld]
 ·simp only [evalOp,Ey,hp]
  rw [kU]
 ·unfold loadVar at hy
  split at hy
  ·split at hy
   ·rename_i vs hb
    have hr:d∉vs.flatMap AC.refs:=(hn.heap _ (FL hb)).2
    have eE: ∀c∈vs,d∉c.refs:= λc hc hd=>hr (Hj.2 ⟨c,hc,hd⟩)
    split at hy
    ·split at hy
     ·cases hy
      intro hd
      obtain ⟨c,hc,hd⟩:=Hj.1 hd
      exact eE c (dA (Gl hc)) hd
     ·cases hy
    ·cases hv:vs[i]? with
     |none=>rw [hv] at hy;cases hy
     |some c=>
      rw [hv] at hy
      cases hy
      exact eE c (Bq hv)
   ·cases hy
  ·cases hy
theorem TE {l:List Operand} (hu:l.all (j0 d)=true):l.map (Jf d v b t).ev=l.map t.ev:=Ek λx hx=>Zl hu x hx
theorem LK {dst:Option Tmp} {f:FuncId} {args:Array Operand} {tys:Array TypeId} {ty:TypeId} {pos:String} {after:Array Edge} {sp:Spec} (Pg:Γ f=some (.q sp)) (hn:Il d t) (hx:args.toList.map (Jf d v b t).ev=args.toList.map t.ev) (dT:dst≠some d)
  (hs:(args.toList.map t.ev).all (·.settled)=true) {s':St} (he:Eo T Γ ops (Jf d v b t) {dst:=dst,op:= .call {callee:= .value (.func f),args:=args,argTypes:=tys},type:=ty,pos:=pos,after:=after,guard:=none} =some s'):
  ∃t',Eo T Γ ops t {dst:=dst,op:= .call {callee:= .value (.func f),args:=args,argTypes:=tys},type:=ty,pos:=pos,after:=after,guard:=none} =some t'/\s'=Jf d v b t'/\Il d t':=by
 have RR:fh sp (args.toList.map t.ev)=false:=by unfold fh;rw [hs];simp
 have MC: ∀st:St,Ot Γ st f (args.toList.map t.ev)=(match Dw t sp.arg (args.toList.map t.ev) with
   |none=>none
   |some (_,x)=>(sp.fn x).map λy=>if sp.Gy then .bz (sp.fresh||sp.res.flat) sp.res y else .at (.data (sp.fresh||sp.res.flat) sp.res y)):= λst=>by
  unfold Ot
  rw [Pg]
  simp only
  rw [hs,jE (st:=t) _ _ hs]
  simp only [Bool.or_true,Ph]
  cases Dw t sp.arg (args.toList.map t.ev)<;>rfl
 refine ja rfl dT hn (q:=Ot Γ t f (args.toList.map t.ev)) ?_ ?_ (λy hy=>?_) he
 ·simp only [evalOp,Ey,Pg,hx,RR]
  rw [MC,MC t]
  simp
 ·simp only [evalOp,Ey,Pg,RR]
  simp
 ·rw [MC t] at hy
  split at hy
  ·cases hy
  ·rename_i x _
   cases hf:sp.fn x with
   |none=>rw [hf] at hy;cases hy
   |some z=>
    rw [hf] at hy
    simp only [Am,Aa] at hy
    rw [<-hy]
    split<;>simp [AV.refs,AC.refs]
def nP (T:Tab) (o:Option OB) (t0:TypeId) (s:ByteArray) (vw:(v:Ty)->Option (Bool×v.den)):Option OB:=match T.mapOf t0 with
 |some v=>(match o,vw v with
  |some (.Vs v' f),some (_,y)=>if h:v'=v/\v.flat=true/\v.Aq=false then some (.Vs v (jy (h.1▸f:ByteArray->Option v.den) s y)) else none
  |_,_=>none)
 |none=>none
theorem kV {st:St} {t0:TypeId} {l:Nat} {fr:Bool} {s:ByteArray} {x:AV} :Jd T st t0 (.at (.Kg l)) (.at (.data fr .str s)) x=(nP T (st.at l) t0 s λv=>Fu st v x).map λc=>st.Ju l c:=by
 unfold Jd nP
 cases T.mapOf t0 with
 |none=>rfl
 |some v0=>
  simp only
  cases st.at l with
  |none=>rfl
  |some c=>
   cases c with
   |Vs v' f=>
    cases Fu st v0 x with
    |none=>rfl
    |some p=>
     simp only
     split<;>rfl
   |_=>rfl
theorem GR {o:Option OB} {t0:TypeId} {s:ByteArray} {vw:(v:Ty)->Option (Bool×v.den)} {c:OB} (h:nP T o t0 s vw=some c):c.refs= []:=by
 unfold nP at h
 split at h
 ·split at h
  ·split at h
   ·cases h;rfl
   ·cases h
  ·cases h
 ·cases h
theorem tB {st:St} {t0:TypeId} {m k x:AV} {s':St} (h:Jd T st t0 m k x=some s'): ∃l fr s,m= .at (.Kg l)/\k= .at (.data fr .str s):=by
 unfold Jd at h
 split at h
 ·exact ⟨_,_,_,rfl,rfl⟩
 ·cases h
theorem GV: ∀ {H:List (Nat×OB)} {l:Nat} {c:OB} {p:Nat×OB},p∈au H l c->p∈H\/(p.2=c/\p.1=l/\ ∃c',(l,c')∈H)
 |(k,a)::r,l,c,p,h=>by
  simp only [au] at h
  split at h
  ·rename_i e
   rcases Be.1 h with h|h
   ·subst h;exact .inr ⟨rfl,e,a,by rw [e];simp⟩
   ·exact .inl (As _ h)
  ·rcases Be.1 h with h|h
   ·exact .inl (by rw [h];simp)
   ·exact (GV h).imp (As _) λ⟨h1,h2,c',h3⟩=>⟨h1,h2,c',As _ h3⟩
theorem Il.Ju {st:St} {l:Nat} {c:OB} (h:Il d st) (hc:d∉c.refs):Il d (st.Ju l c):=
 ⟨h.own,h.tmps,λp hp=>(GV hp).elim (h.heap p) λ⟨h1,h2,c',h3⟩=>⟨by rw [h2];exact (h.heap _ h3).1,by rw [h1];exact hc⟩⟩
theorem zL {dst:Option Tmp} {t0:TypeId} {m k x:Operand} {ty:TypeId} {pos:String} {after:Array Edge} (hn:Il d t) (hm:(Jf d v b t).ev m=t.ev m) (hk:(Jf d v b t).ev k=t.ev k) (hx:(Jf d v b t).ev x=t.ev x) (dT:dst≠some d)
  (hs:(t.ev x).settled=true) {s':St} (he:Eo T Γ ops (Jf d v b t) {dst:=dst,op:= .insert t0 m k x,type:=ty,pos:=pos,after:=after,guard:=none} =some s'):
  ∃t',Eo T Γ ops t {dst:=dst,op:= .insert t0 m k x,type:=ty,pos:=pos,after:=after,guard:=none} =some t'/\s'=Jf d v b t'/\Il d t':=by
 unfold Eo at he⊢
 simp only [evalOp,hm,hk,hx] at he⊢
 cases RO:Jd T (Jf d v b t) t0 (t.ev m) (t.ev k) (t.ev x) with
 |none=>rw [RO] at he;cases he
 |some s1=>
  rw [RO] at he
  simp only [Am,Aa] at he
  obtain ⟨l,fr,s,e1,e2⟩:=tB RO
  have hld:d≠l:= λe=>by
   have:=hn.ev m
   rw [e1,e] at this
   exact this (by simp [AV.refs,AC.refs])
  rw [e1,e2,kV,QU hld] at RO
  have hvw:(λv0=>Fu (Jf d v b t) v0 (t.ev x))= λv0=>Fu t v0 (t.ev x):=funext λv0=>fO hs
  rw [hvw] at RO
  rw [e1,e2,kV]
  cases ho:nP T (t.at l) t0 s λv0=>Fu t v0 (t.ev x) with
  |none=>rw [ho] at RO;cases RO
  |some c=>
   rw [ho] at RO
   simp only [Am,Aa] at RO
   have hc:=GR ho
   have sA:Il d (t.Ju l c):=hn.Ju (by rw [hc];simp)
   obtain ⟨p1,p2⟩:=yF (v:=v) (b:=b) (y:= .undef) dT sA (by simp [AV.refs,AC.refs])
   refine ⟨_,rfl,?_,p2⟩
   rw [<-he,<-RO,TB hld,p1]
theorem Il.back {e:Nat} (h:Il e (Jf d v b t)) (hde:e≠d) (hn:Il d t):Il e t:=by
 have hg: ∀k,k≠d->(Jf d v b t).get k=t.get k:= λk hk=>dQ _ _ _ _ _ (Ge hk)
 refine ⟨by rw [<-hg e hde];exact h.own,λu hu hd=>?_,h.Ajv⟩
 obtain ⟨k,hk,rfl⟩:=Cl.1 hu
 have e1:t.get k=t.tmps[k]:=by unfold St.get;rw [Ak,Ac hk];rfl
 by_cases hkd:k=d
 ·subst hkd
  have:=hn.own
  rw [e1] at this
  rw [this] at hd
  cases hd
 ·have h1:=h.ev (.tmp k)
  have h2:(Jf d v b t).ev (.tmp k)=t.tmps[k]:=by show (Jf d v b t).get k=_;rw [hg k hkd,e1]
  rw [h2] at h1
  exact h1 hd
def mi (e:Ty):Nat->List (Nat×AV)->Option (Bool×Bool×List e.den)
 |_,[]=>some (true,true,[])
 |i,(j,x)::r=>if i=j then match Fu ⟨[],[]⟩ e x with
  |some (fr,y)=>match mi e (i+1) r with
   |some (Wb,tr',ys)=>some (fr&&Wb,Tl ⟨[],[]⟩ x&&e.tree&&tr',y::ys)
   |none=>none
  |none=>none
  else none
theorem dE {st:St} {e:Ty} : ∀(l:List (Nat×Operand)) (i:Nat),(l.all λp=>Wl (st.ev p.2))=true->Kz e i l st=(mi e i (l.map λp=>(p.1,st.ev p.2))).map λp=>(p.1,p.2.1,p.2.2,st)
 | [],i,_=>rfl
 |(j,x)::r,i,h=>by
  rw [Hx,Af] at h
  have hx:Wl (st.ev x)=true:=h.1
  simp only [Kz,mi,Ca]
  split
  ·generalize hxv:st.ev x=xv at hx
   unfold Wl at hx
   split at hx
   ·rename_i fr τ z
    have Ajb:settle st (.at (.data fr τ z))=some (.at (.data fr τ z),st):=rfl
    rw [Ajb]
    simp only
    rw [fO (st:=⟨[],[]⟩) (st':=st) (v:= .at (.data fr τ z)) rfl]
    cases Fu ⟨[],[]⟩ e (.at (.data fr τ z)) with
    |none=>rfl
    |some p=>
     simp only
     rw [dE r (i+1) h.2]
     cases mi e (i+1) (r.map λp=>(p.1,st.ev p.2)) with
     |none=>rfl
     |some q=>rfl
   ·cases hx
  ·rfl
def rowOf (T:Tab) (t0:TypeId) (len:Nat) (parts:List (Nat×AV)) (dst:Nat):Option (AV×OB):=match dR T t0 with
 |some _=>none
 |none=>match T.elem t0 with
  |none=>none
  |some te=>match T.ty te with
   |none=>none
   |some e=>if parts.length=len/\len<=64/\e.size<=64/\dst<Bn then (mi e 0 parts).map λp=>(.at (.own dst 0 len), .arr ((T.tH||e.flat)&&p.1) (T.CO&&p.2.1) e te p.2.2) else none
theorem ib {st:St} {t0:TypeId} {len dst:Nat} {parts:Array (Nat×Operand)} (h:(parts.toList.all λp=>Wl (st.ev p.2))=true):
  Iz T st dst t0 len parts=(rowOf T t0 len (parts.toList.map λp=>(p.1,st.ev p.2)) dst).map λr=>(r.1,st.new dst r.2):=by
 unfold Iz rowOf
 cases dR T t0 with
 |some p=>
  obtain ⟨te,e⟩:=p
  simp only [Option.map_none]
  split
  ·rename_i x hp
   rw [hp,Hx,Af] at h
   have hx:Wl (st.ev x)=true:=h.1
   unfold Wl at hx
   split at hx
   ·rename_i hv;simp only [hv]
   ·cases hx
  ·rfl
 |none=>
  simp only
  unfold Mg
  cases T.elem t0 with
  |none=>rfl
  |some te=>
   simp only
   cases T.ty te with
   |none=>rfl
   |some e=>
    simp only [Di,Xk]
    split
    ·rw [dE _ 0 h]
     cases mi e 0 (parts.toList.map λp=>(p.1,st.ev p.2))<;>rfl
    ·rfl
theorem r8 {t0:TypeId} {len dst:Nat} {parts:List (Nat×AV)} {r:AV×OB} (h:rowOf T t0 len parts dst=some r):sO dst r.1 r.2:=by
 unfold rowOf at h
 split at h
 ·cases h
 ·split at h
  ·cases h
  ·split at h
   ·cases h
   ·split at h
    ·rename_i e _ _
     cases hp:mi e 0 parts with
     |none=>rw [hp] at h;cases h
     |some p=>
      rw [hp] at h
      simp only [Am,Aa] at h
      subst h
      exact ⟨λl hl=>by simpa [AV.refs,AC.refs] using hl,rfl,λl hl=>by simp only [AV.map,Cu];rw [Ag (Ge hl)],λl=>rfl⟩
    ·cases h
theorem EF {e:Nat} {t0:TypeId} {len:Nat} {parts:Array (Nat×Operand)} {ty:TypeId} {pos:String} {after:Array Edge} (_hl:sO d v b) (hn:Il d t) (hx: ∀p∈parts.toList,(Jf d v b t).ev p.2=t.ev p.2) (dT:e≠d)
  (hp:(parts.toList.all λp=>Wl (t.ev p.2))=true) (Ik:Il e (Jf d v b t)) {s':St} (he:Eo T Γ ops (Jf d v b t) {dst:=some e,op:= .buildSlice t0 len parts,type:=ty,pos:=pos,after:=after,guard:=none} =some s'):
  ∃t',Eo T Γ ops t {dst:=some e,op:= .buildSlice t0 len parts,type:=ty,pos:=pos,after:=after,guard:=none} =some t'/\s'=Jf d v b t'/\Il d t':=by
 have Aiz:=Ik.back dT hn
 have nB:(parts.toList.all λp=>Wl ((Jf d v b t).ev p.2))=true:=Bd.2 λp zH=>by rw [hx p zH];exact Bd.1 hp p zH
 have hm:(parts.toList.map λp=>(p.1,(Jf d v b t).ev p.2))=parts.toList.map λp=>(p.1,t.ev p.2):=Ek λp zH=>by rw [hx p zH]
 unfold Eo at he⊢
 simp only [evalOp] at he⊢
 rw [ib nB,hm] at he
 rw [ib hp]
 cases hr:rowOf T t0 len (parts.toList.map λp=>(p.1,t.ev p.2)) e with
 |none=>rw [hr] at he;cases he
 |some r=>
  rw [hr] at he
  have hL:=r8 hr
  simp only [Am,Aa] at he
  rw [Ik.new] at he
  refine ⟨Jf e r.1 r.2 t,by simp only [Am];rw [Aiz.new],?_,hn.plus (Ge dT) (λh=>dT (hL.v1 _ h).symm) (by rw [hL.b1];simp)⟩
  rw [<-he,xI (Ge dT)]
def evC:Operand->AV
 | .const c=>mX c
 |_=> .undef
theorem Ahz {st:St} {x:Operand} (h:Wl (evC x)=true):st.ev x=evC x:=by
 cases x<;>first|rfl|cases h
def eM (T:Tab) (o:Oper):Option (Nat×AV×OB):=match o.guard with
 |some _=>none
 |none=>match o.dst with
  |none=>none
  |some d=>match o.op with
   | .buildSlice t0 len parts=>if (parts.toList.all λp=>Wl (evC p.2))=true then (rowOf T t0 len (parts.toList.map λp=>(p.1,evC p.2)) d).map λr=>(d,r.1,r.2) else none
   | .makeMap t0 none=>match T.mapOf t0 with
    |some τ=>if d<Bn then some (d, .at (.Kg d), .Vs τ λ_=>none) else none
    |none=>none
   |_=>none
theorem eN {o:Oper} {r:Nat×AV×OB} (h:eM T o=some r):o.dst=some r.1/\sO r.1 r.2.1 r.2.2/\ ∀st:St,Il r.1 st->Eo T Γ ops st o=some (Jf r.1 r.2.1 r.2.2 st):=by
 obtain ⟨dst,op,ty,pos,after,guard⟩:=o
 unfold eM at h
 cases guard with
 |some g=>cases h
 |none=>
  cases dst with
  |none=>cases h
  |some d=>
   cases op with
   |buildSlice t0 len parts=>
    simp only at h
    split at h
    ·rename_i hp
     cases hr:rowOf T t0 len (parts.toList.map λp=>(p.1,evC p.2)) d with
     |none=>rw [hr] at h;cases h
     |some q=>
      rw [hr] at h
      simp only [Am,Aa] at h
      subst h
      refine ⟨rfl,r8 hr,λst Tq=>?_⟩
      have MC: ∀p∈parts.toList,st.ev p.2=evC p.2:= λp zH=>Ahz (Bd.1 hp p zH)
      have hm:(parts.toList.map λp=>(p.1,st.ev p.2))=parts.toList.map λp=>(p.1,evC p.2):=Ek λp zH=>by rw [MC p zH]
      have nB:(parts.toList.all λp=>Wl (st.ev p.2))=true:=Bd.2 λp zH=>by rw [MC p zH];exact Bd.1 hp p zH
      unfold Eo
      simp only [evalOp]
      rw [ib nB,hm,hr]
      simp only [Am]
      rw [Tq.new]
    ·cases h
   |makeMap t0 hint=>
    cases hint with
    |some x=>cases h
    |none=>
     simp only at h
     split at h
     ·rename_i τ Tw
      split at h
      ·rename_i hd
       cases h
       refine ⟨rfl,⟨λl hl=>by simpa [AV.refs,AC.refs] using hl,rfl,λl hl=>by simp only [AV.map,Cu];rw [Ag (Ge hl)],λl=>rfl⟩,λst Tq=>?_⟩
       unfold Eo
       simp only [evalOp,Uz,Tw,Ab hd,Am]
       rw [Tq.new]
      ·cases h
     ·cases h
   |_=>cases h
theorem BK {l:List Operand} (h: ∀x∈l,(Jf d v b t).ev x=t.ev x):(l.all λx=>((Jf d v b t).ev x).settled)=(l.map t.ev).all (·.settled):=by
 rw [List.all_map]
 induction l with
 |nil=>rfl
 |cons x r ih=>
  simp only [Hx,Function.comp]
  rw [h x (by simp),ih λy hy=>h y (by simp [hy])]
theorem BL {o:Oper} (hl:sO d v b) (hn:Il d t) (hs:Wo Γ (Jf d v b t) o=true) (hu:(jC o).all (j0 d)=true) (dT:o.dst≠some d) {s':St} (he:Eo T Γ ops (Jf d v b t) o=some s'):
  ∃t',Eo T Γ ops t o=some t'/\s'=Jf d v b t'/\Il d t'/\Wo Γ t o=true:=by
 obtain ⟨dst,op,ty,pos,after,guard⟩:=o
 unfold Wo at hs
 cases guard with
 |some g=>cases hs
 |none=>
  simp only at hs
  split at hs
  ·rename_i x
   have hx:=Zl (v:=v) (b:=b) (t:=t) hu x (by simp [jC])
   obtain ⟨t',h1,h2,h3⟩:=NH hn hx dT he
   exact ⟨t',h1,h2,h3,rfl⟩
  ·rename_i t0 x
   have hx:=Zl (v:=v) (b:=b) (t:=t) hu x (by simp [jC])
   rw [hx] at hs
   split at hs
   ·rename_i l i hp
    obtain ⟨t',h1,h2,h3⟩:=NB hn hx dT hp he
    exact ⟨t',h1,h2,h3,by simp only [Wo,hp]⟩
   ·cases hs
  ·rename_i f args tys
   rw [Af] at hs
   obtain ⟨eW,mH⟩:=hs
   split at eW
   ·rename_i sp Pg
    have MC:=Zl (v:=v) (b:=b) (t:=t) (l:=args.toList) hu
    rw [BK MC] at mH
    obtain ⟨t',h1,h2,h3⟩:=LK Pg hn (TE hu) dT mH he
    refine ⟨t',h1,h2,h3,?_⟩
    simp only [Wo,Pg,bA]
    rw [List.all_map] at mH
    exact mH
   ·cases eW
  ·rename_i t0 m k x
   have hm:=Zl (v:=v) (b:=b) (t:=t) hu m (by simp [jC])
   have hk:=Zl (v:=v) (b:=b) (t:=t) hu k (by simp [jC])
   have hx:=Zl (v:=v) (b:=b) (t:=t) hu x (by simp [jC])
   rw [hm,hk,hx] at hs
   have hs0:=hs
   rw [Af] at hs
   obtain ⟨t',h1,h2,h3⟩:=zL hn hm hk hx dT hs.2 he
   exact ⟨t',h1,h2,h3,hs0⟩
  ·rename_i t0 len parts
   rw [Af] at hs
   obtain ⟨eW,mH⟩:=hs
   cases dst with
   |none=>cases mH
   |some e=>
    simp only at mH
    have hed:e≠d:= λh=>dT (by rw [h])
    have eX:(parts.toList.map (λp=>p.2)).all (j0 d)=true:=hu
    have MC:=Zl (v:=v) (b:=b) (t:=t) eX
    have hx: ∀p∈parts.toList,(Jf d v b t).ev p.2=t.ev p.2:= λp hp=>MC p.2 (Bj.2 ⟨p,hp,rfl⟩)
    have hp:(parts.toList.all λp=>Wl (t.ev p.2))=true:=Bd.2 λp hp=>by rw [<-hx p hp];exact Bd.1 eW p hp
    have Ik:=uq mH
    obtain ⟨t',h1,h2,h3⟩:=EF hl hn hx hed hp Ik he
    refine ⟨t',h1,h2,h3,?_⟩
    simp only [Wo,hp,bA]
    exact UP (Ik.back hed hn)
  ·cases hs
def z9:List (Nat×AV×OB)->St->St->Prop
 | [],s,t=>s=t
 |q::Q,s,t=>Il q.1 t/\z9 Q s (Jf q.1 q.2.1 q.2.2 t)
theorem yA {o:Oper} : ∀(Q:List (Nat×AV×OB)) (s t s':St),z9 Q s t->(∀q∈Q,sO q.1 q.2.1 q.2.2/\(jC o).all (j0 q.1)=true/\o.dst≠some q.1)->Wo Γ s o=true->Eo T Γ ops s o=some s'->
  ∃t',Eo T Γ ops t o=some t'/\z9 Q s' t'/\Wo Γ t o=true
 | [],s,t,s',h,_,hs,he=>by
  have h:s=t:=h
  subst h
  exact ⟨s',he,rfl,hs⟩
 |q::Q,s,t,s',⟨h1,h2⟩,hq,hs,he=>by
  obtain ⟨u',e1,e2,e3⟩:=yA Q s _ s' h2 (λp hp=>hq p (As _ hp)) hs he
  obtain ⟨l1,l2,l3⟩:=hq q (by simp)
  obtain ⟨t',f1,f2,f3,f4⟩:=BL l1 h1 e3 l2 l3 e1
  exact ⟨t',f1,⟨f3,by rw [<-f2];exact e2⟩,f4⟩
theorem yB {q:Nat×AV×OB} : ∀(Q1:List (Nat×AV×OB)) {Q2:List (Nat×AV×OB)} {s t:St},z9 (Q1++q::Q2) s t->(∀p∈Q1++q::Q2,sO p.1 p.2.1 p.2.2)->(∀p∈Q1,p.1≠q.1)->
  Il q.1 t/\z9 (Q1++Q2) s (Jf q.1 q.2.1 q.2.2 t)
 | [],Q2,s,t,h,_,_=>h
 |p::Q1,Q2,s,t,⟨h1,h2⟩,hL,Ik=>by
  have hpq:=Ik p (by simp)
  have hLp:=hL p (by simp)
  have hLq:=hL q (by simp)
  obtain ⟨g1,g2⟩:=yB Q1 h2 (λr hr=>hL r (As _ hr)) λr hr=>Ik r (As _ hr)
  refine ⟨g1.back (Ge hpq) h1,h1.plus hpq (λh=>hpq (hLq.v1 _ h)) (by rw [hLq.b1];simp),?_⟩
  show z9 (Q1++Q2) s (Jf p.1 p.2.1 p.2.2 (Jf q.1 q.2.1 q.2.2 t))
  rw [xI (Ge hpq)]
  exact g2
def mE (ops:Array Oper):Nat->Nat->Nat->Bool
 |0,_,_=>false
 |f+1,i,a=>Region.waitsFor .any ops i a||(List.range ops.size).any λk=>Region.waitsFor .any ops i k&&mE ops f k a
theorem lF {Ah:Array Bool} (hc:Uc ops Ah) {a:Nat} : ∀(f i:Nat),(∀x,Region.waitsFor .any ops i x=true->Ah.getD x false=true)->mE ops f i a=true->Ah.getD a false=true
 |0,_,_,h=>by cases h
 |f+1,i,hi,h=>by
  simp only [mE,Ka,Kj,Af] at h
  rcases h with h|⟨k,_,h1,h2⟩
  ·exact hi a h
  ·exact lF hc f k (λx hx=>hc k x (hi k h1) hx) h2
def NN (P:List (Nat×Nat×AV×OB)) (Γ:Env) (ops:Array Oper) (st:St) (o:Oper) (i:Nat):Bool:=
 (P.all λa=>mE ops 5 i a.1)||(Wo Γ st o&&P.all λa=>mE ops 5 i a.1||((jC o).all (j0 a.2.1)&&(match o.dst with
  |some e=>!Nat.beq e a.2.1
  |none=>true)))
def Ahu (T:Tab) (Γ:Env) (ops:Array Oper) (P:List (Nat×Nat×AV×OB)) (K:St->Prop):Nat->Array Bool->St->Prop
 |0,Ah,st=>Region.ready .any ops Ah= []/\K st
 |f+1,Ah,st=>Region.ready .any ops Ah≠ []/\ ∀i∈Region.ready .any ops Ah,∃o st',ops[i]?=some o/\NN P Γ ops st o i=true/\Eo T Γ ops st o=some st'/\Ahu T Γ ops P K f (Ah.setIfInBounds i true) st'
structure XK (lc la:Array Bool) (Q:List Nat):Prop where
 size:la.size=lc.size
 off: ∀k∈Q,k<la.size/\la.getD k false=false/\lc.getD k false=true
 same: ∀k,k∉Q->la.getD k false=lc.getD k false
theorem XK.ready {lc la:Array Bool} {Q:List Nat} (h:XK lc la Q) {i:Nat} (hi:i∈Region.ready .any ops la) (hn:i∉Q):i∈Region.ready .any ops lc:=by
 obtain ⟨h1,o,ho,Ke⟩:=mem_ready.1 hi
 have It:i<la.size:=by
  rcases Nat.lt_or_ge i la.size with h'|h'
  ·exact h'
  ·simp [Array.getElem?_eq_none h'] at h1
 have h2:=getD_both h1
 rw [h.same i hn] at h2
 refine mem_ready.2 ⟨getD_in (by rw [<-h.size];exact It) h2,o,ho,λe he hb=>?_⟩
 have h3:=Ke e he hb
 by_cases hq:e.on∈Q
 ·exact (h.off _ hq).2.2
 ·rw [<-h.same _ hq];exact h3
theorem XK.nil {lc la:Array Bool} (h:XK lc la []):la=lc:=by
 refine Array.ext h.size λk h1 h2=>?_
 have:=h.same k (by simp)
 simpa [h1,h2] using this
theorem XK.one {lc la:Array Bool} {Q Q':List Nat} {i:Nat} (h:XK lc la Q) (hi:i∈Q) (hs: ∀k,k∈Q'↔k∈Q/\k≠i):XK lc (la.setIfInBounds i true) Q':=by
 refine ⟨by simp [h.size],λk hk=>?_,λk hk=>?_⟩
 ·obtain ⟨h1,h2⟩:=(hs k).1 hk
  obtain ⟨g1,g2,g3⟩:=h.off k h1
  exact ⟨by simpa using g1,by rw [getD_set_ne false (Ge h2)];exact g2,g3⟩
 ·by_cases e:i=k
  ·subst e
   obtain ⟨g1,g2,g3⟩:=h.off i hi
   rw [g3]
   simp [g1]
  ·rw [getD_set_ne false e]
   exact h.same k λhq=>hk ((hs k).2 ⟨hq,Ge e⟩)
theorem XK.both {lc la:Array Bool} {Q:List Nat} {i:Nat} (h:XK lc la Q) (hi:i∉Q):XK (lc.setIfInBounds i true) (la.setIfInBounds i true) Q:=by
 refine ⟨by simp [h.size],λk hk=>?_,λk hk=>?_⟩
 ·obtain ⟨g1,g2,g3⟩:=h.off k hk
  have Ik:i≠k:= λe=>hi (by rw [e];exact hk)
  exact ⟨by simpa using g1,by rw [getD_set_ne false Ik];exact g2,by rw [getD_set_ne false Ik];exact g3⟩
 ·by_cases e:i=k
  ·subst e
   have hs:=h.same i hi
   have hz:=h.size
   by_cases hl:i<la.size
   ·simp [hl,hz▸hl]
   ·have Km: ¬i<lc.size:=by omega
    simp [hl,Km]
  ·rw [getD_set_ne false e,getD_set_ne false e];exact h.same k hk
theorem NL {dst:Option Tmp} {d:Nat} (h:(match dst with
  |some e=>!Nat.beq e d
  |none=>true)=true):dst≠some d:= λe=>by
 subst e
 simp at h
theorem TC {P:List (Nat×Nat×AV×OB)} {K:St->Prop} (hP: ∀a∈P,∃o,ops[a.1]?=some o/\eM T o=some a.2):
  ∀(n f:Nat) (Q:List (Nat×Nat×AV×OB)) (lc la:Array Bool) (s t:St),n=f+Q.length->Ahu T Γ ops P K f lc s->z9 (Q.map (·.2)) s t->XK lc la (Q.map (·.1))->(∀a∈Q,a∈P)->
   (Q.Pairwise λa c=>a.2.1≠c.2.1/\a.1≠c.1)->Uc ops la->(∀a∈Q,∀x,Region.waitsFor .any ops a.1 x=true->la.getD x false=true)->anyS T Γ ops K n la t:=by
 intro n
 induction n with
 |zero=>
  intro f Q lc la s t hn hC hp hb hQ hpw Pw hw
  have hf:f=0:=by omega
  have hq:Q= []:=Ck (by omega)
  subst hf hq
  have hp:s=t:=hp
  subst hp
  rw [hb.nil]
  exact hC
 |succ n ih=>
  intro f Q lc la s t hn hC hp hb hQ hpw Pw hw
  refine ⟨?_,λi hi=>?_⟩
  ·cases Q with
   |nil=>
    rw [hb.nil]
    cases f with
    |zero=>simp at hn
    |succ f=>exact hC.1
   |cons a Q=>
    obtain ⟨o,ho,_⟩:=hP a (hQ a (by simp))
    obtain ⟨g1,g2,_⟩:=hb.off a.1 (by simp)
    have:a.1∈Region.ready .any ops la:=mem_ready.2 ⟨getD_in g1 g2,o,ho,λe he hbd=>hw a (by simp) e.on (by
     unfold Region.waitsFor
     rw [ho]
     exact Array.any_eq_true'.2 ⟨e,he,by simp [hbd]⟩)⟩
    intro e
    rw [e] at this
    cases this
  ·by_cases hiQ:i∈Q.map (·.1)
   ·obtain ⟨a,ha,rfl⟩:=Bj.1 hiQ
    obtain ⟨Q1,Q2,rfl⟩:=List.append_of_mem ha
    obtain ⟨o,ho,hal⟩:=hP a (hQ a ha)
    obtain ⟨_,_,Tq⟩:=eN (Γ:=Γ) (ops:=ops) hal
    have ZR:=List.pairwise_append.1 hpw
    have Ane:=List.pairwise_cons.1 ZR.2.1
    rw [Kb,Ca] at hp
    have hL: ∀p∈Q1.map (·.2)++a.2::Q2.map (·.2),sO p.1 p.2.1 p.2.2:= λp zH=>by
     have:p∈(Q1++a::Q2).map (·.2):=by rw [Kb,Ca];exact zH
     obtain ⟨c,hc,rfl⟩:=Bj.1 this
     obtain ⟨o',_,Aru⟩:=hP c (hQ c hc)
     exact (eN (Γ:=Γ) (ops:=ops) Aru).2.1
    obtain ⟨p1,p2⟩:=yB _ hp hL λp zH=>by
     obtain ⟨c,hc,rfl⟩:=Bj.1 zH
     exact (ZR.2.2 c hc a (by simp)).1
    refine ⟨o,_,ho,Tq t p1,ih f (Q1++Q2) lc _ s _ ?_ hC (by rw [Kb];exact p2) (hb.one hiQ λk=>?_) (λc hc=>hQ c ?_) ?_ (Pw.set hi) λc hc x hx=>getD_set_true (hw c ?_ x hx)⟩
    ·simp only [Ax,Az] at hn⊢;omega
    ·simp only [Kb,Ca,Bb,Be]
     constructor
     ·intro h
      rcases h with h|h
      ·obtain ⟨c,hc,rfl⟩:=Bj.1 h
       exact ⟨.inl h,(ZR.2.2 c hc a (by simp)).2⟩
      ·obtain ⟨c,hc,rfl⟩:=Bj.1 h
       exact ⟨.inr (.inr h),Ge (Ane.1 c hc).2⟩
     ·rintro ⟨h|h|h,Ik⟩
      ·exact .inl h
      ·exact absurd h Ik
      ·exact .inr h
    ·rcases Bb.1 hc with hc|hc
     ·exact Bc _ hc
     ·exact Bt _ (As _ hc)
    ·exact List.pairwise_append.2 ⟨ZR.1,Ane.2,λc hc e he=>ZR.2.2 c hc e (As _ he)⟩
    ·rcases Bb.1 hc with hc|hc
     ·exact Bc _ hc
     ·exact Bt _ (As _ hc)
   ·have hic:=hb.ready hi hiQ
    cases f with
    |zero=>
     rw [hC.1] at hic
     cases hic
    |succ f=>
     obtain ⟨o,s',ho,iM,he,gh⟩:=hC.2 i hic
     have Ae5: ∀a∈Q,mE ops 5 i a.1=false:= λa ha=>by
      cases hwt:mE ops 5 i a.1 with
      |false=>rfl
      |true=>
       have h1:=lF Pw _ i (λx hx=>cO hi hx) hwt
       rw [(hb.off a.1 (Bj.2 ⟨a,ha,rfl⟩)).2.1] at h1
       cases h1
     have key: ∃t',Eo T Γ ops t o=some t'/\z9 (Q.map (·.2)) s' t':=by
      unfold NN at iM
      rw [Ka,Af] at iM
      rcases iM with iM|⟨h1,h2⟩
      ·cases Q with
       |nil=>
        have hp:s=t:=hp
        subst hp
        exact ⟨s',he,rfl⟩
       |cons a Q=>
        have:=Bd.1 iM a (hQ a (by simp))
        rw [Ae5 a (by simp)] at this
        cases this
      ·obtain ⟨t',g1,g2,_⟩:=yA (T:=T) (ops:=ops) _ s t s' hp (λq hq=>by
        obtain ⟨a,ha,rfl⟩:=Bj.1 hq
        obtain ⟨o',_,hal⟩:=hP a (hQ a ha)
        have h3:=Bd.1 h2 a (hQ a ha)
        rw [Ae5 a ha,Se,Af] at h3
        exact ⟨(eN (Γ:=Γ) (ops:=ops) hal).2.1,h3.1,NL h3.2⟩) h1 he
       exact ⟨t',g1,g2⟩
     obtain ⟨t',g1,g2⟩:=key
     exact ⟨o,t',ho,g1,ih f Q _ _ s' t' (by omega) gh g2 (hb.both hiQ) hQ hpw (Pw.set hi) λc hc x hx=>getD_set_true (hw c hc x hx)⟩
def Zk (T:Tab) (ops:Array Oper) (Ah:Array Bool):List (Nat×Nat×AV×OB):=(Region.ready .any ops Ah).filterMap λi=>((ops[i]?).bind (eM T)).map λr=>(i,r)
theorem zg {Ah:Array Bool} {a:Nat×Nat×AV×OB} (h:a∈Zk T ops Ah):a.1∈Region.ready .any ops Ah/\ ∃o,ops[a.1]?=some o/\eM T o=some a.2:=by
 unfold Zk at h
 obtain ⟨i,hi,he⟩:=List.mem_filterMap.1 h
 cases ho:ops[i]? with
 |none=>rw [ho] at he;cases he
 |some o=>
  rw [ho] at he
  simp only [Fh,Option.map_eq_some_iff] at he
  obtain ⟨r,h1,rfl⟩:=he
  exact ⟨hi,o,ho,h1⟩
theorem Adh {Ah:Array Bool} {Q:List Nat} (h: ∀i∈Q,i∈Region.ready .any ops Ah):XK (Fm Q Ah) Ah Q:=by
 have hr: ∀i∈Q,i<Ah.size/\Ah.getD i false=false:= λi hi=>by
  have h1:=(mem_ready.1 (h i hi)).1
  refine ⟨?_,getD_both h1⟩
  rcases Nat.lt_or_ge i Ah.size with h'|h'
  ·exact h'
  ·simp [Array.getElem?_eq_none h'] at h1
 exact ⟨(Wf Q Ah).symm,λk hk=>⟨(hr k hk).1,(hr k hk).2,fb Q Ah k hk (hr k hk).1⟩,λk hk=>(dq Q Ah k hk).symm⟩
theorem HW: ∀(Q:List (Nat×Nat×AV×OB)) (t s:St),(∀a∈Q,∃o,ops[a.1]?=some o/\eM T o=some a.2)->(∀a∈Q,Il a.2.1 t)->(Q.Pairwise λa c=>a.2.1≠c.2.1)->Ms T Γ ops (Q.map (·.1)) t=some s->z9 (Q.map (·.2)) s t
 | [],t,s,_,_,_,h=>by
  have h:some t=some s:=h
  exact (Ba h).symm
 |a::Q,t,s,hQ,hn,hp,h=>by
  obtain ⟨o,ho,hal⟩:=hQ a (by simp)
  obtain ⟨_,hL,Tq⟩:=eN (Γ:=Γ) (ops:=ops) hal
  obtain ⟨yc,RS⟩:=List.pairwise_cons.1 hp
  simp only [Ca,Ms,ho] at h
  rw [Tq t (hn a (by simp))] at h
  refine ⟨hn a (by simp),HW Q _ s (λc hc=>hQ c (As _ hc)) (λc hc=>?_) RS h⟩
  exact (hn c (As _ hc)).plus (Ge (yc c hc)) (λh=>yc c hc (hL.v1 _ h).symm) (by rw [hL.b1];simp)
end
end Go.Proofs.YtfolipnappekaaaGreat
