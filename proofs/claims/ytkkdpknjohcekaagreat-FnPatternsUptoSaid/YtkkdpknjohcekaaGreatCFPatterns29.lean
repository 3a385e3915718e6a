/-
  Part 30 of the proof that the statement FnPatterns holds.
-/
import Derived.Test.YtkkdpknjohcekaaGreatCFPatterns28
namespace Go.Proofs.YtkkdpknjohcekaaGreat
open Go.RowKit
def Jl (d:Nat) (v:AV) (b:OB) (st:St):St:= {tmps:=Sr st.tmps d v,heap:=Og st.heap d b}
def pj (d:Nat) (st:St):Bool:=(st.get d).refs.isEmpty&&((st.tmps.all λv=>!v.refs.contains d)&&st.heap.all λp=>!Nat.beq p.1 d&&!p.2.refs.contains d)
structure Ir (d:Nat) (st:St):Prop where
 own:(st.get d).refs= []
 tmps: ∀v∈st.tmps,d∉v.refs
 heap: ∀p∈st.heap,p.1≠d/\d∉p.2.refs
theorem tY {d:Nat} {st:St} (h:pj d st=true):Ir d st:=by
 unfold pj at h
 rw [Ag,Ag,Bf,Bf] at h
 obtain ⟨h0,h⟩:=h
 refine ⟨List.isEmpty_iff.1 h0,λv hv=>?_,λp hp=>?_⟩
 ·have:=h.1 v hv
  intro hd
  rw [Js.2 hd] at this
  cases this
 ·have:=h.2 p hp
  rw [Ag] at this
  refine ⟨λe=>?_,λhd=>?_⟩
  ·have h1:=this.1
   rw [e,Nat.beq_refl] at h1
   cases h1
  ·have h1:=this.2
   rw [Js.2 hd] at h1
   cases h1
theorem UT {d:Nat} {st:St} (h:Ir d st):pj d st=true:=by
 unfold pj
 rw [Ag,Ag,Bf,Bf]
 refine ⟨by rw [h.own];rfl,λv hv=>?_,λp hp=>?_⟩
 ·rw [Es,<-Ge,Js];exact h.tmps v hv
 ·rw [Ag]
  refine ⟨?_,?_⟩
  ·rw [Es,<-Ge]
   exact λe=>(h.heap p hp).1 (Ju e)
  ·rw [Es,<-Ge,Js];exact (h.heap p hp).2
structure sd (d:Nat) (v:AV) (b:OB):Prop where
 v1: ∀l,l∈v.refs->l=d
 b1:b.refs= []
 v2: ∀l,l≠d->v.map (Cq l)=v
 b2: ∀l,b.map (Cq l)=b
theorem ek {α:Type} : ∀(xs:List α) (d t:Nat) (v x:α),d≠t->(Sr xs d v).getD t x=xs.getD t x
 | [],_,_,_,_,_=>rfl
 |y::r,0,0,_,_,h=>absurd rfl h
 |y::r,0,t+1,_,_,_=>by simp [Sr]
 |y::r,d+1,0,_,_,_=>by simp [Sr]
 |y::r,d+1,t+1,v,x,h=>by simpa [Sr] using ek r d t v x (by omega)
theorem pG {α:Type} : ∀(xs:List α) (d e:Nat) (v w:α),d≠e->Sr (Sr xs d v) e w=Sr (Sr xs e w) d v
 | [],_,_,_,_,_=>rfl
 |y::r,0,0,_,_,h=>absurd rfl h
 |y::r,0,e+1,_,_,_=>rfl
 |y::r,d+1,0,_,_,_=>rfl
 |y::r,d+1,e+1,v,w,h=>by simp only [Sr];rw [pG r d e v w (by omega)]
theorem xD: ∀(H:List (Nat×OB)) (d l:Nat) (b:OB),d≠l->At (Og H d b) l=At H l
 | [],d,l,b,h=>by simp [Og,At,h]
 |(k,c)::r,d,l,b,h=>by
  simp only [Og]
  split
  ·simp only [At];rw [Ak h]
  ·simp only [At]
   split
   ·rfl
   ·exact xD r d l b h
theorem xH: ∀(H:List (Nat×OB)) (d e:Nat) (b c:OB),d≠e->Og (Og H d b) e c=Og (Og H e c) d b
 | [],d,e,b,c,h=>by
  simp only [Og]
  by_cases h1:e<d
  ·rw [Ab h1,Ak (by omega)]
  ·rw [Ak h1,Ab (by omega)]
 |(k,a)::r,d,e,b,c,h=>by
  simp only [Og]
  by_cases h1:d<k<;>by_cases h2:e<k
  ·rw [Ab h1,Ab h2]
   simp only [Og]
   by_cases h3:e<d
   ·rw [Ab h3,Ak (by omega),Ab h1]
   ·rw [Ak h3,Ab h2,Ab (by omega)]
  ·rw [Ab h1,Ak h2]
   simp only [Og]
   rw [Ak (by omega),Ak h2,Ab h1]
  ·rw [Ak h1,Ab h2]
   simp only [Og]
   rw [Ab h2,Ak (by omega),Ak h1]
  ·rw [Ak h1,Ak h2]
   simp only [Og]
   rw [Ak h1,Ak h2,xH r d e b c h]
theorem yA: ∀(H:List (Nat×OB)) (d l:Nat) (b c:OB),d≠l->ar (Og H d b) l c=Og (ar H l c) d b
 | [],d,l,b,c,h=>by simp [Og,ar,h]
 |(k,a)::r,d,l,b,c,h=>by
  simp only [Og,ar]
  by_cases h1:d<k<;>by_cases h2:k=l
  ·rw [Ab h1,Ab h2]
   simp only [ar,Og]
   rw [Ak h,Ab h2,Ab h1]
  ·rw [Ab h1,Ak h2]
   simp only [ar,Og]
   rw [Ak h,Ak h2,Ab h1]
  ·rw [Ak h1,Ab h2]
   simp only [ar,Og]
   rw [Ab h2,Ak h1]
  ·rw [Ak h1,Ak h2]
   simp only [ar,Og]
   rw [Ak h2,Ak h1,yA r d l b c h]
theorem qg {l:Nat} : ∀ {c:AC},l∉c.refs->Cq l c=c:=by
 intro c h
 cases c<;>simp only [Cq]<;>simp only [AC.refs,Ad] at h
 case clo f Ef=>rw [Ak (by simpa using h)]
 all_goals (first|rfl|rw [Ak (Gg h)])
theorem aS {l:Nat} : ∀ {cs:List AC},l∉cs.flatMap AC.refs->cs.map (Cq l)=cs
 | [],_=>rfl
 |c::r,h=>by
  rw [Vx,Az] at h
  rw [Bu,qg (λhh=>h (.inl hh)),aS (λhh=>h (.inr hh))]
theorem EZ {l:Nat} : ∀ {v:AV},l∉v.refs->v.map (Cq l)=v
 | .at a,h=>by simp only [AV.map];rw [qg h]
 | .agg cs,h=>by simp only [AV.map];rw [aS h]
 | .bw _ _ _,_=>rfl
 | .Mt ps,h=>by
  simp only [AV.map]
  congr 1
  simp only [AV.refs] at h
  induction ps with
  |nil=>rfl
  |cons p r ih=>
   rw [Vx,Az] at h
   rw [Bu,aS (λhh=>h (.inl hh)),ih (λhh=>h (.inr hh))]
theorem FA {l:Nat} : ∀ {b:OB},l∉b.refs->b.map (Cq l)=b
 | .arr _ _ _ _ _,_=>rfl
 | .Hf _ _ _,_=>rfl
 | .var _ vs,h=>by simp only [OB.map];rw [aS h]
 | .Bl _ _ _ _ _,_=>rfl
 | .Vw _ _,_=>rfl
theorem EK {l:Nat} : ∀ {H:List (Nat×OB)},(∀p∈H,p.1≠l)->aA H l=H
 | [],_=>rfl
 |(k,b)::r,h=>by
  simp only [aA]
  rw [Ak (h (k,b) (by simp)),EK λp hp=>h p (by simp [hp])]
theorem Ir.forget {l:Nat} {st:St} (h:Ir l st):st.forget l=st:=by
 have e1:st.tmps.map (λv=>v.map (Cq l))=st.tmps:=(Ei λv hv=>EZ (h.tmps v hv)).trans (List.map_id _)
 have e2:st.heap.map (λp=>(p.1,p.2.map (Cq l)))=st.heap:=(Ei λp hp=>by rw [FA (h.heap p hp).2];rfl).trans (List.map_id _)
 unfold St.forget St.Lb
 simp only [e1,e2]
 rw [EK λp hp=>(h.heap p hp).1]
theorem Ir.new {l:Nat} {st:St} (h:Ir l st) (b:OB) (v:AV):(st.new l b).put (some l) v=Jl l v b st:=by
 unfold St.new
 rw [h.forget]
 rfl
theorem tT {α:Type} : ∀ {xs:List α} {d:Nat} {v x:α},x∈Sr xs d v->x∈xs\/x=v
 | [],_,_,_,h=>by cases h
 |y::r,0,v,x,h=>by
  rcases Be.1 h with h|h
  ·exact .inr h
  ·exact .inl (Aq _ h)
 |y::r,d+1,v,x,h=>by
  rcases Be.1 h with h|h
  ·exact .inl (by rw [h];simp)
  ·exact (tT h).imp (Aq _) id
theorem GS: ∀ {H:List (Nat×OB)} {d:Nat} {b:OB} {p:Nat×OB},p∈Og H d b->p∈H\/p=(d,b)
 | [],d,b,p,h=> .inr (by simpa [Og] using h)
 |(k,c)::r,d,b,p,h=>by
  simp only [Og] at h
  split at h
  ·rcases Be.1 h with h|h
   ·exact .inr h
   ·exact .inl h
  ·rcases Be.1 h with h|h
   ·exact .inl (by rw [h];simp)
   ·exact (GS h).imp (Aq _) id
theorem Adu {d:Nat} {v:AV} {b:OB} {st:St} {x:Operand} (h:x≠ .tmp d):(Jl d v b st).ev x=st.ev x:=by
 cases x with
 |tmp t=>exact ek _ _ _ _ _ (λe=>h (by rw [e]))
 |_=>rfl
theorem QR {d l:Nat} {v:AV} {b:OB} {st:St} (h:d≠l):(Jl d v b st).at l=st.at l:=xD _ _ _ _ h
theorem YS {d e:Nat} {v u:AV} {b:OB} {st:St} (h:d≠e):(Jl d v b st).put (some e) u=Jl d v b (st.put (some e) u):=by
 unfold Jl St.put
 simp only
 rw [pG _ _ _ _ _ h]
theorem TC {d l:Nat} {v:AV} {b c:OB} {st:St} (h:d≠l):(Jl d v b st).Ke l c=Jl d v b (st.Ke l c):=by
 unfold Jl St.Ke
 simp only
 rw [yA _ _ _ _ _ h]
theorem xh {d e:Nat} {v u:AV} {b c:OB} {st:St} (h:d≠e):Jl e u c (Jl d v b st)=Jl d v b (Jl e u c st):=by
 unfold Jl
 rw [pG _ _ _ _ _ h,xH _ _ _ _ _ h]
theorem Ir.put {d:Nat} {st:St} {e:Nat} {u:AV} (h:Ir d st) (hde:e≠d) (hu:d∉u.refs):Ir d (st.put (some e) u):=
 ⟨by show (List.getD (Sr st.tmps e u) d .undef).refs= [];rw [ek _ _ _ _ _ hde];exact h.own,λv hv=>(tT hv).elim (h.tmps v) λe=>by rw [e];exact hu,h.heap⟩
theorem Ir.plus {d e:Nat} {u:AV} {c:OB} {st:St} (h:Ir d st) (hde:d≠e) (hu:d∉u.refs) (hc:d∉c.refs):Ir d (Jl e u c st):=
 ⟨by show (List.getD (Sr st.tmps e u) d .undef).refs= [];rw [ek _ _ _ _ _ (Gg hde)];exact h.own,λv hv=>(tT hv).elim (h.tmps v) λe=>by rw [e];exact hu,λp hp=>(GS hp).elim (h.heap p) λe'=>by rw [e'];exact ⟨Gg hde,hc⟩⟩
theorem Ir.Ajv {d e:Nat} {u:AV} {c:OB} {st:St} (h:Ir d (Jl e u c st)): ∀p∈st.heap,p.1≠d/\d∉p.2.refs:= λp hp=>h.heap p (by
 show p∈Og st.heap e c
 generalize st.heap=H at hp
 induction H with
 |nil=>cases hp
 |cons q r ih=>
  obtain ⟨k,a⟩:=q
  simp only [Og]
  split
  ·exact Aq _ hp
  ·rcases Be.1 hp with hp|hp
   ·rw [hp];simp
   ·exact Aq _ (ih hp))
theorem rI {st st':St} : ∀(τ:Ty) (cs:List AC),cs.all (·.settled)=true->Fg st' τ cs=Fg st τ cs:=by
 intro τ
 induction τ with
 |unit=>intro cs _;cases cs<;>rfl
 |pair a r ib gZ=>
  intro cs h
  simp only [Fg]
  rw [Bf] at h
  rw [ib _ (Bf.2 λc hc=>h c (En hc)),gZ _ (Bf.2 λc hc=>h c (dM hc))]
 |_=>
  intro cs h
  rcases cs with _|⟨c,_|⟨c',cs⟩⟩
  ·rfl
  ·simp only [Jp,List.all_nil,Bool.and_true] at h
   simp only [Fg]
   exact ba h
  ·rfl
theorem gh {st st':St} {τ:Ty} {v:AV} (h:v.settled=true):Ga st' τ v=Ga st τ v:=by
 cases v with
 | «at»a=>
  have ha:a.settled=true:=h
  cases a<;>simp only [AC.settled,Dd] at ha
  all_goals
   simp only [Ga]
   rw [Qm rfl,Qm rfl]
   rw [ba (st:=st) (st':=st') rfl]
 |agg cs=>simp only [Ga];rw [rI _ _ h]
 |bw _ _ _=>rfl
 |Mt _=>rfl
theorem jI {st st':St} : ∀(τ:Ty) (vs:List AV),vs.all (·.settled)=true->Dx st' τ vs=Dx st τ vs
 | .pair a r,v::vs,h=>by
  rw [Jp,Ag] at h
  simp only [Dx]
  rw [gh (st:=st) (st':=st') h.1,jI r vs h.2]
 | .pair _ _,[],_=>rfl
 | .unit,[],_=>rfl
 | .unit,_::_,_=>rfl
 | .int _,vs,_=>by cases vs<;>rfl
 | .bool,vs,_=>by cases vs<;>rfl
 | .str,vs,_=>by cases vs<;>rfl
 | .slice _,vs,_=>by cases vs<;>rfl
 | .oslice _,vs,_=>by cases vs<;>rfl
 | .ptr _,vs,_=>by cases vs<;>rfl
 | .optr _,vs,_=>by cases vs<;>rfl
 | .smap _,vs,_=>by cases vs<;>rfl
 | .clo _ _,vs,_=>by cases vs<;>rfl
def Wq:AV->Bool
 | .at (.data _ _ _)=>true
 |_=>false
def jG (o:Oper):List Operand:=match o.op with
 | .move x=> [x]
 | .load _ x=> [x]
 | .call {callee:= .value (.func _),args, .. } =>args.toList
 | .insert _ m k x=> [m,k,x]
 | .buildSlice _ _ parts=>parts.toList.map (·.2)
 |_=> []
def j9 (d:Nat):Operand->Bool
 | .tmp t=>!Nat.beq t d
 |_=>true
theorem UU {d:Nat} {x:Operand} (h:j9 d x=true):x≠ .tmp d:= λe=>by
 subst e
 simp [j9] at h
def Wu (Γ:Env) (st:St) (o:Oper):Bool:=match o.guard with
 |some _=>false
 |none=>match o.op with
  | .move _=>true
  | .load _ x=>(match st.ev x with
   | .at (.Hr _ _)=>true
   |_=>false)
  | .call {callee:= .value (.func f),args, .. } =>(match Γ f with
   |some (.q _)=>true
   |_=>false)&&args.toList.all λx=>(st.ev x).settled
  | .insert _ m k x=>(match st.ev m with
   | .at (.Kq _)=>true
   |_=>false)&&Wq (st.ev k)&&(st.ev x).settled
  | .buildSlice _ _ parts=>(parts.toList.all λp=>Wq (st.ev p.2))&&(match o.dst with
   |some e=>pj e st
   |none=>false)
  |_=>false
theorem Ir.ev {d:Nat} {st:St} (h:Ir d st) (x:Operand):d∉(st.ev x).refs:=by
 cases x with
 |tmp t=>
  simp only [St.ev,St.get]
  rw [Ai]
  by_cases hl:t<st.tmps.length
  ·rw [Ac hl];exact h.tmps _ (Al hl)
  ·rw [Dz (Nat.le_of_not_lt hl)];simp [AV.refs,AC.refs]
 |const c=>
  simp only [St.ev]
  unfold mS
  split<;>simp [AV.refs,AC.refs]
 |func f=>simp [St.ev,AV.refs,AC.refs]
 |_=>simp [St.ev,AV.refs,AC.refs]
theorem FJ: ∀ {H:List (Nat×OB)} {l:Nat} {b:OB},At H l=some b->(l,b)∈H
 |(k,c)::r,l,b,h=>by
  simp only [At] at h
  split at h
  ·rename_i e;subst e;cases h;simp
  ·exact Aq _ (FJ h)
section
variable {T:Tab} {Γ:Env} {ops:Array Oper} {d:Nat} {v:AV} {b:OB} {t:St}
theorem yk {e:Option Tmp} (h:e≠some d) (hn:Ir d t) {y:AV} (hy:d∉y.refs):(Jl d v b t).put e y=Jl d v b (t.put e y)/\Ir d (t.put e y):=by
 cases e with
 |none=>exact ⟨rfl,hn⟩
 |some k=>exact ⟨YS (λe=>h (by rw [e])),hn.put (λe=>h (by rw [e])) hy⟩
theorem jh {o:Oper} (hg:o.guard=none) (eu:o.dst≠some d) (hn:Ir d t) {q:Option AV} (h1:evalOp T Γ (Jl d v b t) o=q.map λy=>(y,Jl d v b t)) (h2:evalOp T Γ t o=q.map λy=>(y,t)) (hq: ∀y,q=some y->d∉y.refs) {s':St}
  (he:Fc T Γ ops (Jl d v b t) o=some s'): ∃t',Fc T Γ ops t o=some t'/\s'=Jl d v b t'/\Ir d t':=by
 unfold Fc at he⊢
 rw [hg] at he⊢
 simp only at he⊢
 rw [h1] at he
 cases q with
 |none=>cases he
 |some y=>
  obtain ⟨p1,p2⟩:=yk (v:=v) (b:=b) eu hn (hq y rfl)
  refine ⟨_,by rw [h2];rfl,?_,p2⟩
  simp only [Am,Aa] at he
  rw [<-he,p1]
theorem Zt {l:List Operand} (hu:l.all (j9 d)=true): ∀x∈l,(Jl d v b t).ev x=t.ev x:= λx hx=>Adu (UU (Bf.1 hu x hx))
theorem MV {dst:Option Tmp} {x:Operand} {ty:TypeId} {pos:String} {after:Array Edge} (hn:Ir d t) (hx:(Jl d v b t).ev x=t.ev x) (eu:dst≠some d) {s':St}
  (he:Fc T Γ ops (Jl d v b t) {dst:=dst,op:= .move x,type:=ty,pos:=pos,after:=after,guard:=none} =some s'):
  ∃t',Fc T Γ ops t {dst:=dst,op:= .move x,type:=ty,pos:=pos,after:=after,guard:=none} =some t'/\s'=Jl d v b t'/\Ir d t':=
 jh rfl eu hn (q:=some (t.ev x)) (by simp only [evalOp,Fh,hx]) (by simp only [evalOp,Fh]) (λy hy=>by cases hy;exact hn.ev x) he
def loadVar (T:Tab) (o:Option OB) (t0:TypeId) (i:Nat):Option AV:=match T.ty t0 with
 |some τ=>(match o with
  |some (.var _ vs)=>if τ.Ap then (if i+τ.size<=vs.length then some (.agg ((vs.drop i).take τ.size)) else none) else vs[i]?.map .at
  |_=>none)
 |none=>none
theorem kQ {st:St} {t0:TypeId} {l i:Nat} :Qe T st t0 (.at (.Hr l i))=loadVar T (st.at l) t0 i:=by
 unfold Qe loadVar
 cases T.ty t0<;>rfl
theorem MR {dst:Option Tmp} {t0:TypeId} {x:Operand} {ty:TypeId} {pos:String} {after:Array Edge} (hn:Ir d t) (hx:(Jl d v b t).ev x=t.ev x) (eu:dst≠some d) {l i:Nat} (hp:t.ev x= .at (.Hr l i)) {s':St}
  (he:Fc T Γ ops (Jl d v b t) {dst:=dst,op:= .load t0 x,type:=ty,pos:=pos,after:=after,guard:=none} =some s'):
  ∃t',Fc T Γ ops t {dst:=dst,op:= .load t0 x,type:=ty,pos:=pos,after:=after,guard:=none} =some t'/\s'=Jl d v b t'/\Ir d t':=by
 have hld:d≠l:= λe=>by
  have:=hn.ev x
  rw [hp,e] at this
  exact this (by simp [AV.refs,AC.refs])
 refine jh rfl eu hn (q:=loadVar T (t.at l) t0 i) ?_ ?_ (λy hy=>?_) he
 ·simp only [evalOp,Fh,hx,hp]
  rw [kQ,QR hld]
 ·simp only [evalOp,Fh,hp]
  rw [kQ]
 ·unfold loadVar at hy
  split at hy
  ·split at hy
   ·rename_i vs hb
    have hr:d∉vs.flatMap AC.refs:=(hn.heap _ (FJ hb)).2
    have dO: ∀c∈vs,d∉c.refs:= λc hc hd=>hr (Gf.2 ⟨c,hc,hd⟩)
    split at hy
    ·split at hy
     ·cases hy
      intro hd
      obtain ⟨c,hc,hd⟩:=Gf.1 hd
      exact dO c (dM (En hc)) hd
     ·cases hy
    ·cases hv:vs[i]? with
     |none=>rw [hv] at hy;cases hy
     |some c=>
      rw [hv] at hy
      cases hy
      exact dO c (Cl hv)
   ·cases hy
  ·cases hy
theorem TF {l:List Operand} (hu:l.all (j9 d)=true):l.map (Jl d v b t).ev=l.map t.ev:=Ei λx hx=>Zt hu x hx
theorem KU {dst:Option Tmp} {f:FuncId} {args:Array Operand} {tys:Array TypeId} {ty:TypeId} {pos:String} {after:Array Edge} {sp:Spec} (Ot:Γ f=some (.q sp)) (hn:Ir d t) (hx:args.toList.map (Jl d v b t).ev=args.toList.map t.ev) (eu:dst≠some d)
  (hs:(args.toList.map t.ev).all (·.settled)=true) {s':St} (he:Fc T Γ ops (Jl d v b t) {dst:=dst,op:= .call {callee:= .value (.func f),args:=args,argTypes:=tys},type:=ty,pos:=pos,after:=after,guard:=none} =some s'):
  ∃t',Fc T Γ ops t {dst:=dst,op:= .call {callee:= .value (.func f),args:=args,argTypes:=tys},type:=ty,pos:=pos,after:=after,guard:=none} =some t'/\s'=Jl d v b t'/\Ir d t':=by
 have RS:fF sp (args.toList.map t.ev)=false:=by unfold fF;rw [hs];simp
 have LQ: ∀st:St,Oo Γ st f (args.toList.map t.ev)=(match Dx t sp.arg (args.toList.map t.ev) with
   |none=>none
   |some (_,x)=>(sp.fn x).map λy=>if sp.Hk then .bw (sp.fresh||sp.res.flat) sp.res y else .at (.data (sp.fresh||sp.res.flat) sp.res y)):= λst=>by
  unfold Oo
  rw [Ot]
  simp only
  rw [hs,jI (st:=t) _ _ hs]
  simp only [Bool.or_true,Ph]
  cases Dx t sp.arg (args.toList.map t.ev)<;>rfl
 refine jh rfl eu hn (q:=Oo Γ t f (args.toList.map t.ev)) ?_ ?_ (λy hy=>?_) he
 ·simp only [evalOp,Fh,Ot,hx,RS]
  rw [LQ,LQ t]
  simp
 ·simp only [evalOp,Fh,Ot,RS]
  simp
 ·rw [LQ t] at hy
  split at hy
  ·cases hy
  ·rename_i x _
   cases hf:sp.fn x with
   |none=>rw [hf] at hy;cases hy
   |some z=>
    rw [hf] at hy
    simp only [Am,Aa] at hy
    rw [<-hy]
    split<;>simp [AV.refs,AC.refs]
def nO (T:Tab) (o:Option OB) (t0:TypeId) (s:ByteArray) (vw:(v:Ty)->Option (Bool×v.den)):Option OB:=match T.mapOf t0 with
 |some v=>(match o,vw v with
  |some (.Vw v' f),some (_,y)=>if h:v'=v/\v.flat=true/\v.Ap=false then some (.Vw v (cj (h.1▸f:ByteArray->Option v.den) s y)) else none
  |_,_=>none)
 |none=>none
theorem kR {st:St} {t0:TypeId} {l:Nat} {fr:Bool} {s:ByteArray} {x:AV} :Ji T st t0 (.at (.Kq l)) (.at (.data fr .str s)) x=(nO T (st.at l) t0 s λv=>Ga st v x).map λc=>st.Ke l c:=by
 unfold Ji nO
 cases T.mapOf t0 with
 |none=>rfl
 |some v0=>
  simp only
  cases st.at l with
  |none=>rfl
  |some c=>
   cases c with
   |Vw v' f=>
    cases Ga st v0 x with
    |none=>rfl
    |some p=>
     simp only
     split<;>rfl
   |_=>rfl
theorem GP {o:Option OB} {t0:TypeId} {s:ByteArray} {vw:(v:Ty)->Option (Bool×v.den)} {c:OB} (h:nO T o t0 s vw=some c):c.refs= []:=by
 unfold nO at h
 split at h
 ·split at h
  ·split at h
   ·cases h;rfl
   ·cases h
  ·cases h
 ·cases h
theorem sM {st:St} {t0:TypeId} {m k x:AV} {s':St} (h:Ji T st t0 m k x=some s'): ∃l fr s,m= .at (.Kq l)/\k= .at (.data fr .str s):=by
 unfold Ji at h
 split at h
 ·exact ⟨_,_,_,rfl,rfl⟩
 ·cases h
theorem GU: ∀ {H:List (Nat×OB)} {l:Nat} {c:OB} {p:Nat×OB},p∈ar H l c->p∈H\/(p.2=c/\p.1=l/\ ∃c',(l,c')∈H)
 |(k,a)::r,l,c,p,h=>by
  simp only [ar] at h
  split at h
  ·rename_i e
   rcases Be.1 h with h|h
   ·subst h;exact .inr ⟨rfl,e,a,by rw [e];simp⟩
   ·exact .inl (Aq _ h)
  ·rcases Be.1 h with h|h
   ·exact .inl (by rw [h];simp)
   ·exact (GU h).imp (Aq _) λ⟨h1,h2,c',h3⟩=>⟨h1,h2,c',Aq _ h3⟩
theorem Ir.Ke {st:St} {l:Nat} {c:OB} (h:Ir d st) (hc:d∉c.refs):Ir d (st.Ke l c):=
 ⟨h.own,h.tmps,λp hp=>(GU hp).elim (h.heap p) λ⟨h1,h2,c',h3⟩=>⟨by rw [h2];exact (h.heap _ h3).1,by rw [h1];exact hc⟩⟩
theorem zB {dst:Option Tmp} {t0:TypeId} {m k x:Operand} {ty:TypeId} {pos:String} {after:Array Edge} (hn:Ir d t) (hm:(Jl d v b t).ev m=t.ev m) (hk:(Jl d v b t).ev k=t.ev k) (hx:(Jl d v b t).ev x=t.ev x) (eu:dst≠some d)
  (hs:(t.ev x).settled=true) {s':St} (he:Fc T Γ ops (Jl d v b t) {dst:=dst,op:= .insert t0 m k x,type:=ty,pos:=pos,after:=after,guard:=none} =some s'):
  ∃t',Fc T Γ ops t {dst:=dst,op:= .insert t0 m k x,type:=ty,pos:=pos,after:=after,guard:=none} =some t'/\s'=Jl d v b t'/\Ir d t':=by
 unfold Fc at he⊢
 simp only [evalOp,hm,hk,hx] at he⊢
 cases RQ:Ji T (Jl d v b t) t0 (t.ev m) (t.ev k) (t.ev x) with
 |none=>rw [RQ] at he;cases he
 |some s1=>
  rw [RQ] at he
  simp only [Am,Aa] at he
  obtain ⟨l,fr,s,e1,e2⟩:=sM RQ
  have hld:d≠l:= λe=>by
   have:=hn.ev m
   rw [e1,e] at this
   exact this (by simp [AV.refs,AC.refs])
  rw [e1,e2,kR,QR hld] at RQ
  have hvw:(λv0=>Ga (Jl d v b t) v0 (t.ev x))= λv0=>Ga t v0 (t.ev x):=funext λv0=>gh hs
  rw [hvw] at RQ
  rw [e1,e2,kR]
  cases ho:nO T (t.at l) t0 s λv0=>Ga t v0 (t.ev x) with
  |none=>rw [ho] at RQ;cases RQ
  |some c=>
   rw [ho] at RQ
   simp only [Am,Aa] at RQ
   have hc:=GP ho
   have rS:Ir d (t.Ke l c):=hn.Ke (by rw [hc];simp)
   obtain ⟨p1,p2⟩:=yk (v:=v) (b:=b) (y:= .undef) eu rS (by simp [AV.refs,AC.refs])
   refine ⟨_,rfl,?_,p2⟩
   rw [<-he,<-RQ,TC hld,p1]
theorem Ir.back {e:Nat} (h:Ir e (Jl d v b t)) (hde:e≠d) (hn:Ir d t):Ir e t:=by
 have hg: ∀k,k≠d->(Jl d v b t).get k=t.get k:= λk hk=>ek _ _ _ _ _ (Gg hk)
 refine ⟨by rw [<-hg e hde];exact h.own,λu hu hd=>?_,h.Ajv⟩
 obtain ⟨k,hk,rfl⟩:=Bh.1 hu
 have e1:t.get k=t.tmps[k]:=by unfold St.get;rw [Ai,Ac hk];rfl
 by_cases hkd:k=d
 ·subst hkd
  have:=hn.own
  rw [e1] at this
  rw [this] at hd
  cases hd
 ·have h1:=h.ev (.tmp k)
  have h2:(Jl d v b t).ev (.tmp k)=t.tmps[k]:=by show (Jl d v b t).get k=_;rw [hg k hkd,e1]
  rw [h2] at h1
  exact h1 hd
def mq (e:Ty):Nat->List (Nat×AV)->Option (Bool×Bool×List e.den)
 |_,[]=>some (true,true,[])
 |i,(j,x)::r=>if i=j then match Ga ⟨[],[]⟩ e x with
  |some (fr,y)=>match mq e (i+1) r with
   |some (Wh,tr',ys)=>some (fr&&Wh,Tn ⟨[],[]⟩ x&&e.tree&&tr',y::ys)
   |none=>none
  |none=>none
  else none
theorem dU {st:St} {e:Ty} : ∀(l:List (Nat×Operand)) (i:Nat),(l.all λp=>Wq (st.ev p.2))=true->Lk e i l st=(mq e i (l.map λp=>(p.1,st.ev p.2))).map λp=>(p.1,p.2.1,p.2.2,st)
 | [],i,_=>rfl
 |(j,x)::r,i,h=>by
  rw [Jp,Ag] at h
  have hx:Wq (st.ev x)=true:=h.1
  simp only [Lk,mq,Bu]
  split
  ·generalize hxv:st.ev x=xv at hx
   unfold Wq at hx
   split at hx
   ·rename_i fr τ z
    have Aja:settle st (.at (.data fr τ z))=some (.at (.data fr τ z),st):=rfl
    rw [Aja]
    simp only
    rw [gh (st:=⟨[],[]⟩) (st':=st) (v:= .at (.data fr τ z)) rfl]
    cases Ga ⟨[],[]⟩ e (.at (.data fr τ z)) with
    |none=>rfl
    |some p=>
     simp only
     rw [dU r (i+1) h.2]
     cases mq e (i+1) (r.map λp=>(p.1,st.ev p.2)) with
     |none=>rfl
     |some q=>rfl
   ·cases hx
  ·rfl
def rowOf (T:Tab) (t0:TypeId) (len:Nat) (parts:List (Nat×AV)) (dst:Nat):Option (AV×OB):=match eo T t0 with
 |some _=>none
 |none=>match T.elem t0 with
  |none=>none
  |some te=>match T.ty te with
   |none=>none
   |some e=>if parts.length=len/\len<=64/\e.size<=64/\dst<Bn then (mq e 0 parts).map λp=>(.at (.own dst 0 len), .arr ((T.sT||e.flat)&&p.1) (T.CH&&p.2.1) e te p.2.2) else none
theorem ix {st:St} {t0:TypeId} {len dst:Nat} {parts:Array (Nat×Operand)} (h:(parts.toList.all λp=>Wq (st.ev p.2))=true):
  Jh T st dst t0 len parts=(rowOf T t0 len (parts.toList.map λp=>(p.1,st.ev p.2)) dst).map λr=>(r.1,st.new dst r.2):=by
 unfold Jh rowOf
 cases eo T t0 with
 |some p=>
  obtain ⟨te,e⟩:=p
  simp only [Option.map_none]
  split
  ·rename_i x hp
   rw [hp,Jp,Ag] at h
   have hx:Wq (st.ev x)=true:=h.1
   unfold Wq at hx
   split at hx
   ·rename_i hv;simp only [hv]
   ·cases hx
  ·rfl
 |none=>
  simp only
  unfold Mo
  cases T.elem t0 with
  |none=>rfl
  |some te=>
   simp only
   cases T.ty te with
   |none=>rfl
   |some e=>
    simp only [Ch,Xq]
    split
    ·rw [dU _ 0 h]
     cases mq e 0 (parts.toList.map λp=>(p.1,st.ev p.2))<;>rfl
    ·rfl
theorem qO {t0:TypeId} {len dst:Nat} {parts:List (Nat×AV)} {r:AV×OB} (h:rowOf T t0 len parts dst=some r):sd dst r.1 r.2:=by
 unfold rowOf at h
 split at h
 ·cases h
 ·split at h
  ·cases h
  ·split at h
   ·cases h
   ·split at h
    ·rename_i e _ _
     cases hp:mq e 0 parts with
     |none=>rw [hp] at h;cases h
     |some p=>
      rw [hp] at h
      simp only [Am,Aa] at h
      subst h
      exact ⟨λl hl=>by simpa [AV.refs,AC.refs] using hl,rfl,λl hl=>by simp only [AV.map,Cq];rw [Ak (Gg hl)],λl=>rfl⟩
    ·cases h
theorem EC {e:Nat} {t0:TypeId} {len:Nat} {parts:Array (Nat×Operand)} {ty:TypeId} {pos:String} {after:Array Edge} (_hl:sd d v b) (hn:Ir d t) (hx: ∀p∈parts.toList,(Jl d v b t).ev p.2=t.ev p.2) (eu:e≠d)
  (hp:(parts.toList.all λp=>Wq (t.ev p.2))=true) (Iz:Ir e (Jl d v b t)) {s':St} (he:Fc T Γ ops (Jl d v b t) {dst:=some e,op:= .buildSlice t0 len parts,type:=ty,pos:=pos,after:=after,guard:=none} =some s'):
  ∃t',Fc T Γ ops t {dst:=some e,op:= .buildSlice t0 len parts,type:=ty,pos:=pos,after:=after,guard:=none} =some t'/\s'=Jl d v b t'/\Ir d t':=by
 have Aiy:=Iz.back eu hn
 have nA:(parts.toList.all λp=>Wq ((Jl d v b t).ev p.2))=true:=Bf.2 λp zv=>by rw [hx p zv];exact Bf.1 hp p zv
 have hm:(parts.toList.map λp=>(p.1,(Jl d v b t).ev p.2))=parts.toList.map λp=>(p.1,t.ev p.2):=Ei λp zv=>by rw [hx p zv]
 unfold Fc at he⊢
 simp only [evalOp] at he⊢
 rw [ix nA,hm] at he
 rw [ix hp]
 cases hr:rowOf T t0 len (parts.toList.map λp=>(p.1,t.ev p.2)) e with
 |none=>rw [hr] at he;cases he
 |some r=>
  rw [hr] at he
  have hL:=qO hr
  simp only [Am,Aa] at he
  rw [Iz.new] at he
  refine ⟨Jl e r.1 r.2 t,by simp only [Am];rw [Aiy.new],?_,hn.plus (Gg eu) (λh=>eu (hL.v1 _ h).symm) (by rw [hL.b1];simp)⟩
  rw [<-he,xh (Gg eu)]
def evC:Operand->AV
 | .const c=>mS c
 |_=> .undef
theorem Ai5 {st:St} {x:Operand} (h:Wq (evC x)=true):st.ev x=evC x:=by
 cases x<;>first|rfl|cases h
def fa (T:Tab) (o:Oper):Option (Nat×AV×OB):=match o.guard with
 |some _=>none
 |none=>match o.dst with
  |none=>none
  |some d=>match o.op with
   | .buildSlice t0 len parts=>if (parts.toList.all λp=>Wq (evC p.2))=true then (rowOf T t0 len (parts.toList.map λp=>(p.1,evC p.2)) d).map λr=>(d,r.1,r.2) else none
   | .makeMap t0 none=>match T.mapOf t0 with
    |some τ=>if d<Bn then some (d, .at (.Kq d), .Vw τ λ_=>none) else none
    |none=>none
   |_=>none
theorem fb {o:Oper} {r:Nat×AV×OB} (h:fa T o=some r):o.dst=some r.1/\sd r.1 r.2.1 r.2.2/\ ∀st:St,Ir r.1 st->Fc T Γ ops st o=some (Jl r.1 r.2.1 r.2.2 st):=by
 obtain ⟨dst,op,ty,pos,after,guard⟩:=o
 unfold fa at h
 cases guard with
 |some g=>cases h
 |none=>
  cases dst with
  |none=>cases h
  |some d=>
   cases op with
   |buildSlice t0 len parts=>
    simp only at h
    split at h
    ·rename_i hp
     cases hr:rowOf T t0 len (parts.toList.map λp=>(p.1,evC p.2)) d with
     |none=>rw [hr] at h;cases h
     |some q=>
      rw [hr] at h
      simp only [Am,Aa] at h
      subst h
      refine ⟨rfl,qO hr,λst Uh=>?_⟩
      have LQ: ∀p∈parts.toList,st.ev p.2=evC p.2:= λp zv=>Ai5 (Bf.1 hp p zv)
      have hm:(parts.toList.map λp=>(p.1,st.ev p.2))=parts.toList.map λp=>(p.1,evC p.2):=Ei λp zv=>by rw [LQ p zv]
      have nA:(parts.toList.all λp=>Wq (st.ev p.2))=true:=Bf.2 λp zv=>by rw [LQ p zv];exact Bf.1 hp p zv
      unfold Fc
      simp only [evalOp]
      rw [ix nA,hm,hr]
      simp only [Am]
      rw [Uh.new]
    ·cases h
   |makeMap t0 hint=>
    cases hint with
    |some x=>cases h
    |none=>
     simp only at h
     split at h
     ·rename_i τ Tz
      split at h
      ·rename_i hd
       cases h
       refine ⟨rfl,⟨λl hl=>by simpa [AV.refs,AC.refs] using hl,rfl,λl hl=>by simp only [AV.map,Cq];rw [Ak (Gg hl)],λl=>rfl⟩,λst Uh=>?_⟩
       unfold Fc
       simp only [evalOp,Ve,Tz,Ab hd,Am]
       rw [Uh.new]
      ·cases h
     ·cases h
   |_=>cases h
theorem BE {l:List Operand} (h: ∀x∈l,(Jl d v b t).ev x=t.ev x):(l.all λx=>((Jl d v b t).ev x).settled)=(l.map t.ev).all (·.settled):=by
 rw [List.all_map]
 induction l with
 |nil=>rfl
 |cons x r ih=>
  simp only [Jp,Function.comp]
  rw [h x (by simp),ih λy hy=>h y (by simp [hy])]
theorem BF {o:Oper} (hl:sd d v b) (hn:Ir d t) (hs:Wu Γ (Jl d v b t) o=true) (hu:(jG o).all (j9 d)=true) (eu:o.dst≠some d) {s':St} (he:Fc T Γ ops (Jl d v b t) o=some s'):
  ∃t',Fc T Γ ops t o=some t'/\s'=Jl d v b t'/\Ir d t'/\Wu Γ t o=true:=by
 obtain ⟨dst,op,ty,pos,after,guard⟩:=o
 unfold Wu at hs
 cases guard with
 |some g=>cases hs
 |none=>
  simp only at hs
  split at hs
  ·rename_i x
   have hx:=Zt (v:=v) (b:=b) (t:=t) hu x (by simp [jG])
   obtain ⟨t',h1,h2,h3⟩:=MV hn hx eu he
   exact ⟨t',h1,h2,h3,rfl⟩
  ·rename_i t0 x
   have hx:=Zt (v:=v) (b:=b) (t:=t) hu x (by simp [jG])
   rw [hx] at hs
   split at hs
   ·rename_i l i hp
    obtain ⟨t',h1,h2,h3⟩:=MR hn hx eu hp he
    exact ⟨t',h1,h2,h3,by simp only [Wu,hp]⟩
   ·cases hs
  ·rename_i f args tys
   rw [Ag] at hs
   obtain ⟨kG,vJ⟩:=hs
   split at kG
   ·rename_i sp Ot
    have LQ:=Zt (v:=v) (b:=b) (t:=t) (l:=args.toList) hu
    rw [BE LQ] at vJ
    obtain ⟨t',h1,h2,h3⟩:=KU Ot hn (TF hu) eu vJ he
    refine ⟨t',h1,h2,h3,?_⟩
    simp only [Wu,Ot,Pd]
    rw [List.all_map] at vJ
    exact vJ
   ·cases kG
  ·rename_i t0 m k x
   have hm:=Zt (v:=v) (b:=b) (t:=t) hu m (by simp [jG])
   have hk:=Zt (v:=v) (b:=b) (t:=t) hu k (by simp [jG])
   have hx:=Zt (v:=v) (b:=b) (t:=t) hu x (by simp [jG])
   rw [hm,hk,hx] at hs
   have hs0:=hs
   rw [Ag] at hs
   obtain ⟨t',h1,h2,h3⟩:=zB hn hm hk hx eu hs.2 he
   exact ⟨t',h1,h2,h3,hs0⟩
  ·rename_i t0 len parts
   rw [Ag] at hs
   obtain ⟨kG,vJ⟩:=hs
   cases dst with
   |none=>cases vJ
   |some e=>
    simp only at vJ
    have hed:e≠d:= λh=>eu (by rw [h])
    have gY:(parts.toList.map (λp=>p.2)).all (j9 d)=true:=hu
    have LQ:=Zt (v:=v) (b:=b) (t:=t) gY
    have hx: ∀p∈parts.toList,(Jl d v b t).ev p.2=t.ev p.2:= λp hp=>LQ p.2 (Bg.2 ⟨p,hp,rfl⟩)
    have hp:(parts.toList.all λp=>Wq (t.ev p.2))=true:=Bf.2 λp hp=>by rw [<-hx p hp];exact Bf.1 kG p hp
    have Iz:=tY vJ
    obtain ⟨t',h1,h2,h3⟩:=EC hl hn hx hed hp Iz he
    refine ⟨t',h1,h2,h3,?_⟩
    simp only [Wu,hp,Pd]
    exact UT (Iz.back hed hn)
  ·cases hs
def yM:List (Nat×AV×OB)->St->St->Prop
 | [],s,t=>s=t
 |q::Q,s,t=>Ir q.1 t/\yM Q s (Jl q.1 q.2.1 q.2.2 t)
theorem yd {o:Oper} : ∀(Q:List (Nat×AV×OB)) (s t s':St),yM Q s t->(∀q∈Q,sd q.1 q.2.1 q.2.2/\(jG o).all (j9 q.1)=true/\o.dst≠some q.1)->Wu Γ s o=true->Fc T Γ ops s o=some s'->
  ∃t',Fc T Γ ops t o=some t'/\yM Q s' t'/\Wu Γ t o=true
 | [],s,t,s',h,_,hs,he=>by
  have h:s=t:=h
  subst h
  exact ⟨s',he,rfl,hs⟩
 |q::Q,s,t,s',⟨h1,h2⟩,hq,hs,he=>by
  obtain ⟨u',e1,e2,e3⟩:=yd Q s _ s' h2 (λp hp=>hq p (Aq _ hp)) hs he
  obtain ⟨l1,l2,l3⟩:=hq q (by simp)
  obtain ⟨t',f1,f2,f3,f4⟩:=BF l1 h1 e3 l2 l3 e1
  exact ⟨t',f1,⟨f3,by rw [<-f2];exact e2⟩,f4⟩
theorem ye {q:Nat×AV×OB} : ∀(Q1:List (Nat×AV×OB)) {Q2:List (Nat×AV×OB)} {s t:St},yM (Q1++q::Q2) s t->(∀p∈Q1++q::Q2,sd p.1 p.2.1 p.2.2)->(∀p∈Q1,p.1≠q.1)->
  Ir q.1 t/\yM (Q1++Q2) s (Jl q.1 q.2.1 q.2.2 t)
 | [],Q2,s,t,h,_,_=>h
 |p::Q1,Q2,s,t,⟨h1,h2⟩,hL,Iz=>by
  have hpq:=Iz p (by simp)
  have hLp:=hL p (by simp)
  have hLq:=hL q (by simp)
  obtain ⟨g1,g2⟩:=ye Q1 h2 (λr hr=>hL r (Aq _ hr)) λr hr=>Iz r (Aq _ hr)
  refine ⟨g1.back (Gg hpq) h1,h1.plus hpq (λh=>hpq (hLq.v1 _ h)) (by rw [hLq.b1];simp),?_⟩
  show yM (Q1++Q2) s (Jl p.1 p.2.1 p.2.2 (Jl q.1 q.2.1 q.2.2 t))
  rw [xh (Gg hpq)]
  exact g2
def mF (ops:Array Oper):Nat->Nat->Nat->Bool
 |0,_,_=>false
 |f+1,i,a=>Region.waitsFor .any ops i a||(List.range ops.size).any λk=>Region.waitsFor .any ops i k&&mF ops f k a
theorem lC {Ah:Array Bool} (hc:Uf ops Ah) {a:Nat} : ∀(f i:Nat),(∀x,Region.waitsFor .any ops i x=true->Ah.getD x false=true)->mF ops f i a=true->Ah.getD a false=true
 |0,_,_,h=>by cases h
 |f+1,i,hi,h=>by
  simp only [mF,Kn,Ey,Ag] at h
  rcases h with h|⟨k,_,h1,h2⟩
  ·exact hi a h
  ·exact lC hc f k (λx hx=>hc k x (hi k h1) hx) h2
def NB (P:List (Nat×Nat×AV×OB)) (Γ:Env) (ops:Array Oper) (st:St) (o:Oper) (i:Nat):Bool:=
 (P.all λa=>mF ops 5 i a.1)||(Wu Γ st o&&P.all λa=>mF ops 5 i a.1||((jG o).all (j9 a.2.1)&&(match o.dst with
  |some e=>!Nat.beq e a.2.1
  |none=>true)))
def Ai0 (T:Tab) (Γ:Env) (ops:Array Oper) (P:List (Nat×Nat×AV×OB)) (K:St->Prop):Nat->Array Bool->St->Prop
 |0,Ah,st=>Region.ready .any ops Ah= []/\K st
 |f+1,Ah,st=>Region.ready .any ops Ah≠ []/\ ∀i∈Region.ready .any ops Ah,∃o st',ops[i]?=some o/\NB P Γ ops st o i=true/\Fc T Γ ops st o=some st'/\Ai0 T Γ ops P K f (Ah.setIfInBounds i true) st'
structure XZ (lc la:Array Bool) (Q:List Nat):Prop where
 size:la.size=lc.size
 off: ∀k∈Q,k<la.size/\la.getD k false=false/\lc.getD k false=true
 same: ∀k,k∉Q->la.getD k false=lc.getD k false
theorem XZ.ready {lc la:Array Bool} {Q:List Nat} (h:XZ lc la Q) {i:Nat} (hi:i∈Region.ready .any ops la) (hn:i∉Q):i∈Region.ready .any ops lc:=by
 obtain ⟨h1,o,ho,Ky⟩:=mem_ready.1 hi
 have Jj:i<la.size:=by
  rcases Nat.lt_or_ge i la.size with h'|h'
  ·exact h'
  ·simp [Array.getElem?_eq_none h'] at h1
 have h2:=getD_both h1
 rw [h.same i hn] at h2
 refine mem_ready.2 ⟨getD_in (by rw [<-h.size];exact Jj) h2,o,ho,λe he hb=>?_⟩
 have h3:=Ky e he hb
 by_cases hq:e.on∈Q
 ·exact (h.off _ hq).2.2
 ·rw [<-h.same _ hq];exact h3
theorem XZ.nil {lc la:Array Bool} (h:XZ lc la []):la=lc:=by
 refine Array.ext h.size λk h1 h2=>?_
 have:=h.same k (by simp)
 simpa [h1,h2] using this
theorem XZ.one {lc la:Array Bool} {Q Q':List Nat} {i:Nat} (h:XZ lc la Q) (hi:i∈Q) (hs: ∀k,k∈Q'↔k∈Q/\k≠i):XZ lc (la.setIfInBounds i true) Q':=by
 refine ⟨by simp [h.size],λk hk=>?_,λk hk=>?_⟩
 ·obtain ⟨h1,h2⟩:=(hs k).1 hk
  obtain ⟨g1,g2,g3⟩:=h.off k h1
  exact ⟨by simpa using g1,by rw [getD_set_ne false (Gg h2)];exact g2,g3⟩
 ·by_cases e:i=k
  ·subst e
   obtain ⟨g1,g2,g3⟩:=h.off i hi
   rw [g3]
   simp [g1]
  ·rw [getD_set_ne false e]
   exact h.same k λhq=>hk ((hs k).2 ⟨hq,Gg e⟩)
theorem XZ.both {lc la:Array Bool} {Q:List Nat} {i:Nat} (h:XZ lc la Q) (hi:i∉Q):XZ (lc.setIfInBounds i true) (la.setIfInBounds i true) Q:=by
 refine ⟨by simp [h.size],λk hk=>?_,λk hk=>?_⟩
 ·obtain ⟨g1,g2,g3⟩:=h.off k hk
  have Iz:i≠k:= λe=>hi (by rw [e];exact hk)
  exact ⟨by simpa using g1,by rw [getD_set_ne false Iz];exact g2,by rw [getD_set_ne false Iz];exact g3⟩
 ·by_cases e:i=k
  ·subst e
   have hs:=h.same i hi
   have hz:=h.size
   by_cases hl:i<la.size
   ·simp [hl,hz▸hl]
   ·have Jv: ¬i<lc.size:=by omega
    simp [hl,Jv]
  ·rw [getD_set_ne false e,getD_set_ne false e];exact h.same k hk
theorem MZ {dst:Option Tmp} {d:Nat} (h:(match dst with
  |some e=>!Nat.beq e d
  |none=>true)=true):dst≠some d:= λe=>by
 subst e
 simp at h
theorem TD {P:List (Nat×Nat×AV×OB)} {K:St->Prop} (hP: ∀a∈P,∃o,ops[a.1]?=some o/\fa T o=some a.2):
  ∀(n f:Nat) (Q:List (Nat×Nat×AV×OB)) (lc la:Array Bool) (s t:St),n=f+Q.length->Ai0 T Γ ops P K f lc s->yM (Q.map (·.2)) s t->XZ lc la (Q.map (·.1))->(∀a∈Q,a∈P)->
   (Q.Pairwise λa c=>a.2.1≠c.2.1/\a.1≠c.1)->Uf ops la->(∀a∈Q,∀x,Region.waitsFor .any ops a.1 x=true->la.getD x false=true)->anyS T Γ ops K n la t:=by
 intro n
 induction n with
 |zero=>
  intro f Q lc la s t hn hC hp hb hQ hpw Pc hw
  have hf:f=0:=by omega
  have hq:Q= []:=Ck (by omega)
  subst hf hq
  have hp:s=t:=hp
  subst hp
  rw [hb.nil]
  exact hC
 |succ n ih=>
  intro f Q lc la s t hn hC hp hb hQ hpw Pc hw
  refine ⟨?_,λi hi=>?_⟩
  ·cases Q with
   |nil=>
    rw [hb.nil]
    cases f with
    |zero=>simp at hn
    |succ f=>exact hC.1
   |cons a Q=>
    obtain ⟨o,ho,_⟩:=hP a (hQ a (by simp))
    obtain ⟨g1,g2,_⟩:=hb.off a.1 (by simp)
    have:a.1∈Region.ready .any ops la:=mem_ready.2 ⟨getD_in g1 g2,o,ho,λe he hbd=>hw a (by simp) e.on (by
     unfold Region.waitsFor
     rw [ho]
     exact Array.any_eq_true'.2 ⟨e,he,by simp [hbd]⟩)⟩
    intro e
    rw [e] at this
    cases this
  ·by_cases hiQ:i∈Q.map (·.1)
   ·obtain ⟨a,ha,rfl⟩:=Bg.1 hiQ
    obtain ⟨Q1,Q2,rfl⟩:=List.append_of_mem ha
    obtain ⟨o,ho,hal⟩:=hP a (hQ a ha)
    obtain ⟨_,_,Uh⟩:=fb (Γ:=Γ) (ops:=ops) hal
    have Aa5:=List.pairwise_append.1 hpw
    have An9:=List.pairwise_cons.1 Aa5.2.1
    rw [Ko,Bu] at hp
    have hL: ∀p∈Q1.map (·.2)++a.2::Q2.map (·.2),sd p.1 p.2.1 p.2.2:= λp zv=>by
     have:p∈(Q1++a::Q2).map (·.2):=by rw [Ko,Bu];exact zv
     obtain ⟨c,hc,rfl⟩:=Bg.1 this
     obtain ⟨o',_,Arz⟩:=hP c (hQ c hc)
     exact (fb (Γ:=Γ) (ops:=ops) Arz).2.1
    obtain ⟨p1,p2⟩:=ye _ hp hL λp zv=>by
     obtain ⟨c,hc,rfl⟩:=Bg.1 zv
     exact (Aa5.2.2 c hc a (by simp)).1
    refine ⟨o,_,ho,Uh t p1,ih f (Q1++Q2) lc _ s _ ?_ hC (by rw [Ko];exact p2) (hb.one hiQ λk=>?_) (λc hc=>hQ c ?_) ?_ (Pc.set hi) λc hc x hx=>getD_set_true (hw c ?_ x hx)⟩
    ·simp only [Au,Aw] at hn⊢;omega
    ·simp only [Ko,Bu,Az,Be]
     constructor
     ·intro h
      rcases h with h|h
      ·obtain ⟨c,hc,rfl⟩:=Bg.1 h
       exact ⟨.inl h,(Aa5.2.2 c hc a (by simp)).2⟩
      ·obtain ⟨c,hc,rfl⟩:=Bg.1 h
       exact ⟨.inr (.inr h),Gg (An9.1 c hc).2⟩
     ·rintro ⟨h|h|h,Iz⟩
      ·exact .inl h
      ·exact absurd h Iz
      ·exact .inr h
    ·rcases Az.1 hc with hc|hc
     ·exact Bj _ hc
     ·exact Ci _ (Aq _ hc)
    ·exact List.pairwise_append.2 ⟨Aa5.1,An9.2,λc hc e he=>Aa5.2.2 c hc e (Aq _ he)⟩
    ·rcases Az.1 hc with hc|hc
     ·exact Bj _ hc
     ·exact Ci _ (Aq _ hc)
   ·have hic:=hb.ready hi hiQ
    cases f with
    |zero=>
     rw [hC.1] at hic
     cases hic
    |succ f=>
     obtain ⟨o,s',ho,l4,he,gC⟩:=hC.2 i hic
     have Aej: ∀a∈Q,mF ops 5 i a.1=false:= λa ha=>by
      cases hwt:mF ops 5 i a.1 with
      |false=>rfl
      |true=>
       have h1:=lC Pc _ i (λx hx=>cW hi hx) hwt
       rw [(hb.off a.1 (Bg.2 ⟨a,ha,rfl⟩)).2.1] at h1
       cases h1
     have key: ∃t',Fc T Γ ops t o=some t'/\yM (Q.map (·.2)) s' t':=by
      unfold NB at l4
      rw [Kn,Ag] at l4
      rcases l4 with l4|⟨h1,h2⟩
      ·cases Q with
       |nil=>
        have hp:s=t:=hp
        subst hp
        exact ⟨s',he,rfl⟩
       |cons a Q=>
        have:=Bf.1 l4 a (hQ a (by simp))
        rw [Aej a (by simp)] at this
        cases this
      ·obtain ⟨t',g1,g2,_⟩:=yd (T:=T) (ops:=ops) _ s t s' hp (λq hq=>by
        obtain ⟨a,ha,rfl⟩:=Bg.1 hq
        obtain ⟨o',_,hal⟩:=hP a (hQ a ha)
        have h3:=Bf.1 h2 a (hQ a ha)
        rw [Aej a ha,bz,Ag] at h3
        exact ⟨(fb (Γ:=Γ) (ops:=ops) hal).2.1,h3.1,MZ h3.2⟩) h1 he
       exact ⟨t',g1,g2⟩
     obtain ⟨t',g1,g2⟩:=key
     exact ⟨o,t',ho,g1,ih f Q _ _ s' t' (by omega) gC g2 (hb.both hiQ) hQ hpw (Pc.set hi) λc hc x hx=>getD_set_true (hw c hc x hx)⟩
def Zr (T:Tab) (ops:Array Oper) (Ah:Array Bool):List (Nat×Nat×AV×OB):=(Region.ready .any ops Ah).filterMap λi=>((ops[i]?).bind (fa T)).map λr=>(i,r)
theorem yS {Ah:Array Bool} {a:Nat×Nat×AV×OB} (h:a∈Zr T ops Ah):a.1∈Region.ready .any ops Ah/\ ∃o,ops[a.1]?=some o/\fa T o=some a.2:=by
 unfold Zr at h
 obtain ⟨i,hi,he⟩:=List.mem_filterMap.1 h
 cases ho:ops[i]? with
 |none=>rw [ho] at he;cases he
 |some o=>
  rw [ho] at he
  simp only [Fp,Option.map_eq_some_iff] at he
  obtain ⟨r,h1,rfl⟩:=he
  exact ⟨hi,o,ho,h1⟩
theorem Ady {Ah:Array Bool} {Q:List Nat} (h: ∀i∈Q,i∈Region.ready .any ops Ah):XZ (Em Q Ah) Ah Q:=by
 have hr: ∀i∈Q,i<Ah.size/\Ah.getD i false=false:= λi hi=>by
  have h1:=(mem_ready.1 (h i hi)).1
  refine ⟨?_,getD_both h1⟩
  rcases Nat.lt_or_ge i Ah.size with h'|h'
  ·exact h'
  ·simp [Array.getElem?_eq_none h'] at h1
 exact ⟨(Wm Q Ah).symm,λk hk=>⟨(hr k hk).1,(hr k hk).2,fz Q Ah k hk (hr k hk).1⟩,λk hk=>(dx Q Ah k hk).symm⟩
theorem HU: ∀(Q:List (Nat×Nat×AV×OB)) (t s:St),(∀a∈Q,∃o,ops[a.1]?=some o/\fa T o=some a.2)->(∀a∈Q,Ir a.2.1 t)->(Q.Pairwise λa c=>a.2.1≠c.2.1)->Mx T Γ ops (Q.map (·.1)) t=some s->yM (Q.map (·.2)) s t
 | [],t,s,_,_,_,h=>by
  have h:some t=some s:=h
  exact (Bd h).symm
 |a::Q,t,s,hQ,hn,hp,h=>by
  obtain ⟨o,ho,hal⟩:=hQ a (by simp)
  obtain ⟨_,hL,Uh⟩:=fb (Γ:=Γ) (ops:=ops) hal
  obtain ⟨tt,RT⟩:=List.pairwise_cons.1 hp
  simp only [Bu,Mx,ho] at h
  rw [Uh t (hn a (by simp))] at h
  refine ⟨hn a (by simp),HU Q _ s (λc hc=>hQ c (Aq _ hc)) (λc hc=>?_) RT h⟩
  exact (hn c (Aq _ hc)).plus (Gg (tt c hc)) (λh=>tt c hc (hL.v1 _ h).symm) (by rw [hL.b1];simp)
end
end Go.Proofs.YtkkdpknjohcekaaGreat
