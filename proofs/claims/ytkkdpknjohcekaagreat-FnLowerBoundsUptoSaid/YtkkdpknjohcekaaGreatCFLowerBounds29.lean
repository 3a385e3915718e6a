/-
  Part 30 of the proof that the statement FnLowerBounds holds.
-/
import Derived.Test.YtkkdpknjohcekaaGreatCFLowerBounds28
namespace Go.Proofs.YtkkdpknjohcekaaGreat
open Go.RowKit
def Jx (d:Nat) (v:AV) (b:OB) (st:St):St:= {tmps:=Ts st.tmps d v,heap:=Pd st.heap d b}
def pj (d:Nat) (st:St):Bool:=(st.get d).refs.isEmpty&&((st.tmps.all λv=>!v.refs.contains d)&&st.heap.all λp=>!Nat.beq p.1 d&&!p.2.refs.contains d)
structure Jb (d:Nat) (st:St):Prop where
 own:(st.get d).refs= []
 tmps: ∀v∈st.tmps,d∉v.refs
 heap: ∀p∈st.heap,p.1≠d/\d∉p.2.refs
theorem tJ {d:Nat} {st:St} (h:pj d st=true):Jb d st:=by
 unfold pj at h
 rw [Af,Af,Bb,Bb] at h
 obtain ⟨h0,h⟩:=h
 refine ⟨List.isEmpty_iff.1 h0,λv hv=>?_,λp hp=>?_⟩
 ·have:=h.1 v hv
  intro hd
  rw [Ke.2 hd] at this
  cases this
 ·have:=h.2 p hp
  rw [Af] at this
  refine ⟨λe=>?_,λhd=>?_⟩
  ·have h1:=this.1
   rw [e,Nat.beq_refl] at h1
   cases h1
  ·have h1:=this.2
   rw [Ke.2 hd] at h1
   cases h1
theorem SJ {d:Nat} {st:St} (h:Jb d st):pj d st=true:=by
 unfold pj
 rw [Af,Af,Bb,Bb]
 refine ⟨by rw [h.own];rfl,λv hv=>?_,λp hp=>?_⟩
 ·rw [Es,<-Hc,Ke];exact h.tmps v hv
 ·rw [Af]
  refine ⟨?_,?_⟩
  ·rw [Es,<-Hc]
   exact λe=>(h.heap p hp).1 (Kg e)
  ·rw [Es,<-Hc,Ke];exact (h.heap p hp).2
structure sd (d:Nat) (v:AV) (b:OB):Prop where
 v1: ∀l,l∈v.refs->l=d
 b1:b.refs= []
 v2: ∀l,l≠d->v.map (Cl l)=v
 b2: ∀l,b.map (Cl l)=b
theorem eh {α:Type} : ∀(xs:List α) (d t:Nat) (v x:α),d≠t->(Ts xs d v).getD t x=xs.getD t x
 | [],_,_,_,_,_=>rfl
 |y::r,0,0,_,_,h=>absurd rfl h
 |y::r,0,t+1,_,_,_=>by simp [Ts]
 |y::r,d+1,0,_,_,_=>by simp [Ts]
 |y::r,d+1,t+1,v,x,h=>by simpa [Ts] using eh r d t v x (by omega)
theorem pI {α:Type} : ∀(xs:List α) (d e:Nat) (v w:α),d≠e->Ts (Ts xs d v) e w=Ts (Ts xs e w) d v
 | [],_,_,_,_,_=>rfl
 |y::r,0,0,_,_,h=>absurd rfl h
 |y::r,0,e+1,_,_,_=>rfl
 |y::r,d+1,0,_,_,_=>rfl
 |y::r,d+1,e+1,v,w,h=>by simp only [Ts];rw [pI r d e v w (by omega)]
theorem xc: ∀(H:List (Nat×OB)) (d l:Nat) (b:OB),d≠l->At (Pd H d b) l=At H l
 | [],d,l,b,h=>by simp [Pd,At,h]
 |(k,c)::r,d,l,b,h=>by
  simp only [Pd]
  split
  ·simp only [At];rw [Aj h]
  ·simp only [At]
   split
   ·rfl
   ·exact xc r d l b h
theorem xf: ∀(H:List (Nat×OB)) (d e:Nat) (b c:OB),d≠e->Pd (Pd H d b) e c=Pd (Pd H e c) d b
 | [],d,e,b,c,h=>by
  simp only [Pd]
  by_cases h1:e<d
  ·rw [Ab h1,Aj (by omega)]
  ·rw [Aj h1,Ab (by omega)]
 |(k,a)::r,d,e,b,c,h=>by
  simp only [Pd]
  by_cases h1:d<k<;>by_cases h2:e<k
  ·rw [Ab h1,Ab h2]
   simp only [Pd]
   by_cases h3:e<d
   ·rw [Ab h3,Aj (by omega),Ab h1]
   ·rw [Aj h3,Ab h2,Ab (by omega)]
  ·rw [Ab h1,Aj h2]
   simp only [Pd]
   rw [Aj (by omega),Aj h2,Ab h1]
  ·rw [Aj h1,Ab h2]
   simp only [Pd]
   rw [Ab h2,Aj (by omega),Aj h1]
  ·rw [Aj h1,Aj h2]
   simp only [Pd]
   rw [Aj h1,Aj h2,xf r d e b c h]
theorem xV: ∀(H:List (Nat×OB)) (d l:Nat) (b c:OB),d≠l->aF (Pd H d b) l c=Pd (aF H l c) d b
 | [],d,l,b,c,h=>by simp [Pd,aF,h]
 |(k,a)::r,d,l,b,c,h=>by
  simp only [Pd,aF]
  by_cases h1:d<k<;>by_cases h2:k=l
  ·rw [Ab h1,Ab h2]
   simp only [aF,Pd]
   rw [Aj h,Ab h2,Ab h1]
  ·rw [Ab h1,Aj h2]
   simp only [aF,Pd]
   rw [Aj h,Aj h2,Ab h1]
  ·rw [Aj h1,Ab h2]
   simp only [aF,Pd]
   rw [Ab h2,Aj h1]
  ·rw [Aj h1,Aj h2]
   simp only [aF,Pd]
   rw [Aj h2,Aj h1,xV r d l b c h]
theorem qa {l:Nat} : ∀ {c:AC},l∉c.refs->Cl l c=c:=by
 intro c h
 cases c<;>simp only [Cl]<;>simp only [AC.refs,Ad] at h
 case clo f Eh=>rw [Aj (by simpa using h)]
 all_goals (first|rfl|rw [Aj (Hm h)])
theorem bb {l:Nat} : ∀ {cs:List AC},l∉cs.flatMap AC.refs->cs.map (Cl l)=cs
 | [],_=>rfl
 |c::r,h=>by
  rw [cF,Az] at h
  rw [Bz,qa (λhh=>h (.inl hh)),bb (λhh=>h (.inr hh))]
theorem DA {l:Nat} : ∀ {v:AV},l∉v.refs->v.map (Cl l)=v
 | .at a,h=>by simp only [AV.map];rw [qa h]
 | .agg cs,h=>by simp only [AV.map];rw [bb h]
 | .bF _ _ _,_=>rfl
 | .Ng ps,h=>by
  simp only [AV.map]
  congr 1
  simp only [AV.refs] at h
  induction ps with
  |nil=>rfl
  |cons p r ih=>
   rw [cF,Az] at h
   rw [Bz,bb (λhh=>h (.inl hh)),ih (λhh=>h (.inr hh))]
theorem DB {l:Nat} : ∀ {b:OB},l∉b.refs->b.map (Cl l)=b
 | .arr _ _ _ _ _,_=>rfl
 | .Hi _ _ _,_=>rfl
 | .var _ vs,h=>by simp only [OB.map];rw [bb h]
 | .Bp _ _ _ _ _,_=>rfl
 | .Wm _ _,_=>rfl
theorem CO {l:Nat} : ∀ {H:List (Nat×OB)},(∀p∈H,p.1≠l)->aK H l=H
 | [],_=>rfl
 |(k,b)::r,h=>by
  simp only [aK]
  rw [Aj (h (k,b) (by simp)),CO λp hp=>h p (by simp [hp])]
theorem Jb.forget {l:Nat} {st:St} (h:Jb l st):st.forget l=st:=by
 have e1:st.tmps.map (λv=>v.map (Cl l))=st.tmps:=(Ev λv hv=>DA (h.tmps v hv)).trans (List.map_id _)
 have e2:st.heap.map (λp=>(p.1,p.2.map (Cl l)))=st.heap:=(Ev λp hp=>by rw [DB (h.heap p hp).2];rfl).trans (List.map_id _)
 unfold St.forget St.Ln
 simp only [e1,e2]
 rw [CO λp hp=>(h.heap p hp).1]
theorem Jb.new {l:Nat} {st:St} (h:Jb l st) (b:OB) (v:AV):(st.new l b).put (some l) v=Jx l v b st:=by
 unfold St.new
 rw [h.forget]
 rfl
theorem tD {α:Type} : ∀ {xs:List α} {d:Nat} {v x:α},x∈Ts xs d v->x∈xs\/x=v
 | [],_,_,_,h=>by cases h
 |y::r,0,v,x,h=>by
  rcases Bd.1 h with h|h
  ·exact .inr h
  ·exact .inl (An _ h)
 |y::r,d+1,v,x,h=>by
  rcases Bd.1 h with h|h
  ·exact .inl (by rw [h];simp)
  ·exact (tD h).imp (An _) id
theorem EP: ∀ {H:List (Nat×OB)} {d:Nat} {b:OB} {p:Nat×OB},p∈Pd H d b->p∈H\/p=(d,b)
 | [],d,b,p,h=> .inr (by simpa [Pd] using h)
 |(k,c)::r,d,b,p,h=>by
  simp only [Pd] at h
  split at h
  ·rcases Bd.1 h with h|h
   ·exact .inr h
   ·exact .inl h
  ·rcases Bd.1 h with h|h
   ·exact .inl (by rw [h];simp)
   ·exact (EP h).imp (An _) id
theorem Aby {d:Nat} {v:AV} {b:OB} {st:St} {x:Operand} (h:x≠ .tmp d):(Jx d v b st).ev x=st.ev x:=by
 cases x with
 |tmp t=>exact eh _ _ _ _ _ (λe=>h (by rw [e]))
 |_=>rfl
theorem OE {d l:Nat} {v:AV} {b:OB} {st:St} (h:d≠l):(Jx d v b st).at l=st.at l:=xc _ _ _ _ h
theorem VX {d e:Nat} {v u:AV} {b:OB} {st:St} (h:d≠e):(Jx d v b st).put (some e) u=Jx d v b (st.put (some e) u):=by
 unfold Jx St.put
 simp only
 rw [pI _ _ _ _ _ h]
theorem QU {d l:Nat} {v:AV} {b c:OB} {st:St} (h:d≠l):(Jx d v b st).Kr l c=Jx d v b (st.Kr l c):=by
 unfold Jx St.Kr
 simp only
 rw [xV _ _ _ _ _ h]
theorem wQ {d e:Nat} {v u:AV} {b c:OB} {st:St} (h:d≠e):Jx e u c (Jx d v b st)=Jx d v b (Jx e u c st):=by
 unfold Jx
 rw [pI _ _ _ _ _ h,xf _ _ _ _ _ h]
theorem Jb.put {d:Nat} {st:St} {e:Nat} {u:AV} (h:Jb d st) (hde:e≠d) (hu:d∉u.refs):Jb d (st.put (some e) u):=
 ⟨by show (List.getD (Ts st.tmps e u) d .undef).refs= [];rw [eh _ _ _ _ _ hde];exact h.own,λv hv=>(tD hv).elim (h.tmps v) λe=>by rw [e];exact hu,h.heap⟩
theorem Jb.plus {d e:Nat} {u:AV} {c:OB} {st:St} (h:Jb d st) (hde:d≠e) (hu:d∉u.refs) (hc:d∉c.refs):Jb d (Jx e u c st):=
 ⟨by show (List.getD (Ts st.tmps e u) d .undef).refs= [];rw [eh _ _ _ _ _ (Hm hde)];exact h.own,λv hv=>(tD hv).elim (h.tmps v) λe=>by rw [e];exact hu,λp hp=>(EP hp).elim (h.heap p) λe'=>by rw [e'];exact ⟨Hm hde,hc⟩⟩
theorem Jb.Ahy {d e:Nat} {u:AV} {c:OB} {st:St} (h:Jb d (Jx e u c st)): ∀p∈st.heap,p.1≠d/\d∉p.2.refs:= λp hp=>h.heap p (by
 show p∈Pd st.heap e c
 generalize st.heap=H at hp
 induction H with
 |nil=>cases hp
 |cons q r ih=>
  obtain ⟨k,a⟩:=q
  simp only [Pd]
  split
  ·exact An _ hp
  ·rcases Bd.1 hp with hp|hp
   ·rw [hp];simp
   ·exact An _ (ih hp))
theorem rG {st st':St} : ∀(τ:Ty) (cs:List AC),cs.all (·.settled)=true->Ff st' τ cs=Ff st τ cs:=by
 intro τ
 induction τ with
 |unit=>intro cs _;cases cs<;>rfl
 |pair a r ib hJ=>
  intro cs h
  simp only [Ff]
  rw [Bb] at h
  rw [ib _ (Bb.2 λc hc=>h c (Ij hc)),hJ _ (Bb.2 λc hc=>h c (dQ hc))]
 |_=>
  intro cs h
  rcases cs with _|⟨c,_|⟨c',cs⟩⟩
  ·rfl
  ·simp only [Jc,List.all_nil,Bool.and_true] at h
   simp only [Ff]
   exact bl h
  ·rfl
theorem gl {st st':St} {τ:Ty} {v:AV} (h:v.settled=true):Gc st' τ v=Gc st τ v:=by
 cases v with
 | «at»a=>
  have ha:a.settled=true:=h
  cases a<;>simp only [AC.settled,Cz] at ha
  all_goals
   simp only [Gc]
   rw [Rk rfl,Rk rfl]
   rw [bl (st:=st) (st':=st') rfl]
 |agg cs=>simp only [Gc];rw [rG _ _ h]
 |bF _ _ _=>rfl
 |Ng _=>rfl
theorem jH {st st':St} : ∀(τ:Ty) (vs:List AV),vs.all (·.settled)=true->Dz st' τ vs=Dz st τ vs
 | .pair a r,v::vs,h=>by
  rw [Jc,Af] at h
  simp only [Dz]
  rw [gl (st:=st) (st':=st') h.1,jH r vs h.2]
 | .pair _ _,[],_=>rfl
 | .unit,[],_=>rfl
 | .unit,_::_,_=>rfl
 | .int _,vs,_=>by cases vs<;>rfl
 | .bool,vs,_=>by cases vs<;>rfl
 | .str,vs,_=>by cases vs<;>rfl
 | .slice _,vs,_=>by cases vs<;>rfl
 | .oslice _,vs,_=>by cases vs<;>rfl
 | .ptr _,vs,_=>by cases vs<;>rfl
 | .optr _,vs,_=>by cases vs<;>rfl
 | .smap _,vs,_=>by cases vs<;>rfl
 | .clo _ _,vs,_=>by cases vs<;>rfl
def Xh:AV->Bool
 | .at (.data _ _ _)=>true
 |_=>false
def jF (o:Oper):List Operand:=match o.op with
 | .move x=> [x]
 | .load _ x=> [x]
 | .call {callee:= .value (.func _),args, .. } =>args.toList
 | .insert _ m k x=> [m,k,x]
 | .buildSlice _ _ parts=>parts.toList.map (·.2)
 |_=> []
def ja (d:Nat):Operand->Bool
 | .tmp t=>!Nat.beq t d
 |_=>true
theorem SL {d:Nat} {x:Operand} (h:ja d x=true):x≠ .tmp d:= λe=>by
 subst e
 simp [ja] at h
def Xm (Γ:Env) (st:St) (o:Oper):Bool:=match o.guard with
 |some _=>false
 |none=>match o.op with
  | .move _=>true
  | .load _ x=>(match st.ev x with
   | .at (.Hv _ _)=>true
   |_=>false)
  | .call {callee:= .value (.func f),args, .. } =>(match Γ f with
   |some (.q _)=>true
   |_=>false)&&args.toList.all λx=>(st.ev x).settled
  | .insert _ m k x=>(match st.ev m with
   | .at (.Ld _)=>true
   |_=>false)&&Xh (st.ev k)&&(st.ev x).settled
  | .buildSlice _ _ parts=>(parts.toList.all λp=>Xh (st.ev p.2))&&(match o.dst with
   |some e=>pj e st
   |none=>false)
  |_=>false
theorem Jb.ev {d:Nat} {st:St} (h:Jb d st) (x:Operand):d∉(st.ev x).refs:=by
 cases x with
 |tmp t=>
  simp only [St.ev,St.get]
  rw [Ah]
  by_cases hl:t<st.tmps.length
  ·rw [Ac hl];exact h.tmps _ (Ak hl)
  ·rw [Eb (Nat.le_of_not_lt hl)];simp [AV.refs,AC.refs]
 |const c=>
  simp only [St.ev]
  unfold mV
  split<;>simp [AV.refs,AC.refs]
 |func f=>simp [St.ev,AV.refs,AC.refs]
 |_=>simp [St.ev,AV.refs,AC.refs]
theorem DK: ∀ {H:List (Nat×OB)} {l:Nat} {b:OB},At H l=some b->(l,b)∈H
 |(k,c)::r,l,b,h=>by
  simp only [At] at h
  split at h
  ·rename_i e;subst e;cases h;simp
  ·exact An _ (DK h)
section
variable {T:Tab} {Γ:Env} {ops:Array Oper} {d:Nat} {v:AV} {b:OB} {t:St}
theorem xJ {e:Option Tmp} (h:e≠some d) (hn:Jb d t) {y:AV} (hy:d∉y.refs):(Jx d v b t).put e y=Jx d v b (t.put e y)/\Jb d (t.put e y):=by
 cases e with
 |none=>exact ⟨rfl,hn⟩
 |some k=>exact ⟨VX (λe=>h (by rw [e])),hn.put (λe=>h (by rw [e])) hy⟩
theorem ji {o:Oper} (hg:o.guard=none) (eo:o.dst≠some d) (hn:Jb d t) {q:Option AV} (h1:evalOp T Γ (Jx d v b t) o=q.map λy=>(y,Jx d v b t)) (h2:evalOp T Γ t o=q.map λy=>(y,t)) (hq: ∀y,q=some y->d∉y.refs) {s':St}
  (he:Fb T Γ ops (Jx d v b t) o=some s'): ∃t',Fb T Γ ops t o=some t'/\s'=Jx d v b t'/\Jb d t':=by
 unfold Fb at he⊢
 rw [hg] at he⊢
 simp only at he⊢
 rw [h1] at he
 cases q with
 |none=>cases he
 |some y=>
  obtain ⟨p1,p2⟩:=xJ (v:=v) (b:=b) eo hn (hq y rfl)
  refine ⟨_,by rw [h2];rfl,?_,p2⟩
  simp only [Al,Aa] at he
  rw [<-he,p1]
theorem a8 {l:List Operand} (hu:l.all (ja d)=true): ∀x∈l,(Jx d v b t).ev x=t.ev x:= λx hx=>Aby (SL (Bb.1 hu x hx))
theorem KT {dst:Option Tmp} {x:Operand} {ty:TypeId} {pos:String} {after:Array Edge} (hn:Jb d t) (hx:(Jx d v b t).ev x=t.ev x) (eo:dst≠some d) {s':St}
  (he:Fb T Γ ops (Jx d v b t) {dst:=dst,op:= .move x,type:=ty,pos:=pos,after:=after,guard:=none} =some s'):
  ∃t',Fb T Γ ops t {dst:=dst,op:= .move x,type:=ty,pos:=pos,after:=after,guard:=none} =some t'/\s'=Jx d v b t'/\Jb d t':=
 ji rfl eo hn (q:=some (t.ev x)) (by simp only [evalOp,Fh,hx]) (by simp only [evalOp,Fh]) (λy hy=>by cases hy;exact hn.ev x) he
def loadVar (T:Tab) (o:Option OB) (t0:TypeId) (i:Nat):Option AV:=match T.ty t0 with
 |some τ=>(match o with
  |some (.var _ vs)=>if τ.Ao then (if i+τ.size<=vs.length then some (.agg ((vs.drop i).take τ.size)) else none) else vs[i]?.map .at
  |_=>none)
 |none=>none
theorem kQ {st:St} {t0:TypeId} {l i:Nat} :Re T st t0 (.at (.Hv l i))=loadVar T (st.at l) t0 i:=by
 unfold Re loadVar
 cases T.ty t0<;>rfl
theorem KO {dst:Option Tmp} {t0:TypeId} {x:Operand} {ty:TypeId} {pos:String} {after:Array Edge} (hn:Jb d t) (hx:(Jx d v b t).ev x=t.ev x) (eo:dst≠some d) {l i:Nat} (hp:t.ev x= .at (.Hv l i)) {s':St}
  (he:Fb T Γ ops (Jx d v b t) {dst:=dst,op:= .load t0 x,type:=ty,pos:=pos,after:=after,guard:=none} =some s'):
  ∃t',Fb T Γ ops t {dst:=dst,op:= .load t0 x,type:=ty,pos:=pos,after:=after,guard:=none} =some t'/\s'=Jx d v b t'/\Jb d t':=by
 have hld:d≠l:= λe=>by
  have:=hn.ev x
  rw [hp,e] at this
  exact this (by simp [AV.refs,AC.refs])
 refine ji rfl eo hn (q:=loadVar T (t.at l) t0 i) ?_ ?_ (λy hy=>?_) he
 ·simp only [evalOp,Fh,hx,hp]
  rw [kQ,OE hld]
 ·simp only [evalOp,Fh,hp]
  rw [kQ]
 ·unfold loadVar at hy
  split at hy
  ·split at hy
   ·rename_i vs hb
    have hr:d∉vs.flatMap AC.refs:=(hn.heap _ (DK hb)).2
    have kF: ∀c∈vs,d∉c.refs:= λc hc hd=>hr (He.2 ⟨c,hc,hd⟩)
    split at hy
    ·split at hy
     ·cases hy
      intro hd
      obtain ⟨c,hc,hd⟩:=He.1 hd
      exact kF c (dQ (Ij hc)) hd
     ·cases hy
    ·cases hv:vs[i]? with
     |none=>rw [hv] at hy;cases hy
     |some c=>
      rw [hv] at hy
      cases hy
      exact kF c (Cj hv)
   ·cases hy
  ·cases hy
theorem QX {l:List Operand} (hu:l.all (ja d)=true):l.map (Jx d v b t).ev=l.map t.ev:=Ev λx hx=>a8 hu x hx
theorem IX {dst:Option Tmp} {f:FuncId} {args:Array Operand} {tys:Array TypeId} {ty:TypeId} {pos:String} {after:Array Edge} {sp:Spec} (Pu:Γ f=some (.q sp)) (hn:Jb d t) (hx:args.toList.map (Jx d v b t).ev=args.toList.map t.ev) (eo:dst≠some d)
  (hs:(args.toList.map t.ev).all (·.settled)=true) {s':St} (he:Fb T Γ ops (Jx d v b t) {dst:=dst,op:= .call {callee:= .value (.func f),args:=args,argTypes:=tys},type:=ty,pos:=pos,after:=after,guard:=none} =some s'):
  ∃t',Fb T Γ ops t {dst:=dst,op:= .call {callee:= .value (.func f),args:=args,argTypes:=tys},type:=ty,pos:=pos,after:=after,guard:=none} =some t'/\s'=Jx d v b t'/\Jb d t':=by
 have PE:fG sp (args.toList.map t.ev)=false:=by unfold fG;rw [hs];simp
 have JR: ∀st:St,Pr Γ st f (args.toList.map t.ev)=(match Dz t sp.arg (args.toList.map t.ev) with
   |none=>none
   |some (_,x)=>(sp.fn x).map λy=>if sp.Im then .bF (sp.fresh||sp.res.flat) sp.res y else .at (.data (sp.fresh||sp.res.flat) sp.res y)):= λst=>by
  unfold Pr
  rw [Pu]
  simp only
  rw [hs,jH (st:=t) _ _ hs]
  simp only [Bool.or_true,Qi]
  cases Dz t sp.arg (args.toList.map t.ev)<;>rfl
 refine ji rfl eo hn (q:=Pr Γ t f (args.toList.map t.ev)) ?_ ?_ (λy hy=>?_) he
 ·simp only [evalOp,Fh,Pu,hx,PE]
  rw [JR,JR t]
  simp
 ·simp only [evalOp,Fh,Pu,PE]
  simp
 ·rw [JR t] at hy
  split at hy
  ·cases hy
  ·rename_i x _
   cases hf:sp.fn x with
   |none=>rw [hf] at hy;cases hy
   |some z=>
    rw [hf] at hy
    simp only [Al,Aa] at hy
    rw [<-hy]
    split<;>simp [AV.refs,AC.refs]
def nT (T:Tab) (o:Option OB) (t0:TypeId) (s:ByteArray) (vw:(v:Ty)->Option (Bool×v.den)):Option OB:=match T.mapOf t0 with
 |some v=>(match o,vw v with
  |some (.Wm v' f),some (_,y)=>if h:v'=v/\v.flat=true/\v.Ao=false then some (.Wm v (au (h.1▸f:ByteArray->Option v.den) s y)) else none
  |_,_=>none)
 |none=>none
theorem kR {st:St} {t0:TypeId} {l:Nat} {fr:Bool} {s:ByteArray} {x:AV} :Jt T st t0 (.at (.Ld l)) (.at (.data fr .str s)) x=(nT T (st.at l) t0 s λv=>Gc st v x).map λc=>st.Kr l c:=by
 unfold Jt nT
 cases T.mapOf t0 with
 |none=>rfl
 |some v0=>
  simp only
  cases st.at l with
  |none=>rfl
  |some c=>
   cases c with
   |Wm v' f=>
    cases Gc st v0 x with
    |none=>rfl
    |some p=>
     simp only
     split<;>rfl
   |_=>rfl
theorem EM {o:Option OB} {t0:TypeId} {s:ByteArray} {vw:(v:Ty)->Option (Bool×v.den)} {c:OB} (h:nT T o t0 s vw=some c):c.refs= []:=by
 unfold nT at h
 split at h
 ·split at h
  ·split at h
   ·cases h;rfl
   ·cases h
  ·cases h
 ·cases h
theorem sI {st:St} {t0:TypeId} {m k x:AV} {s':St} (h:Jt T st t0 m k x=some s'): ∃l fr s,m= .at (.Ld l)/\k= .at (.data fr .str s):=by
 unfold Jt at h
 split at h
 ·exact ⟨_,_,_,rfl,rfl⟩
 ·cases h
theorem ER: ∀ {H:List (Nat×OB)} {l:Nat} {c:OB} {p:Nat×OB},p∈aF H l c->p∈H\/(p.2=c/\p.1=l/\ ∃c',(l,c')∈H)
 |(k,a)::r,l,c,p,h=>by
  simp only [aF] at h
  split at h
  ·rename_i e
   rcases Bd.1 h with h|h
   ·subst h;exact .inr ⟨rfl,e,a,by rw [e];simp⟩
   ·exact .inl (An _ h)
  ·rcases Bd.1 h with h|h
   ·exact .inl (by rw [h];simp)
   ·exact (ER h).imp (An _) λ⟨h1,h2,c',h3⟩=>⟨h1,h2,c',An _ h3⟩
theorem Jb.Kr {st:St} {l:Nat} {c:OB} (h:Jb d st) (hc:d∉c.refs):Jb d (st.Kr l c):=
 ⟨h.own,h.tmps,λp hp=>(ER hp).elim (h.heap p) λ⟨h1,h2,c',h3⟩=>⟨by rw [h2];exact (h.heap _ h3).1,by rw [h1];exact hc⟩⟩
theorem yV {dst:Option Tmp} {t0:TypeId} {m k x:Operand} {ty:TypeId} {pos:String} {after:Array Edge} (hn:Jb d t) (hm:(Jx d v b t).ev m=t.ev m) (hk:(Jx d v b t).ev k=t.ev k) (hx:(Jx d v b t).ev x=t.ev x) (eo:dst≠some d)
  (hs:(t.ev x).settled=true) {s':St} (he:Fb T Γ ops (Jx d v b t) {dst:=dst,op:= .insert t0 m k x,type:=ty,pos:=pos,after:=after,guard:=none} =some s'):
  ∃t',Fb T Γ ops t {dst:=dst,op:= .insert t0 m k x,type:=ty,pos:=pos,after:=after,guard:=none} =some t'/\s'=Jx d v b t'/\Jb d t':=by
 unfold Fb at he⊢
 simp only [evalOp,hm,hk,hx] at he⊢
 cases PC:Jt T (Jx d v b t) t0 (t.ev m) (t.ev k) (t.ev x) with
 |none=>rw [PC] at he;cases he
 |some s1=>
  rw [PC] at he
  simp only [Al,Aa] at he
  obtain ⟨l,fr,s,e1,e2⟩:=sI PC
  have hld:d≠l:= λe=>by
   have:=hn.ev m
   rw [e1,e] at this
   exact this (by simp [AV.refs,AC.refs])
  rw [e1,e2,kR,OE hld] at PC
  have hvw:(λv0=>Gc (Jx d v b t) v0 (t.ev x))= λv0=>Gc t v0 (t.ev x):=funext λv0=>gl hs
  rw [hvw] at PC
  rw [e1,e2,kR]
  cases ho:nT T (t.at l) t0 s λv0=>Gc t v0 (t.ev x) with
  |none=>rw [ho] at PC;cases PC
  |some c=>
   rw [ho] at PC
   simp only [Al,Aa] at PC
   have hc:=EM ho
   have rV:Jb d (t.Kr l c):=hn.Kr (by rw [hc];simp)
   obtain ⟨p1,p2⟩:=xJ (v:=v) (b:=b) (y:= .undef) eo rV (by simp [AV.refs,AC.refs])
   refine ⟨_,rfl,?_,p2⟩
   rw [<-he,<-PC,QU hld,p1]
theorem Jb.back {e:Nat} (h:Jb e (Jx d v b t)) (hde:e≠d) (hn:Jb d t):Jb e t:=by
 have hg: ∀k,k≠d->(Jx d v b t).get k=t.get k:= λk hk=>eh _ _ _ _ _ (Hm hk)
 refine ⟨by rw [<-hg e hde];exact h.own,λu hu hd=>?_,h.Ahy⟩
 obtain ⟨k,hk,rfl⟩:=Bf.1 hu
 have e1:t.get k=t.tmps[k]:=by unfold St.get;rw [Ah,Ac hk];rfl
 by_cases hkd:k=d
 ·subst hkd
  have:=hn.own
  rw [e1] at this
  rw [this] at hd
  cases hd
 ·have h1:=h.ev (.tmp k)
  have h2:(Jx d v b t).ev (.tmp k)=t.tmps[k]:=by show (Jx d v b t).get k=_;rw [hg k hkd,e1]
  rw [h2] at h1
  exact h1 hd
def mq (e:Ty):Nat->List (Nat×AV)->Option (Bool×Bool×List e.den)
 |_,[]=>some (true,true,[])
 |i,(j,x)::r=>if i=j then match Gc ⟨[],[]⟩ e x with
  |some (fr,y)=>match mq e (i+1) r with
   |some (Ww,tr',ys)=>some (fr&&Ww,Um ⟨[],[]⟩ x&&e.tree&&tr',y::ys)
   |none=>none
  |none=>none
  else none
theorem dV {st:St} {e:Ty} : ∀(l:List (Nat×Operand)) (i:Nat),(l.all λp=>Xh (st.ev p.2))=true->Lx e i l st=(mq e i (l.map λp=>(p.1,st.ev p.2))).map λp=>(p.1,p.2.1,p.2.2,st)
 | [],i,_=>rfl
 |(j,x)::r,i,h=>by
  rw [Jc,Af] at h
  have hx:Xh (st.ev x)=true:=h.1
  simp only [Lx,mq,Bz]
  split
  ·generalize hxv:st.ev x=xv at hx
   unfold Xh at hx
   split at hx
   ·rename_i fr τ z
    have Ahd:settle st (.at (.data fr τ z))=some (.at (.data fr τ z),st):=rfl
    rw [Ahd]
    simp only
    rw [gl (st:=⟨[],[]⟩) (st':=st) (v:= .at (.data fr τ z)) rfl]
    cases Gc ⟨[],[]⟩ e (.at (.data fr τ z)) with
    |none=>rfl
    |some p=>
     simp only
     rw [dV r (i+1) h.2]
     cases mq e (i+1) (r.map λp=>(p.1,st.ev p.2)) with
     |none=>rfl
     |some q=>rfl
   ·cases hx
  ·rfl
def rowOf (T:Tab) (t0:TypeId) (len:Nat) (parts:List (Nat×AV)) (dst:Nat):Option (AV×OB):=match ej T t0 with
 |some _=>none
 |none=>match T.elem t0 with
  |none=>none
  |some te=>match T.ty te with
   |none=>none
   |some e=>if parts.length=len/\len<=64/\e.size<=64/\dst<Bk then (mq e 0 parts).map λp=>(.at (.own dst 0 len), .arr ((T.vd||e.flat)&&p.1) (T.BI&&p.2.1) e te p.2.2) else none
theorem iv {st:St} {t0:TypeId} {len dst:Nat} {parts:Array (Nat×Operand)} (h:(parts.toList.all λp=>Xh (st.ev p.2))=true):
  Jq T st dst t0 len parts=(rowOf T t0 len (parts.toList.map λp=>(p.1,st.ev p.2)) dst).map λr=>(r.1,st.new dst r.2):=by
 unfold Jq rowOf
 cases ej T t0 with
 |some p=>
  obtain ⟨te,e⟩:=p
  simp only [Option.map_none]
  split
  ·rename_i x hp
   rw [hp,Jc,Af] at h
   have hx:Xh (st.ev x)=true:=h.1
   unfold Xh at hx
   split at hx
   ·rename_i hv;simp only [hv]
   ·cases hx
  ·rfl
 |none=>
  simp only
  unfold My
  cases T.elem t0 with
  |none=>rfl
  |some te=>
   simp only
   cases T.ty te with
   |none=>rfl
   |some e=>
    simp only [Dd,Yf]
    split
    ·rw [dV _ 0 h]
     cases mq e 0 (parts.toList.map λp=>(p.1,st.ev p.2))<;>rfl
    ·rfl
theorem qE {t0:TypeId} {len dst:Nat} {parts:List (Nat×AV)} {r:AV×OB} (h:rowOf T t0 len parts dst=some r):sd dst r.1 r.2:=by
 unfold rowOf at h
 split at h
 ·cases h
 ·split at h
  ·cases h
  ·split at h
   ·cases h
   ·split at h
    ·rename_i e _ _
     cases hp:mq e 0 parts with
     |none=>rw [hp] at h;cases h
     |some p=>
      rw [hp] at h
      simp only [Al,Aa] at h
      subst h
      exact ⟨λl hl=>by simpa [AV.refs,AC.refs] using hl,rfl,λl hl=>by simp only [AV.map,Cl];rw [Aj (Hm hl)],λl=>rfl⟩
    ·cases h
theorem CF {e:Nat} {t0:TypeId} {len:Nat} {parts:Array (Nat×Operand)} {ty:TypeId} {pos:String} {after:Array Edge} (_hl:sd d v b) (hn:Jb d t) (hx: ∀p∈parts.toList,(Jx d v b t).ev p.2=t.ev p.2) (eo:e≠d)
  (hp:(parts.toList.all λp=>Xh (t.ev p.2))=true) (Jd:Jb e (Jx d v b t)) {s':St} (he:Fb T Γ ops (Jx d v b t) {dst:=some e,op:= .buildSlice t0 len parts,type:=ty,pos:=pos,after:=after,guard:=none} =some s'):
  ∃t',Fb T Γ ops t {dst:=some e,op:= .buildSlice t0 len parts,type:=ty,pos:=pos,after:=after,guard:=none} =some t'/\s'=Jx d v b t'/\Jb d t':=by
 have Ah4:=Jd.back eo hn
 have PF:(parts.toList.all λp=>Xh ((Jx d v b t).ev p.2))=true:=Bb.2 λp yS=>by rw [hx p yS];exact Bb.1 hp p yS
 have hm:(parts.toList.map λp=>(p.1,(Jx d v b t).ev p.2))=parts.toList.map λp=>(p.1,t.ev p.2):=Ev λp yS=>by rw [hx p yS]
 unfold Fb at he⊢
 simp only [evalOp] at he⊢
 rw [iv PF,hm] at he
 rw [iv hp]
 cases hr:rowOf T t0 len (parts.toList.map λp=>(p.1,t.ev p.2)) e with
 |none=>rw [hr] at he;cases he
 |some r=>
  rw [hr] at he
  have hL:=qE hr
  simp only [Al,Aa] at he
  rw [Jd.new] at he
  refine ⟨Jx e r.1 r.2 t,by simp only [Al];rw [Ah4.new],?_,hn.plus (Hm eo) (λh=>eo (hL.v1 _ h).symm) (by rw [hL.b1];simp)⟩
  rw [<-he,wQ (Hm eo)]
def evC:Operand->AV
 | .const c=>mV c
 |_=> .undef
theorem Ag8 {st:St} {x:Operand} (h:Xh (evC x)=true):st.ev x=evC x:=by
 cases x<;>first|rfl|cases h
def fb (T:Tab) (o:Oper):Option (Nat×AV×OB):=match o.guard with
 |some _=>none
 |none=>match o.dst with
  |none=>none
  |some d=>match o.op with
   | .buildSlice t0 len parts=>if (parts.toList.all λp=>Xh (evC p.2))=true then (rowOf T t0 len (parts.toList.map λp=>(p.1,evC p.2)) d).map λr=>(d,r.1,r.2) else none
   | .makeMap t0 none=>match T.mapOf t0 with
    |some τ=>if d<Bk then some (d, .at (.Ld d), .Wm τ λ_=>none) else none
    |none=>none
   |_=>none
theorem fc {o:Oper} {r:Nat×AV×OB} (h:fb T o=some r):o.dst=some r.1/\sd r.1 r.2.1 r.2.2/\ ∀st:St,Jb r.1 st->Fb T Γ ops st o=some (Jx r.1 r.2.1 r.2.2 st):=by
 obtain ⟨dst,op,ty,pos,after,guard⟩:=o
 unfold fb at h
 cases guard with
 |some g=>cases h
 |none=>
  cases dst with
  |none=>cases h
  |some d=>
   cases op with
   |buildSlice t0 len parts=>
    simp only at h
    split at h
    ·rename_i hp
     cases hr:rowOf T t0 len (parts.toList.map λp=>(p.1,evC p.2)) d with
     |none=>rw [hr] at h;cases h
     |some q=>
      rw [hr] at h
      simp only [Al,Aa] at h
      subst h
      refine ⟨rfl,qE hr,λst Si=>?_⟩
      have JR: ∀p∈parts.toList,st.ev p.2=evC p.2:= λp yS=>Ag8 (Bb.1 hp p yS)
      have hm:(parts.toList.map λp=>(p.1,st.ev p.2))=parts.toList.map λp=>(p.1,evC p.2):=Ev λp yS=>by rw [JR p yS]
      have PF:(parts.toList.all λp=>Xh (st.ev p.2))=true:=Bb.2 λp yS=>by rw [JR p yS];exact Bb.1 hp p yS
      unfold Fb
      simp only [evalOp]
      rw [iv PF,hm,hr]
      simp only [Al]
      rw [Si.new]
    ·cases h
   |makeMap t0 hint=>
    cases hint with
    |some x=>cases h
    |none=>
     simp only at h
     split at h
     ·rename_i τ Uv
      split at h
      ·rename_i hd
       cases h
       refine ⟨rfl,⟨λl hl=>by simpa [AV.refs,AC.refs] using hl,rfl,λl hl=>by simp only [AV.map,Cl];rw [Aj (Hm hl)],λl=>rfl⟩,λst Si=>?_⟩
       unfold Fb
       simp only [evalOp,Vr,Uv,Ab hd,Al]
       rw [Si.new]
      ·cases h
     ·cases h
   |_=>cases h
theorem zQ {l:List Operand} (h: ∀x∈l,(Jx d v b t).ev x=t.ev x):(l.all λx=>((Jx d v b t).ev x).settled)=(l.map t.ev).all (·.settled):=by
 rw [List.all_map]
 induction l with
 |nil=>rfl
 |cons x r ih=>
  simp only [Jc,Function.comp]
  rw [h x (by simp),ih λy hy=>h y (by simp [hy])]
theorem zR {o:Oper} (hl:sd d v b) (hn:Jb d t) (hs:Xm Γ (Jx d v b t) o=true) (hu:(jF o).all (ja d)=true) (eo:o.dst≠some d) {s':St} (he:Fb T Γ ops (Jx d v b t) o=some s'):
  ∃t',Fb T Γ ops t o=some t'/\s'=Jx d v b t'/\Jb d t'/\Xm Γ t o=true:=by
 obtain ⟨dst,op,ty,pos,after,guard⟩:=o
 unfold Xm at hs
 cases guard with
 |some g=>cases hs
 |none=>
  simp only at hs
  split at hs
  ·rename_i x
   have hx:=a8 (v:=v) (b:=b) (t:=t) hu x (by simp [jF])
   obtain ⟨t',h1,h2,h3⟩:=KT hn hx eo he
   exact ⟨t',h1,h2,h3,rfl⟩
  ·rename_i t0 x
   have hx:=a8 (v:=v) (b:=b) (t:=t) hu x (by simp [jF])
   rw [hx] at hs
   split at hs
   ·rename_i l i hp
    obtain ⟨t',h1,h2,h3⟩:=KO hn hx eo hp he
    exact ⟨t',h1,h2,h3,by simp only [Xm,hp]⟩
   ·cases hs
  ·rename_i f args tys
   rw [Af] at hs
   obtain ⟨gY,oG⟩:=hs
   split at gY
   ·rename_i sp Pu
    have JR:=a8 (v:=v) (b:=b) (t:=t) (l:=args.toList) hu
    rw [zQ JR] at oG
    obtain ⟨t',h1,h2,h3⟩:=IX Pu hn (QX hu) eo oG he
    refine ⟨t',h1,h2,h3,?_⟩
    simp only [Xm,Pu,Qe]
    rw [List.all_map] at oG
    exact oG
   ·cases gY
  ·rename_i t0 m k x
   have hm:=a8 (v:=v) (b:=b) (t:=t) hu m (by simp [jF])
   have hk:=a8 (v:=v) (b:=b) (t:=t) hu k (by simp [jF])
   have hx:=a8 (v:=v) (b:=b) (t:=t) hu x (by simp [jF])
   rw [hm,hk,hx] at hs
   have hs0:=hs
   rw [Af] at hs
   obtain ⟨t',h1,h2,h3⟩:=yV hn hm hk hx eo hs.2 he
   exact ⟨t',h1,h2,h3,hs0⟩
  ·rename_i t0 len parts
   rw [Af] at hs
   obtain ⟨gY,oG⟩:=hs
   cases dst with
   |none=>cases oG
   |some e=>
    simp only at oG
    have hed:e≠d:= λh=>eo (by rw [h])
    have gZ:(parts.toList.map (λp=>p.2)).all (ja d)=true:=hu
    have JR:=a8 (v:=v) (b:=b) (t:=t) gZ
    have hx: ∀p∈parts.toList,(Jx d v b t).ev p.2=t.ev p.2:= λp hp=>JR p.2 (Be.2 ⟨p,hp,rfl⟩)
    have hp:(parts.toList.all λp=>Xh (t.ev p.2))=true:=Bb.2 λp hp=>by rw [<-hx p hp];exact Bb.1 gY p hp
    have Jd:=tJ oG
    obtain ⟨t',h1,h2,h3⟩:=CF hl hn hx hed hp Jd he
    refine ⟨t',h1,h2,h3,?_⟩
    simp only [Xm,hp,Qe]
    exact SJ (Jd.back hed hn)
  ·cases hs
def yj:List (Nat×AV×OB)->St->St->Prop
 | [],s,t=>s=t
 |q::Q,s,t=>Jb q.1 t/\yj Q s (Jx q.1 q.2.1 q.2.2 t)
theorem xD {o:Oper} : ∀(Q:List (Nat×AV×OB)) (s t s':St),yj Q s t->(∀q∈Q,sd q.1 q.2.1 q.2.2/\(jF o).all (ja q.1)=true/\o.dst≠some q.1)->Xm Γ s o=true->Fb T Γ ops s o=some s'->
  ∃t',Fb T Γ ops t o=some t'/\yj Q s' t'/\Xm Γ t o=true
 | [],s,t,s',h,_,hs,he=>by
  have h:s=t:=h
  subst h
  exact ⟨s',he,rfl,hs⟩
 |q::Q,s,t,s',⟨h1,h2⟩,hq,hs,he=>by
  obtain ⟨u',e1,e2,e3⟩:=xD Q s _ s' h2 (λp hp=>hq p (An _ hp)) hs he
  obtain ⟨l1,l2,l3⟩:=hq q (by simp)
  obtain ⟨t',f1,f2,f3,f4⟩:=zR l1 h1 e3 l2 l3 e1
  exact ⟨t',f1,⟨f3,by rw [<-f2];exact e2⟩,f4⟩
theorem xE {q:Nat×AV×OB} : ∀(Q1:List (Nat×AV×OB)) {Q2:List (Nat×AV×OB)} {s t:St},yj (Q1++q::Q2) s t->(∀p∈Q1++q::Q2,sd p.1 p.2.1 p.2.2)->(∀p∈Q1,p.1≠q.1)->
  Jb q.1 t/\yj (Q1++Q2) s (Jx q.1 q.2.1 q.2.2 t)
 | [],Q2,s,t,h,_,_=>h
 |p::Q1,Q2,s,t,⟨h1,h2⟩,hL,Jd=>by
  have hpq:=Jd p (by simp)
  have hLp:=hL p (by simp)
  have hLq:=hL q (by simp)
  obtain ⟨g1,g2⟩:=xE Q1 h2 (λr hr=>hL r (An _ hr)) λr hr=>Jd r (An _ hr)
  refine ⟨g1.back (Hm hpq) h1,h1.plus hpq (λh=>hpq (hLq.v1 _ h)) (by rw [hLq.b1];simp),?_⟩
  show yj (Q1++Q2) s (Jx p.1 p.2.1 p.2.2 (Jx q.1 q.2.1 q.2.2 t))
  rw [wQ (Hm hpq)]
  exact g2
def mF (ops:Array Oper):Nat->Nat->Nat->Bool
 |0,_,_=>false
 |f+1,i,a=>Region.waitsFor .any ops i a||(List.range ops.size).any λk=>Region.waitsFor .any ops i k&&mF ops f k a
theorem lD {Ag:Array Bool} (hc:Va ops Ag) {a:Nat} : ∀(f i:Nat),(∀x,Region.waitsFor .any ops i x=true->Ag.getD x false=true)->mF ops f i a=true->Ag.getD a false=true
 |0,_,_,h=>by cases h
 |f+1,i,hi,h=>by
  simp only [mF,Mh,Gh,Af] at h
  rcases h with h|⟨k,_,h1,h2⟩
  ·exact hi a h
  ·exact lD hc f k (λx hx=>hc k x (hi k h1) hx) h2
def KX (P:List (Nat×Nat×AV×OB)) (Γ:Env) (ops:Array Oper) (st:St) (o:Oper) (i:Nat):Bool:=
 (P.all λa=>mF ops 5 i a.1)||(Xm Γ st o&&P.all λa=>mF ops 5 i a.1||((jF o).all (ja a.2.1)&&(match o.dst with
  |some e=>!Nat.beq e a.2.1
  |none=>true)))
def Ag0 (T:Tab) (Γ:Env) (ops:Array Oper) (P:List (Nat×Nat×AV×OB)) (K:St->Prop):Nat->Array Bool->St->Prop
 |0,Ag,st=>Region.ready .any ops Ag= []/\K st
 |f+1,Ag,st=>Region.ready .any ops Ag≠ []/\ ∀i∈Region.ready .any ops Ag,∃o st',ops[i]?=some o/\KX P Γ ops st o i=true/\Fb T Γ ops st o=some st'/\Ag0 T Γ ops P K f (Ag.setIfInBounds i true) st'
structure VI (lc la:Array Bool) (Q:List Nat):Prop where
 size:la.size=lc.size
 off: ∀k∈Q,k<la.size/\la.getD k false=false/\lc.getD k false=true
 same: ∀k,k∉Q->la.getD k false=lc.getD k false
theorem VI.ready {lc la:Array Bool} {Q:List Nat} (h:VI lc la Q) {i:Nat} (hi:i∈Region.ready .any ops la) (hn:i∉Q):i∈Region.ready .any ops lc:=by
 obtain ⟨h1,o,ho,Lc⟩:=mem_ready.1 hi
 have Lq:i<la.size:=by
  rcases Nat.lt_or_ge i la.size with h'|h'
  ·exact h'
  ·simp [Array.getElem?_eq_none h'] at h1
 have h2:=getD_both h1
 rw [h.same i hn] at h2
 refine mem_ready.2 ⟨getD_in (by rw [<-h.size];exact Lq) h2,o,ho,λe he hb=>?_⟩
 have h3:=Lc e he hb
 by_cases hq:e.on∈Q
 ·exact (h.off _ hq).2.2
 ·rw [<-h.same _ hq];exact h3
theorem VI.nil {lc la:Array Bool} (h:VI lc la []):la=lc:=by
 refine Array.ext h.size λk h1 h2=>?_
 have:=h.same k (by simp)
 simpa [h1,h2] using this
theorem VI.one {lc la:Array Bool} {Q Q':List Nat} {i:Nat} (h:VI lc la Q) (hi:i∈Q) (hs: ∀k,k∈Q'↔k∈Q/\k≠i):VI lc (la.setIfInBounds i true) Q':=by
 refine ⟨by simp [h.size],λk hk=>?_,λk hk=>?_⟩
 ·obtain ⟨h1,h2⟩:=(hs k).1 hk
  obtain ⟨g1,g2,g3⟩:=h.off k h1
  exact ⟨by simpa using g1,by rw [getD_set_ne false (Hm h2)];exact g2,g3⟩
 ·by_cases e:i=k
  ·subst e
   obtain ⟨g1,g2,g3⟩:=h.off i hi
   rw [g3]
   simp [g1]
  ·rw [getD_set_ne false e]
   exact h.same k λhq=>hk ((hs k).2 ⟨hq,Hm e⟩)
theorem VI.both {lc la:Array Bool} {Q:List Nat} {i:Nat} (h:VI lc la Q) (hi:i∉Q):VI (lc.setIfInBounds i true) (la.setIfInBounds i true) Q:=by
 refine ⟨by simp [h.size],λk hk=>?_,λk hk=>?_⟩
 ·obtain ⟨g1,g2,g3⟩:=h.off k hk
  have Jd:i≠k:= λe=>hi (by rw [e];exact hk)
  exact ⟨by simpa using g1,by rw [getD_set_ne false Jd];exact g2,by rw [getD_set_ne false Jd];exact g3⟩
 ·by_cases e:i=k
  ·subst e
   have hs:=h.same i hi
   have hz:=h.size
   by_cases hl:i<la.size
   ·simp [hl,hz▸hl]
   ·have Mb: ¬i<lc.size:=by omega
    simp [hl,Mb]
  ·rw [getD_set_ne false e,getD_set_ne false e];exact h.same k hk
theorem KV {dst:Option Tmp} {d:Nat} (h:(match dst with
  |some e=>!Nat.beq e d
  |none=>true)=true):dst≠some d:= λe=>by
 subst e
 simp at h
theorem QV {P:List (Nat×Nat×AV×OB)} {K:St->Prop} (hP: ∀a∈P,∃o,ops[a.1]?=some o/\fb T o=some a.2):
  ∀(n f:Nat) (Q:List (Nat×Nat×AV×OB)) (lc la:Array Bool) (s t:St),n=f+Q.length->Ag0 T Γ ops P K f lc s->yj (Q.map (·.2)) s t->VI lc la (Q.map (·.1))->(∀a∈Q,a∈P)->
   (Q.Pairwise λa c=>a.2.1≠c.2.1/\a.1≠c.1)->Va ops la->(∀a∈Q,∀x,Region.waitsFor .any ops a.1 x=true->la.getD x false=true)->anyS T Γ ops K n la t:=by
 intro n
 induction n with
 |zero=>
  intro f Q lc la s t hn hC hp hb hQ hpw Rc hw
  have hf:f=0:=by omega
  have hq:Q= []:=Ci (by omega)
  subst hf hq
  have hp:s=t:=hp
  subst hp
  rw [hb.nil]
  exact hC
 |succ n ih=>
  intro f Q lc la s t hn hC hp hb hQ hpw Rc hw
  refine ⟨?_,λi hi=>?_⟩
  ·cases Q with
   |nil=>
    rw [hb.nil]
    cases f with
    |zero=>simp at hn
    |succ f=>exact hC.1
   |cons a Q=>
    obtain ⟨o,ho,_⟩:=hP a (hQ a (by simp))
    obtain ⟨g1,g2,_⟩:=hb.off a.1 (by simp)
    have:a.1∈Region.ready .any ops la:=mem_ready.2 ⟨getD_in g1 g2,o,ho,λe he hbd=>hw a (by simp) e.on (by
     unfold Region.waitsFor
     rw [ho]
     exact Array.any_eq_true'.2 ⟨e,he,by simp [hbd]⟩)⟩
    intro e
    rw [e] at this
    cases this
  ·by_cases hiQ:i∈Q.map (·.1)
   ·obtain ⟨a,ha,rfl⟩:=Be.1 hiQ
    obtain ⟨Q1,Q2,rfl⟩:=List.append_of_mem ha
    obtain ⟨o,ho,hal⟩:=hP a (hQ a ha)
    obtain ⟨_,_,Si⟩:=fc (Γ:=Γ) (ops:=ops) hal
    have XQ:=List.pairwise_append.1 hpw
    have Alf:=List.pairwise_cons.1 XQ.2.1
    rw [Iy,Bz] at hp
    have hL: ∀p∈Q1.map (·.2)++a.2::Q2.map (·.2),sd p.1 p.2.1 p.2.2:= λp yS=>by
     have:p∈(Q1++a::Q2).map (·.2):=by rw [Iy,Bz];exact yS
     obtain ⟨c,hc,rfl⟩:=Be.1 this
     obtain ⟨o',_,Aq4⟩:=hP c (hQ c hc)
     exact (fc (Γ:=Γ) (ops:=ops) Aq4).2.1
    obtain ⟨p1,p2⟩:=xE _ hp hL λp yS=>by
     obtain ⟨c,hc,rfl⟩:=Be.1 yS
     exact (XQ.2.2 c hc a (by simp)).1
    refine ⟨o,_,ho,Si t p1,ih f (Q1++Q2) lc _ s _ ?_ hC (by rw [Iy];exact p2) (hb.one hiQ λk=>?_) (λc hc=>hQ c ?_) ?_ (Rc.set hi) λc hc x hx=>getD_set_true (hw c ?_ x hx)⟩
    ·simp only [Av,Ay] at hn⊢;omega
    ·simp only [Iy,Bz,Az,Bd]
     constructor
     ·intro h
      rcases h with h|h
      ·obtain ⟨c,hc,rfl⟩:=Be.1 h
       exact ⟨.inl h,(XQ.2.2 c hc a (by simp)).2⟩
      ·obtain ⟨c,hc,rfl⟩:=Be.1 h
       exact ⟨.inr (.inr h),Hm (Alf.1 c hc).2⟩
     ·rintro ⟨h|h|h,Jd⟩
      ·exact .inl h
      ·exact absurd h Jd
      ·exact .inr h
    ·rcases Az.1 hc with hc|hc
     ·exact Bj _ hc
     ·exact Cf _ (An _ hc)
    ·exact List.pairwise_append.2 ⟨XQ.1,Alf.2,λc hc e he=>XQ.2.2 c hc e (An _ he)⟩
    ·rcases Az.1 hc with hc|hc
     ·exact Bj _ hc
     ·exact Cf _ (An _ hc)
   ·have hic:=hb.ready hi hiQ
    cases f with
    |zero=>
     rw [hC.1] at hic
     cases hic
    |succ f=>
     obtain ⟨o,s',ho,eU,he,gA⟩:=hC.2 i hic
     have Acq: ∀a∈Q,mF ops 5 i a.1=false:= λa ha=>by
      cases hwt:mF ops 5 i a.1 with
      |false=>rfl
      |true=>
       have h1:=lD Rc _ i (λx hx=>cZ hi hx) hwt
       rw [(hb.off a.1 (Be.2 ⟨a,ha,rfl⟩)).2.1] at h1
       cases h1
     have key: ∃t',Fb T Γ ops t o=some t'/\yj (Q.map (·.2)) s' t':=by
      unfold KX at eU
      rw [Mh,Af] at eU
      rcases eU with eU|⟨h1,h2⟩
      ·cases Q with
       |nil=>
        have hp:s=t:=hp
        subst hp
        exact ⟨s',he,rfl⟩
       |cons a Q=>
        have:=Bb.1 eU a (hQ a (by simp))
        rw [Acq a (by simp)] at this
        cases this
      ·obtain ⟨t',g1,g2,_⟩:=xD (T:=T) (ops:=ops) _ s t s' hp (λq hq=>by
        obtain ⟨a,ha,rfl⟩:=Be.1 hq
        obtain ⟨o',_,hal⟩:=hP a (hQ a ha)
        have h3:=Bb.1 h2 a (hQ a ha)
        rw [Acq a ha,Xu,Af] at h3
        exact ⟨(fc (Γ:=Γ) (ops:=ops) hal).2.1,h3.1,KV h3.2⟩) h1 he
       exact ⟨t',g1,g2⟩
     obtain ⟨t',g1,g2⟩:=key
     exact ⟨o,t',ho,g1,ih f Q _ _ s' t' (by omega) gA g2 (hb.both hiQ) hQ hpw (Rc.set hi) λc hc x hx=>getD_set_true (hw c hc x hx)⟩
def a7 (T:Tab) (ops:Array Oper) (Ag:Array Bool):List (Nat×Nat×AV×OB):=(Region.ready .any ops Ag).filterMap λi=>((ops[i]?).bind (fb T)).map λr=>(i,r)
theorem yp {Ag:Array Bool} {a:Nat×Nat×AV×OB} (h:a∈a7 T ops Ag):a.1∈Region.ready .any ops Ag/\ ∃o,ops[a.1]?=some o/\fb T o=some a.2:=by
 unfold a7 at h
 obtain ⟨i,hi,he⟩:=List.mem_filterMap.1 h
 cases ho:ops[i]? with
 |none=>rw [ho] at he;cases he
 |some o=>
  rw [ho] at he
  simp only [Fo,Option.map_eq_some_iff] at he
  obtain ⟨r,h1,rfl⟩:=he
  exact ⟨hi,o,ho,h1⟩
theorem Ac3 {Ag:Array Bool} {Q:List Nat} (h: ∀i∈Q,i∈Region.ready .any ops Ag):VI (Em Q Ag) Ag Q:=by
 have hr: ∀i∈Q,i<Ag.size/\Ag.getD i false=false:= λi hi=>by
  have h1:=(mem_ready.1 (h i hi)).1
  refine ⟨?_,getD_both h1⟩
  rcases Nat.lt_or_ge i Ag.size with h'|h'
  ·exact h'
  ·simp [Array.getElem?_eq_none h'] at h1
 exact ⟨(Xb Q Ag).symm,λk hk=>⟨(hr k hk).1,(hr k hk).2,fC Q Ag k hk (hr k hk).1⟩,λk hk=>(dC Q Ag k hk).symm⟩
theorem FW: ∀(Q:List (Nat×Nat×AV×OB)) (t s:St),(∀a∈Q,∃o,ops[a.1]?=some o/\fb T o=some a.2)->(∀a∈Q,Jb a.2.1 t)->(Q.Pairwise λa c=>a.2.1≠c.2.1)->Nj T Γ ops (Q.map (·.1)) t=some s->yj (Q.map (·.2)) s t
 | [],t,s,_,_,_,h=>by
  have h:some t=some s:=h
  exact (Bc h).symm
 |a::Q,t,s,hQ,hn,hp,h=>by
  obtain ⟨o,ho,hal⟩:=hQ a (by simp)
  obtain ⟨_,hL,Si⟩:=fc (Γ:=Γ) (ops:=ops) hal
  obtain ⟨tb,PH⟩:=List.pairwise_cons.1 hp
  simp only [Bz,Nj,ho] at h
  rw [Si t (hn a (by simp))] at h
  refine ⟨hn a (by simp),FW Q _ s (λc hc=>hQ c (An _ hc)) (λc hc=>?_) PH h⟩
  exact (hn c (An _ hc)).plus (Hm (tb c hc)) (λh=>tb c hc (hL.v1 _ h).symm) (by rw [hL.b1];simp)
end
end Go.Proofs.YtkkdpknjohcekaaGreat
