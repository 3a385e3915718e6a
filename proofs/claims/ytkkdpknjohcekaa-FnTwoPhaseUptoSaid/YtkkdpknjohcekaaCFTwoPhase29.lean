/-
  Part 30 of the proof that the statement FnTwoPhase holds.
-/
import Derived.Test.YtkkdpknjohcekaaCFTwoPhase28
namespace Go.Proofs.Ytkkdpknjohcekaa
open Go.RowKit
def Js (d:Nat) (v:AV) (b:OB) (st:St):St:= {tmps:=Ta st.tmps d v,heap:=Pb st.heap d b}
def pB (d:Nat) (st:St):Bool:=(st.get d).refs.isEmpty&&((st.tmps.all λv=>!v.refs.contains d)&&st.heap.all λp=>!Nat.beq p.1 d&&!p.2.refs.contains d)
structure Ix (d:Nat) (st:St):Prop where
 own:(st.get d).refs= []
 tmps: ∀v∈st.tmps,d∉v.refs
 heap: ∀p∈st.heap,p.1≠d/\d∉p.2.refs
theorem ub {d:Nat} {st:St} (h:pB d st=true):Ix d st:=by
 unfold pB at h
 rw [Aj,Aj,Bg,Bg] at h
 obtain ⟨h0,h⟩:=h
 refine ⟨List.isEmpty_iff.1 h0,λv hv=>?_,λp hp=>?_⟩
 ·have:=h.1 v hv
  intro hd
  rw [Jz.2 hd] at this
  cases this
 ·have:=h.2 p hp
  rw [Aj] at this
  refine ⟨λe=>?_,λhd=>?_⟩
  ·have h1:=this.1
   rw [e,Nat.beq_refl] at h1
   cases h1
  ·have h1:=this.2
   rw [Jz.2 hd] at h1
   cases h1
theorem UK {d:Nat} {st:St} (h:Ix d st):pB d st=true:=by
 unfold pB
 rw [Aj,Aj,Bg,Bg]
 refine ⟨by rw [h.own];rfl,λv hv=>?_,λp hp=>?_⟩
 ·rw [Fg,<-En,Jz];exact h.tmps v hv
 ·rw [Aj]
  refine ⟨?_,?_⟩
  ·rw [Fg,<-En]
   exact λe=>(h.heap p hp).1 (Kb e)
  ·rw [Fg,<-En,Jz];exact (h.heap p hp).2
structure sr (d:Nat) (v:AV) (b:OB):Prop where
 v1: ∀l,l∈v.refs->l=d
 b1:b.refs= []
 v2: ∀l,l≠d->v.map (Cv l)=v
 b2: ∀l,b.map (Cv l)=b
theorem eh {α:Type} : ∀(xs:List α) (d t:Nat) (v x:α),d≠t->(Ta xs d v).getD t x=xs.getD t x
 | [],_,_,_,_,_=>rfl
 |y::r,0,0,_,_,h=>absurd rfl h
 |y::r,0,t+1,_,_,_=>by simp [Ta]
 |y::r,d+1,0,_,_,_=>by simp [Ta]
 |y::r,d+1,t+1,v,x,h=>by simpa [Ta] using eh r d t v x (by omega)
theorem pT {α:Type} : ∀(xs:List α) (d e:Nat) (v w:α),d≠e->Ta (Ta xs d v) e w=Ta (Ta xs e w) d v
 | [],_,_,_,_,_=>rfl
 |y::r,0,0,_,_,h=>absurd rfl h
 |y::r,0,e+1,_,_,_=>rfl
 |y::r,d+1,0,_,_,_=>rfl
 |y::r,d+1,e+1,v,w,h=>by simp only [Ta];rw [pT r d e v w (by omega)]
theorem xt: ∀(H:List (Nat×OB)) (d l:Nat) (b:OB),d≠l->Ay (Pb H d b) l=Ay H l
 | [],d,l,b,h=>by simp [Pb,Ay,h]
 |(k,c)::r,d,l,b,h=>by
  simp only [Pb]
  split
  ·simp only [Ay];rw [Ai h]
  ·simp only [Ay]
   split
   ·rfl
   ·exact xt r d l b h
theorem xA: ∀(H:List (Nat×OB)) (d e:Nat) (b c:OB),d≠e->Pb (Pb H d b) e c=Pb (Pb H e c) d b
 | [],d,e,b,c,h=>by
  simp only [Pb]
  by_cases h1:e<d
  ·rw [Ab h1,Ai (by omega)]
  ·rw [Ai h1,Ab (by omega)]
 |(k,a)::r,d,e,b,c,h=>by
  simp only [Pb]
  by_cases h1:d<k<;>by_cases h2:e<k
  ·rw [Ab h1,Ab h2]
   simp only [Pb]
   by_cases h3:e<d
   ·rw [Ab h3,Ai (by omega),Ab h1]
   ·rw [Ai h3,Ab h2,Ab (by omega)]
  ·rw [Ab h1,Ai h2]
   simp only [Pb]
   rw [Ai (by omega),Ai h2,Ab h1]
  ·rw [Ai h1,Ab h2]
   simp only [Pb]
   rw [Ab h2,Ai (by omega),Ai h1]
  ·rw [Ai h1,Ai h2]
   simp only [Pb]
   rw [Ai h1,Ai h2,xA r d e b c h]
theorem yo: ∀(H:List (Nat×OB)) (d l:Nat) (b c:OB),d≠l->az (Pb H d b) l c=Pb (az H l c) d b
 | [],d,l,b,c,h=>by simp [Pb,az,h]
 |(k,a)::r,d,l,b,c,h=>by
  simp only [Pb,az]
  by_cases h1:d<k<;>by_cases h2:k=l
  ·rw [Ab h1,Ab h2]
   simp only [az,Pb]
   rw [Ai h,Ab h2,Ab h1]
  ·rw [Ab h1,Ai h2]
   simp only [az,Pb]
   rw [Ai h,Ai h2,Ab h1]
  ·rw [Ai h1,Ab h2]
   simp only [az,Pb]
   rw [Ab h2,Ai h1]
  ·rw [Ai h1,Ai h2]
   simp only [az,Pb]
   rw [Ai h2,Ai h1,yo r d l b c h]
theorem qo {l:Nat} : ∀ {c:AC},l∉c.refs->Cv l c=c:=by
 intro c h
 cases c<;>simp only [Cv]<;>simp only [AC.refs,Af] at h
 case clo f Ew=>rw [Ai (by simpa using h)]
 all_goals (first|rfl|rw [Ai (Gv h)])
theorem aY {l:Nat} : ∀ {cs:List AC},l∉cs.flatMap AC.refs->cs.map (Cv l)=cs
 | [],_=>rfl
 |c::r,h=>by
  rw [Wd,Az] at h
  rw [Ca,qo (λhh=>h (.inl hh)),aY (λhh=>h (.inr hh))]
theorem EW {l:Nat} : ∀ {v:AV},l∉v.refs->v.map (Cv l)=v
 | .at a,h=>by simp only [AV.map];rw [qo h]
 | .agg cs,h=>by simp only [AV.map];rw [aY h]
 | .bB _ _ _,_=>rfl
 | .Nd ps,h=>by
  simp only [AV.map]
  congr 1
  simp only [AV.refs] at h
  induction ps with
  |nil=>rfl
  |cons p r ih=>
   rw [Wd,Az] at h
   rw [Ca,aY (λhh=>h (.inl hh)),ih (λhh=>h (.inr hh))]
theorem EY {l:Nat} : ∀ {b:OB},l∉b.refs->b.map (Cv l)=b
 | .arr _ _ _ _ _,_=>rfl
 | .Hc _ _ _,_=>rfl
 | .var _ vs,h=>by simp only [OB.map];rw [aY h]
 | .Bu _ _ _ _ _,_=>rfl
 | .Wb _ _,_=>rfl
theorem EG {l:Nat} : ∀ {H:List (Nat×OB)},(∀p∈H,p.1≠l)->aG H l=H
 | [],_=>rfl
 |(k,b)::r,h=>by
  simp only [aG]
  rw [Ai (h (k,b) (by simp)),EG λp hp=>h p (by simp [hp])]
theorem Ix.forget {l:Nat} {st:St} (h:Ix l st):st.forget l=st:=by
 have e1:st.tmps.map (λv=>v.map (Cv l))=st.tmps:=(Hl λv hv=>EW (h.tmps v hv)).trans (List.map_id _)
 have e2:st.heap.map (λp=>(p.1,p.2.map (Cv l)))=st.heap:=(Hl λp hp=>by rw [EY (h.heap p hp).2];rfl).trans (List.map_id _)
 unfold St.forget St.Ln
 simp only [e1,e2]
 rw [EG λp hp=>(h.heap p hp).1]
theorem Ix.new {l:Nat} {st:St} (h:Ix l st) (b:OB) (v:AV):(st.new l b).put (some l) v=Js l v b st:=by
 unfold St.new
 rw [h.forget]
 rfl
theorem u5 {α:Type} : ∀ {xs:List α} {d:Nat} {v x:α},x∈Ta xs d v->x∈xs\/x=v
 | [],_,_,_,h=>by cases h
 |y::r,0,v,x,h=>by
  rcases Bb.1 h with h|h
  ·exact .inr h
  ·exact .inl (As _ h)
 |y::r,d+1,v,x,h=>by
  rcases Bb.1 h with h|h
  ·exact .inl (by rw [h];simp)
  ·exact (u5 h).imp (As _) id
theorem GN: ∀ {H:List (Nat×OB)} {d:Nat} {b:OB} {p:Nat×OB},p∈Pb H d b->p∈H\/p=(d,b)
 | [],d,b,p,h=> .inr (by simpa [Pb] using h)
 |(k,c)::r,d,b,p,h=>by
  simp only [Pb] at h
  split at h
  ·rcases Bb.1 h with h|h
   ·exact .inr h
   ·exact .inl h
  ·rcases Bb.1 h with h|h
   ·exact .inl (by rw [h];simp)
   ·exact (GN h).imp (As _) id
theorem Adu {d:Nat} {v:AV} {b:OB} {st:St} {x:Operand} (h:x≠ .tmp d):(Js d v b st).ev x=st.ev x:=by
 cases x with
 |tmp t=>exact eh _ _ _ _ _ (λe=>h (by rw [e]))
 |_=>rfl
theorem QA {d l:Nat} {v:AV} {b:OB} {st:St} (h:d≠l):(Js d v b st).at l=st.at l:=xt _ _ _ _ h
theorem YD {d e:Nat} {v u:AV} {b:OB} {st:St} (h:d≠e):(Js d v b st).put (some e) u=Js d v b (st.put (some e) u):=by
 unfold Js St.put
 simp only
 rw [pT _ _ _ _ _ h]
theorem SV {d l:Nat} {v:AV} {b c:OB} {st:St} (h:d≠l):(Js d v b st).Kl l c=Js d v b (st.Kl l c):=by
 unfold Js St.Kl
 simp only
 rw [yo _ _ _ _ _ h]
theorem x7 {d e:Nat} {v u:AV} {b c:OB} {st:St} (h:d≠e):Js e u c (Js d v b st)=Js d v b (Js e u c st):=by
 unfold Js
 rw [pT _ _ _ _ _ h,xA _ _ _ _ _ h]
theorem Ix.put {d:Nat} {st:St} {e:Nat} {u:AV} (h:Ix d st) (LO:e≠d) (hu:d∉u.refs):Ix d (st.put (some e) u):=
 ⟨by show (List.getD (Ta st.tmps e u) d .undef).refs= [];rw [eh _ _ _ _ _ LO];exact h.own,λv hv=>(u5 hv).elim (h.tmps v) λe=>by rw [e];exact hu,h.heap⟩
theorem Ix.plus {d e:Nat} {u:AV} {c:OB} {st:St} (h:Ix d st) (LO:d≠e) (hu:d∉u.refs) (hc:d∉c.refs):Ix d (Js e u c st):=
 ⟨by show (List.getD (Ta st.tmps e u) d .undef).refs= [];rw [eh _ _ _ _ _ (Gv LO)];exact h.own,λv hv=>(u5 hv).elim (h.tmps v) λe=>by rw [e];exact hu,λp hp=>(GN hp).elim (h.heap p) λe'=>by rw [e'];exact ⟨Gv LO,hc⟩⟩
theorem Ix.Ak7 {d e:Nat} {u:AV} {c:OB} {st:St} (h:Ix d (Js e u c st)): ∀p∈st.heap,p.1≠d/\d∉p.2.refs:= λp hp=>h.heap p (by
 show p∈Pb st.heap e c
 generalize st.heap=H at hp
 induction H with
 |nil=>cases hp
 |cons q r ih=>
  obtain ⟨k,a⟩:=q
  simp only [Pb]
  split
  ·exact As _ hp
  ·rcases Bb.1 hp with hp|hp
   ·rw [hp];simp
   ·exact As _ (ih hp))
theorem rY {st st':St} : ∀(τ:Ty) (cs:List AC),cs.all (·.settled)=true->Fq st' τ cs=Fq st τ cs:=by
 intro τ
 induction τ with
 |unit=>intro cs _;cases cs<;>rfl
 |pair a r il ie=>
  intro cs h
  simp only [Fq]
  rw [Bg] at h
  rw [il _ (Bg.2 λc hc=>h c (Gf hc)),ie _ (Bg.2 λc hc=>h c (dQ hc))]
 |_=>
  intro cs h
  rcases cs with _|⟨c,_|⟨c',cs⟩⟩
  ·rfl
  ·simp only [Jw,List.all_nil,Bool.and_true] at h
   simp only [Fq]
   exact bj h
  ·rfl
theorem gu {st st':St} {τ:Ty} {v:AV} (h:v.settled=true):Ge st' τ v=Ge st τ v:=by
 cases v with
 | «at»a=>
  have ha:a.settled=true:=h
  cases a<;>simp only [AC.settled,Di] at ha
  all_goals
   simp only [Ge]
   rw [Qp rfl,Qp rfl]
   rw [bj (st:=st) (st':=st') rfl]
 |agg cs=>simp only [Ge];rw [rY _ _ h]
 |bB _ _ _=>rfl
 |Nd _=>rfl
theorem jU {st st':St} : ∀(τ:Ty) (vs:List AV),vs.all (·.settled)=true->El st' τ vs=El st τ vs
 | .pair a r,v::vs,h=>by
  rw [Jw,Aj] at h
  simp only [El]
  rw [gu (st:=st) (st':=st') h.1,jU r vs h.2]
 | .pair _ _,[],_=>rfl
 | .unit,[],_=>rfl
 | .unit,_::_,_=>rfl
 | .int _,vs,_=>by cases vs<;>rfl
 | .bool,vs,_=>by cases vs<;>rfl
 | .str,vs,_=>by cases vs<;>rfl
 | .slice _,vs,_=>by cases vs<;>rfl
 | .oslice _,vs,_=>by cases vs<;>rfl
 | .ptr _,vs,_=>by cases vs<;>rfl
 | .optr _,vs,_=>by cases vs<;>rfl
 | .smap _,vs,_=>by cases vs<;>rfl
 | .clo _ _,vs,_=>by cases vs<;>rfl
def Wx:AV->Bool
 | .at (.data _ _ _)=>true
 |_=>false
def jS (o:Oper):List Operand:=match o.op with
 | .move x=> [x]
 | .load _ x=> [x]
 | .call {callee:= .value (.func _),args, .. } =>args.toList
 | .insert _ m k x=> [m,k,x]
 | .buildSlice _ _ parts=>parts.toList.map (·.2)
 |_=> []
def jh (d:Nat):Operand->Bool
 | .tmp t=>!Nat.beq t d
 |_=>true
theorem UM {d:Nat} {x:Operand} (h:jh d x=true):x≠ .tmp d:= λe=>by
 subst e
 simp [jh] at h
def Xb (Γ:Env) (st:St) (o:Oper):Bool:=match o.guard with
 |some _=>false
 |none=>match o.op with
  | .move _=>true
  | .load _ x=>(match st.ev x with
   | .at (.Ho _ _)=>true
   |_=>false)
  | .call {callee:= .value (.func f),args, .. } =>(match Γ f with
   |some (.q _)=>true
   |_=>false)&&args.toList.all λx=>(st.ev x).settled
  | .insert _ m k x=>(match st.ev m with
   | .at (.Ky _)=>true
   |_=>false)&&Wx (st.ev k)&&(st.ev x).settled
  | .buildSlice _ _ parts=>(parts.toList.all λp=>Wx (st.ev p.2))&&(match o.dst with
   |some e=>pB e st
   |none=>false)
  |_=>false
theorem Ix.ev {d:Nat} {st:St} (h:Ix d st) (x:Operand):d∉(st.ev x).refs:=by
 cases x with
 |tmp t=>
  simp only [St.ev,St.get]
  rw [Al]
  by_cases hl:t<st.tmps.length
  ·rw [Ad hl];exact h.tmps _ (Am hl)
  ·rw [Ds (Nat.le_of_not_lt hl)];simp [AV.refs,AC.refs]
 |const c=>
  simp only [St.ev]
  unfold nt
  split<;>simp [AV.refs,AC.refs]
 |func f=>simp [St.ev,AV.refs,AC.refs]
 |_=>simp [St.ev,AV.refs,AC.refs]
theorem FG: ∀ {H:List (Nat×OB)} {l:Nat} {b:OB},Ay H l=some b->(l,b)∈H
 |(k,c)::r,l,b,h=>by
  simp only [Ay] at h
  split at h
  ·rename_i e;subst e;cases h;simp
  ·exact As _ (FG h)
section
variable {T:Tab} {Γ:Env} {ops:Array Oper} {d:Nat} {v:AV} {b:OB} {t:St}
theorem yc {e:Option Tmp} (h:e≠some d) (hn:Ix d t) {y:AV} (hy:d∉y.refs):(Js d v b t).put e y=Js d v b (t.put e y)/\Ix d (t.put e y):=by
 cases e with
 |none=>exact ⟨rfl,hn⟩
 |some k=>exact ⟨YD (λe=>h (by rw [e])),hn.put (λe=>h (by rw [e])) hy⟩
theorem jo {o:Oper} (hg:o.guard=none) (eo:o.dst≠some d) (hn:Ix d t) {q:Option AV} (h1:evalOp T Γ (Js d v b t) o=q.map λy=>(y,Js d v b t)) (h2:evalOp T Γ t o=q.map λy=>(y,t)) (hq: ∀y,q=some y->d∉y.refs) {s':St}
  (he:Fm T Γ ops (Js d v b t) o=some s'): ∃t',Fm T Γ ops t o=some t'/\s'=Js d v b t'/\Ix d t':=by
 unfold Fm at he⊢
 rw [hg] at he⊢
 simp only at he⊢
 rw [h1] at he
 cases q with
 |none=>cases he
 |some y=>
  obtain ⟨p1,p2⟩:=yc (v:=v) (b:=b) eo hn (hq y rfl)
  refine ⟨_,by rw [h2];rfl,?_,p2⟩
  simp only [An,Aa] at he
  rw [<-he,p1]
theorem Zv {l:List Operand} (hu:l.all (jh d)=true): ∀x∈l,(Js d v b t).ev x=t.ev x:= λx hx=>Adu (UM (Bg.1 hu x hx))
theorem MQ {dst:Option Tmp} {x:Operand} {ty:TypeId} {pos:String} {after:Array Edge} (hn:Ix d t) (hx:(Js d v b t).ev x=t.ev x) (eo:dst≠some d) {s':St}
  (he:Fm T Γ ops (Js d v b t) {dst:=dst,op:= .move x,type:=ty,pos:=pos,after:=after,guard:=none} =some s'):
  ∃t',Fm T Γ ops t {dst:=dst,op:= .move x,type:=ty,pos:=pos,after:=after,guard:=none} =some t'/\s'=Js d v b t'/\Ix d t':=
 jo rfl eo hn (q:=some (t.ev x)) (by simp only [evalOp,Ft,hx]) (by simp only [evalOp,Ft]) (λy hy=>by cases hy;exact hn.ev x) he
def loadVar (T:Tab) (o:Option OB) (t0:TypeId) (i:Nat):Option AV:=match T.ty t0 with
 |some τ=>(match o with
  |some (.var _ vs)=>if τ.Ar then (if i+τ.size<=vs.length then some (.agg ((vs.drop i).take τ.size)) else none) else vs[i]?.map .at
  |_=>none)
 |none=>none
theorem l7 {st:St} {t0:TypeId} {l i:Nat} :Qi T st t0 (.at (.Ho l i))=loadVar T (st.at l) t0 i:=by
 unfold Qi loadVar
 cases T.ty t0<;>rfl
theorem MM {dst:Option Tmp} {t0:TypeId} {x:Operand} {ty:TypeId} {pos:String} {after:Array Edge} (hn:Ix d t) (hx:(Js d v b t).ev x=t.ev x) (eo:dst≠some d) {l i:Nat} (hp:t.ev x= .at (.Ho l i)) {s':St}
  (he:Fm T Γ ops (Js d v b t) {dst:=dst,op:= .load t0 x,type:=ty,pos:=pos,after:=after,guard:=none} =some s'):
  ∃t',Fm T Γ ops t {dst:=dst,op:= .load t0 x,type:=ty,pos:=pos,after:=after,guard:=none} =some t'/\s'=Js d v b t'/\Ix d t':=by
 have hld:d≠l:= λe=>by
  have:=hn.ev x
  rw [hp,e] at this
  exact this (by simp [AV.refs,AC.refs])
 refine jo rfl eo hn (q:=loadVar T (t.at l) t0 i) ?_ ?_ (λy hy=>?_) he
 ·simp only [evalOp,Ft,hx,hp]
  rw [l7,QA hld]
 ·simp only [evalOp,Ft,hp]
  rw [l7]
 ·unfold loadVar at hy
  split at hy
  ·split at hy
   ·rename_i vs hb
    have hr:d∉vs.flatMap AC.refs:=(hn.heap _ (FG hb)).2
    have kR: ∀c∈vs,d∉c.refs:= λc hc hd=>hr (Gj.2 ⟨c,hc,hd⟩)
    split at hy
    ·split at hy
     ·cases hy
      intro hd
      obtain ⟨c,hc,hd⟩:=Gj.1 hd
      exact kR c (dQ (Gf hc)) hd
     ·cases hy
    ·cases hv:vs[i]? with
     |none=>rw [hv] at hy;cases hy
     |some c=>
      rw [hv] at hy
      cases hy
      exact kR c (Cq hv)
   ·cases hy
  ·cases hy
theorem SZ {l:List Operand} (hu:l.all (jh d)=true):l.map (Js d v b t).ev=l.map t.ev:=Hl λx hx=>Zv hu x hx
theorem KR {dst:Option Tmp} {f:FuncId} {args:Array Operand} {tys:Array TypeId} {ty:TypeId} {pos:String} {after:Array Edge} {sp:Spec} (Pl:Γ f=some (.q sp)) (hn:Ix d t) (hx:args.toList.map (Js d v b t).ev=args.toList.map t.ev) (eo:dst≠some d)
  (hs:(args.toList.map t.ev).all (·.settled)=true) {s':St} (he:Fm T Γ ops (Js d v b t) {dst:=dst,op:= .call {callee:= .value (.func f),args:=args,argTypes:=tys},type:=ty,pos:=pos,after:=after,guard:=none} =some s'):
  ∃t',Fm T Γ ops t {dst:=dst,op:= .call {callee:= .value (.func f),args:=args,argTypes:=tys},type:=ty,pos:=pos,after:=after,guard:=none} =some t'/\s'=Js d v b t'/\Ix d t':=by
 have RC:fJ sp (args.toList.map t.ev)=false:=by unfold fJ;rw [hs];simp
 have LP: ∀st:St,Pj Γ st f (args.toList.map t.ev)=(match El t sp.arg (args.toList.map t.ev) with
   |none=>none
   |some (_,x)=>(sp.fn x).map λy=>if sp.Ij then .bB (sp.fresh||sp.res.flat) sp.res y else .at (.data (sp.fresh||sp.res.flat) sp.res y)):= λst=>by
  unfold Pj
  rw [Pl]
  simp only
  rw [hs,jU (st:=t) _ _ hs]
  simp only [Bool.or_true,Oz]
  cases El t sp.arg (args.toList.map t.ev)<;>rfl
 refine jo rfl eo hn (q:=Pj Γ t f (args.toList.map t.ev)) ?_ ?_ (λy hy=>?_) he
 ·simp only [evalOp,Ft,Pl,hx,RC]
  rw [LP,LP t]
  simp
 ·simp only [evalOp,Ft,Pl,RC]
  simp
 ·rw [LP t] at hy
  split at hy
  ·cases hy
  ·rename_i x _
   cases hf:sp.fn x with
   |none=>rw [hf] at hy;cases hy
   |some z=>
    rw [hf] at hy
    simp only [An,Aa] at hy
    rw [<-hy]
    split<;>simp [AV.refs,AC.refs]
def o8 (T:Tab) (o:Option OB) (t0:TypeId) (s:ByteArray) (vw:(v:Ty)->Option (Bool×v.den)):Option OB:=match T.mapOf t0 with
 |some v=>(match o,vw v with
  |some (.Wb v' f),some (_,y)=>if h:v'=v/\v.flat=true/\v.Ar=false then some (.Wb v (gr (h.1▸f:ByteArray->Option v.den) s y)) else none
  |_,_=>none)
 |none=>none
theorem l8 {st:St} {t0:TypeId} {l:Nat} {fr:Bool} {s:ByteArray} {x:AV} :Jo T st t0 (.at (.Ky l)) (.at (.data fr .str s)) x=(o8 T (st.at l) t0 s λv=>Ge st v x).map λc=>st.Kl l c:=by
 unfold Jo o8
 cases T.mapOf t0 with
 |none=>rfl
 |some v0=>
  simp only
  cases st.at l with
  |none=>rfl
  |some c=>
   cases c with
   |Wb v' f=>
    cases Ge st v0 x with
    |none=>rfl
    |some p=>
     simp only
     split<;>rfl
   |_=>rfl
theorem GK {o:Option OB} {t0:TypeId} {s:ByteArray} {vw:(v:Ty)->Option (Bool×v.den)} {c:OB} (h:o8 T o t0 s vw=some c):c.refs= []:=by
 unfold o8 at h
 split at h
 ·split at h
  ·split at h
   ·cases h;rfl
   ·cases h
  ·cases h
 ·cases h
theorem sX {st:St} {t0:TypeId} {m k x:AV} {s':St} (h:Jo T st t0 m k x=some s'): ∃l fr s,m= .at (.Ky l)/\k= .at (.data fr .str s):=by
 unfold Jo at h
 split at h
 ·exact ⟨_,_,_,rfl,rfl⟩
 ·cases h
theorem GO: ∀ {H:List (Nat×OB)} {l:Nat} {c:OB} {p:Nat×OB},p∈az H l c->p∈H\/(p.2=c/\p.1=l/\ ∃c',(l,c')∈H)
 |(k,a)::r,l,c,p,h=>by
  simp only [az] at h
  split at h
  ·rename_i e
   rcases Bb.1 h with h|h
   ·subst h;exact .inr ⟨rfl,e,a,by rw [e];simp⟩
   ·exact .inl (As _ h)
  ·rcases Bb.1 h with h|h
   ·exact .inl (by rw [h];simp)
   ·exact (GO h).imp (As _) λ⟨h1,h2,c',h3⟩=>⟨h1,h2,c',As _ h3⟩
theorem Ix.Kl {st:St} {l:Nat} {c:OB} (h:Ix d st) (hc:d∉c.refs):Ix d (st.Kl l c):=
 ⟨h.own,h.tmps,λp hp=>(GO hp).elim (h.heap p) λ⟨h1,h2,c',h3⟩=>⟨by rw [h2];exact (h.heap _ h3).1,by rw [h1];exact hc⟩⟩
theorem zv {dst:Option Tmp} {t0:TypeId} {m k x:Operand} {ty:TypeId} {pos:String} {after:Array Edge} (hn:Ix d t) (hm:(Js d v b t).ev m=t.ev m) (hk:(Js d v b t).ev k=t.ev k) (hx:(Js d v b t).ev x=t.ev x) (eo:dst≠some d)
  (hs:(t.ev x).settled=true) {s':St} (he:Fm T Γ ops (Js d v b t) {dst:=dst,op:= .insert t0 m k x,type:=ty,pos:=pos,after:=after,guard:=none} =some s'):
  ∃t',Fm T Γ ops t {dst:=dst,op:= .insert t0 m k x,type:=ty,pos:=pos,after:=after,guard:=none} =some t'/\s'=Js d v b t'/\Ix d t':=by
 unfold Fm at he⊢
 simp only [evalOp,hm,hk,hx] at he⊢
 cases hms:Jo T (Js d v b t) t0 (t.ev m) (t.ev k) (t.ev x) with
 |none=>rw [hms] at he;cases he
 |some s1=>
  rw [hms] at he
  simp only [An,Aa] at he
  obtain ⟨l,fr,s,e1,e2⟩:=sX hms
  have hld:d≠l:= λe=>by
   have:=hn.ev m
   rw [e1,e] at this
   exact this (by simp [AV.refs,AC.refs])
  rw [e1,e2,l8,QA hld] at hms
  have hvw:(λv0=>Ge (Js d v b t) v0 (t.ev x))= λv0=>Ge t v0 (t.ev x):=funext λv0=>gu hs
  rw [hvw] at hms
  rw [e1,e2,l8]
  cases ho:o8 T (t.at l) t0 s λv0=>Ge t v0 (t.ev x) with
  |none=>rw [ho] at hms;cases hms
  |some c=>
   rw [ho] at hms
   simp only [An,Aa] at hms
   have hc:=GK ho
   have lp:Ix d (t.Kl l c):=hn.Kl (by rw [hc];simp)
   obtain ⟨p1,p2⟩:=yc (v:=v) (b:=b) (y:= .undef) eo lp (by simp [AV.refs,AC.refs])
   refine ⟨_,rfl,?_,p2⟩
   rw [<-he,<-hms,SV hld,p1]
theorem Ix.back {e:Nat} (h:Ix e (Js d v b t)) (LO:e≠d) (hn:Ix d t):Ix e t:=by
 have hg: ∀k,k≠d->(Js d v b t).get k=t.get k:= λk hk=>eh _ _ _ _ _ (Gv hk)
 refine ⟨by rw [<-hg e LO];exact h.own,λu hu hd=>?_,h.Ak7⟩
 obtain ⟨k,hk,rfl⟩:=Bf.1 hu
 have e1:t.get k=t.tmps[k]:=by unfold St.get;rw [Al,Ad hk];rfl
 by_cases hkd:k=d
 ·subst hkd
  have:=hn.own
  rw [e1] at this
  rw [this] at hd
  cases hd
 ·have h1:=h.ev (.tmp k)
  have h2:(Js d v b t).ev (.tmp k)=t.tmps[k]:=by show (Js d v b t).get k=_;rw [hg k hkd,e1]
  rw [h2] at h1
  exact h1 hd
def mF (e:Ty):Nat->List (Nat×AV)->Option (Bool×Bool×List e.den)
 |_,[]=>some (true,true,[])
 |i,(j,x)::r=>if i=j then match Ge ⟨[],[]⟩ e x with
  |some (fr,y)=>match mF e (i+1) r with
   |some (Wm,tr',ys)=>some (fr&&Wm,Ts ⟨[],[]⟩ x&&e.tree&&tr',y::ys)
   |none=>none
  |none=>none
  else none
theorem dW {st:St} {e:Ty} : ∀(l:List (Nat×Operand)) (i:Nat),(l.all λp=>Wx (st.ev p.2))=true->Lx e i l st=(mF e i (l.map λp=>(p.1,st.ev p.2))).map λp=>(p.1,p.2.1,p.2.2,st)
 | [],i,_=>rfl
 |(j,x)::r,i,h=>by
  rw [Jw,Aj] at h
  have hx:Wx (st.ev x)=true:=h.1
  simp only [Lx,mF,Ca]
  split
  ·generalize hxv:st.ev x=xv at hx
   unfold Wx at hx
   split at hx
   ·rename_i fr τ z
    have Ajn:settle st (.at (.data fr τ z))=some (.at (.data fr τ z),st):=rfl
    rw [Ajn]
    simp only
    rw [gu (st:=⟨[],[]⟩) (st':=st) (v:= .at (.data fr τ z)) rfl]
    cases Ge ⟨[],[]⟩ e (.at (.data fr τ z)) with
    |none=>rfl
    |some p=>
     simp only
     rw [dW r (i+1) h.2]
     cases mF e (i+1) (r.map λp=>(p.1,st.ev p.2)) with
     |none=>rfl
     |some q=>rfl
   ·cases hx
  ·rfl
def rowOf (T:Tab) (t0:TypeId) (len:Nat) (parts:List (Nat×AV)) (dst:Nat):Option (AV×OB):=match ej T t0 with
 |some _=>none
 |none=>match T.elem t0 with
  |none=>none
  |some te=>match T.ty te with
   |none=>none
   |some e=>if parts.length=len/\len<=64/\e.size<=64/\dst<Bq then (mF e 0 parts).map λp=>(.at (.own dst 0 len), .arr ((T.tb||e.flat)&&p.1) (T.CG&&p.2.1) e te p.2.2) else none
theorem iB {st:St} {t0:TypeId} {len dst:Nat} {parts:Array (Nat×Operand)} (h:(parts.toList.all λp=>Wx (st.ev p.2))=true):
  Jl T st dst t0 len parts=(rowOf T t0 len (parts.toList.map λp=>(p.1,st.ev p.2)) dst).map λr=>(r.1,st.new dst r.2):=by
 unfold Jl rowOf
 cases ej T t0 with
 |some p=>
  obtain ⟨te,e⟩:=p
  simp only [Option.map_none]
  split
  ·rename_i x hp
   rw [hp,Jw,Aj] at h
   have hx:Wx (st.ev x)=true:=h.1
   unfold Wx at hx
   split at hx
   ·rename_i hv;simp only [hv]
   ·cases hx
  ·rfl
 |none=>
  simp only
  unfold Mu
  cases T.elem t0 with
  |none=>rfl
  |some te=>
   simp only
   cases T.ty te with
   |none=>rfl
   |some e=>
    simp only [Ck,Xw]
    split
    ·rw [dW _ 0 h]
     cases mF e 0 (parts.toList.map λp=>(p.1,st.ev p.2))<;>rfl
    ·rfl
theorem qU {t0:TypeId} {len dst:Nat} {parts:List (Nat×AV)} {r:AV×OB} (h:rowOf T t0 len parts dst=some r):sr dst r.1 r.2:=by
 unfold rowOf at h
 split at h
 ·cases h
 ·split at h
  ·cases h
  ·split at h
   ·cases h
   ·split at h
    ·rename_i e _ _
     cases hp:mF e 0 parts with
     |none=>rw [hp] at h;cases h
     |some p=>
      rw [hp] at h
      simp only [An,Aa] at h
      subst h
      exact ⟨λl hl=>by simpa [AV.refs,AC.refs] using hl,rfl,λl hl=>by simp only [AV.map,Cv];rw [Ai (Gv hl)],λl=>rfl⟩
    ·cases h
theorem DY {e:Nat} {t0:TypeId} {len:Nat} {parts:Array (Nat×Operand)} {ty:TypeId} {pos:String} {after:Array Edge} (_hl:sr d v b) (hn:Ix d t) (hx: ∀p∈parts.toList,(Js d v b t).ev p.2=t.ev p.2) (eo:e≠d)
  (hp:(parts.toList.all λp=>Wx (t.ev p.2))=true) (Ip:Ix e (Js d v b t)) {s':St} (he:Fm T Γ ops (Js d v b t) {dst:=some e,op:= .buildSlice t0 len parts,type:=ty,pos:=pos,after:=after,guard:=none} =some s'):
  ∃t',Fm T Γ ops t {dst:=some e,op:= .buildSlice t0 len parts,type:=ty,pos:=pos,after:=after,guard:=none} =some t'/\s'=Js d v b t'/\Ix d t':=by
 have Ajf:=Ip.back eo hn
 have FH:(parts.toList.all λp=>Wx ((Js d v b t).ev p.2))=true:=Bg.2 λp zq=>by rw [hx p zq];exact Bg.1 hp p zq
 have hm:(parts.toList.map λp=>(p.1,(Js d v b t).ev p.2))=parts.toList.map λp=>(p.1,t.ev p.2):=Hl λp zq=>by rw [hx p zq]
 unfold Fm at he⊢
 simp only [evalOp] at he⊢
 rw [iB FH,hm] at he
 rw [iB hp]
 cases hr:rowOf T t0 len (parts.toList.map λp=>(p.1,t.ev p.2)) e with
 |none=>rw [hr] at he;cases he
 |some r=>
  rw [hr] at he
  have hL:=qU hr
  simp only [An,Aa] at he
  rw [Ip.new] at he
  refine ⟨Js e r.1 r.2 t,by simp only [An];rw [Ajf.new],?_,hn.plus (Gv eo) (λh=>eo (hL.v1 _ h).symm) (by rw [hL.b1];simp)⟩
  rw [<-he,x7 (Gv eo)]
def evC:Operand->AV
 | .const c=>nt c
 |_=> .undef
theorem Aif {st:St} {x:Operand} (h:Wx (evC x)=true):st.ev x=evC x:=by
 cases x<;>first|rfl|cases h
def ff (T:Tab) (o:Oper):Option (Nat×AV×OB):=match o.guard with
 |some _=>none
 |none=>match o.dst with
  |none=>none
  |some d=>match o.op with
   | .buildSlice t0 len parts=>if (parts.toList.all λp=>Wx (evC p.2))=true then (rowOf T t0 len (parts.toList.map λp=>(p.1,evC p.2)) d).map λr=>(d,r.1,r.2) else none
   | .makeMap t0 none=>match T.mapOf t0 with
    |some τ=>if d<Bq then some (d, .at (.Ky d), .Wb τ λ_=>none) else none
    |none=>none
   |_=>none
theorem fg {o:Oper} {r:Nat×AV×OB} (h:ff T o=some r):o.dst=some r.1/\sr r.1 r.2.1 r.2.2/\ ∀st:St,Ix r.1 st->Fm T Γ ops st o=some (Js r.1 r.2.1 r.2.2 st):=by
 obtain ⟨dst,op,ty,pos,after,guard⟩:=o
 unfold ff at h
 cases guard with
 |some g=>cases h
 |none=>
  cases dst with
  |none=>cases h
  |some d=>
   cases op with
   |buildSlice t0 len parts=>
    simp only at h
    split at h
    ·rename_i hp
     cases hr:rowOf T t0 len (parts.toList.map λp=>(p.1,evC p.2)) d with
     |none=>rw [hr] at h;cases h
     |some q=>
      rw [hr] at h
      simp only [An,Aa] at h
      subst h
      refine ⟨rfl,qU hr,λst Pc=>?_⟩
      have LP: ∀p∈parts.toList,st.ev p.2=evC p.2:= λp zq=>Aif (Bg.1 hp p zq)
      have hm:(parts.toList.map λp=>(p.1,st.ev p.2))=parts.toList.map λp=>(p.1,evC p.2):=Hl λp zq=>by rw [LP p zq]
      have FH:(parts.toList.all λp=>Wx (st.ev p.2))=true:=Bg.2 λp zq=>by rw [LP p zq];exact Bg.1 hp p zq
      unfold Fm
      simp only [evalOp]
      rw [iB FH,hm,hr]
      simp only [An]
      rw [Pc.new]
    ·cases h
   |makeMap t0 hint=>
    cases hint with
    |some x=>cases h
    |none=>
     simp only at h
     split at h
     ·rename_i τ Ue
      split at h
      ·rename_i hd
       cases h
       refine ⟨rfl,⟨λl hl=>by simpa [AV.refs,AC.refs] using hl,rfl,λl hl=>by simp only [AV.map,Cv];rw [Ai (Gv hl)],λl=>rfl⟩,λst Pc=>?_⟩
       unfold Fm
       simp only [evalOp,Vk,Ue,Ab hd,An]
       rw [Pc.new]
      ·cases h
     ·cases h
   |_=>cases h
theorem AW {l:List Operand} (h: ∀x∈l,(Js d v b t).ev x=t.ev x):(l.all λx=>((Js d v b t).ev x).settled)=(l.map t.ev).all (·.settled):=by
 rw [List.all_map]
 induction l with
 |nil=>rfl
 |cons x r ih=>
  simp only [Jw,Function.comp]
  rw [h x (by simp),ih λy hy=>h y (by simp [hy])]
theorem AX {o:Oper} (hl:sr d v b) (hn:Ix d t) (hs:Xb Γ (Js d v b t) o=true) (hu:(jS o).all (jh d)=true) (eo:o.dst≠some d) {s':St} (he:Fm T Γ ops (Js d v b t) o=some s'):
  ∃t',Fm T Γ ops t o=some t'/\s'=Js d v b t'/\Ix d t'/\Xb Γ t o=true:=by
 obtain ⟨dst,op,ty,pos,after,guard⟩:=o
 unfold Xb at hs
 cases guard with
 |some g=>cases hs
 |none=>
  simp only at hs
  split at hs
  ·rename_i x
   have hx:=Zv (v:=v) (b:=b) (t:=t) hu x (by simp [jS])
   obtain ⟨t',h1,h2,h3⟩:=MQ hn hx eo he
   exact ⟨t',h1,h2,h3,rfl⟩
  ·rename_i t0 x
   have hx:=Zv (v:=v) (b:=b) (t:=t) hu x (by simp [jS])
   rw [hx] at hs
   split at hs
   ·rename_i l i hp
    obtain ⟨t',h1,h2,h3⟩:=MM hn hx eo hp he
    exact ⟨t',h1,h2,h3,by simp only [Xb,hp]⟩
   ·cases hs
  ·rename_i f args tys
   rw [Aj] at hs
   obtain ⟨kS,vJ⟩:=hs
   split at kS
   ·rename_i sp Pl
    have LP:=Zv (v:=v) (b:=b) (t:=t) (l:=args.toList) hu
    rw [AW LP] at vJ
    obtain ⟨t',h1,h2,h3⟩:=KR Pl hn (SZ hu) eo vJ he
    refine ⟨t',h1,h2,h3,?_⟩
    simp only [Xb,Pl,Kt]
    rw [List.all_map] at vJ
    exact vJ
   ·cases kS
  ·rename_i t0 m k x
   have hm:=Zv (v:=v) (b:=b) (t:=t) hu m (by simp [jS])
   have hk:=Zv (v:=v) (b:=b) (t:=t) hu k (by simp [jS])
   have hx:=Zv (v:=v) (b:=b) (t:=t) hu x (by simp [jS])
   rw [hm,hk,hx] at hs
   have hs0:=hs
   rw [Aj] at hs
   obtain ⟨t',h1,h2,h3⟩:=zv hn hm hk hx eo hs.2 he
   exact ⟨t',h1,h2,h3,hs0⟩
  ·rename_i t0 len parts
   rw [Aj] at hs
   obtain ⟨kS,vJ⟩:=hs
   cases dst with
   |none=>cases vJ
   |some e=>
    simp only at vJ
    have hed:e≠d:= λh=>eo (by rw [h])
    have ic:(parts.toList.map (λp=>p.2)).all (jh d)=true:=hu
    have LP:=Zv (v:=v) (b:=b) (t:=t) ic
    have hx: ∀p∈parts.toList,(Js d v b t).ev p.2=t.ev p.2:= λp hp=>LP p.2 (Be.2 ⟨p,hp,rfl⟩)
    have hp:(parts.toList.all λp=>Wx (t.ev p.2))=true:=Bg.2 λp hp=>by rw [<-hx p hp];exact Bg.1 kS p hp
    have Ip:=ub vJ
    obtain ⟨t',h1,h2,h3⟩:=DY hl hn hx hed hp Ip he
    refine ⟨t',h1,h2,h3,?_⟩
    simp only [Xb,hp,Kt]
    exact UK (Ip.back hed hn)
  ·cases hs
def yH:List (Nat×AV×OB)->St->St->Prop
 | [],s,t=>s=t
 |q::Q,s,t=>Ix q.1 t/\yH Q s (Js q.1 q.2.1 q.2.2 t)
theorem xX {o:Oper} : ∀(Q:List (Nat×AV×OB)) (s t s':St),yH Q s t->(∀q∈Q,sr q.1 q.2.1 q.2.2/\(jS o).all (jh q.1)=true/\o.dst≠some q.1)->Xb Γ s o=true->Fm T Γ ops s o=some s'->
  ∃t',Fm T Γ ops t o=some t'/\yH Q s' t'/\Xb Γ t o=true
 | [],s,t,s',h,_,hs,he=>by
  have h:s=t:=h
  subst h
  exact ⟨s',he,rfl,hs⟩
 |q::Q,s,t,s',⟨h1,h2⟩,hq,hs,he=>by
  obtain ⟨u',e1,e2,e3⟩:=xX Q s _ s' h2 (λp hp=>hq p (As _ hp)) hs he
  obtain ⟨l1,l2,l3⟩:=hq q (by simp)
  obtain ⟨t',f1,f2,f3,f4⟩:=AX l1 h1 e3 l2 l3 e1
  exact ⟨t',f1,⟨f3,by rw [<-f2];exact e2⟩,f4⟩
theorem xY {q:Nat×AV×OB} : ∀(Q1:List (Nat×AV×OB)) {Q2:List (Nat×AV×OB)} {s t:St},yH (Q1++q::Q2) s t->(∀p∈Q1++q::Q2,sr p.1 p.2.1 p.2.2)->(∀p∈Q1,p.1≠q.1)->
  Ix q.1 t/\yH (Q1++Q2) s (Js q.1 q.2.1 q.2.2 t)
 | [],Q2,s,t,h,_,_=>h
 |p::Q1,Q2,s,t,⟨h1,h2⟩,hL,Ip=>by
  have hpq:=Ip p (by simp)
  have hLp:=hL p (by simp)
  have hLq:=hL q (by simp)
  obtain ⟨g1,g2⟩:=xY Q1 h2 (λr hr=>hL r (As _ hr)) λr hr=>Ip r (As _ hr)
  refine ⟨g1.back (Gv hpq) h1,h1.plus hpq (λh=>hpq (hLq.v1 _ h)) (by rw [hLq.b1];simp),?_⟩
  show yH (Q1++Q2) s (Js p.1 p.2.1 p.2.2 (Js q.1 q.2.1 q.2.2 t))
  rw [x7 (Gv hpq)]
  exact g2
def mP (ops:Array Oper):Nat->Nat->Nat->Bool
 |0,_,_=>false
 |f+1,i,a=>Region.waitsFor .any ops i a||(List.range ops.size).any λk=>Region.waitsFor .any ops i k&&mP ops f k a
theorem lP {Ah:Array Bool} (hc:Un ops Ah) {a:Nat} : ∀(f i:Nat),(∀x,Region.waitsFor .any ops i x=true->Ah.getD x false=true)->mP ops f i a=true->Ah.getD a false=true
 |0,_,_,h=>by cases h
 |f+1,i,hi,h=>by
  simp only [mP,Ks,Eo,Aj] at h
  rcases h with h|⟨k,_,h1,h2⟩
  ·exact hi a h
  ·exact lP hc f k (λx hx=>hc k x (hi k h1) hx) h2
def MW (P:List (Nat×Nat×AV×OB)) (Γ:Env) (ops:Array Oper) (st:St) (o:Oper) (i:Nat):Bool:=
 (P.all λa=>mP ops 5 i a.1)||(Xb Γ st o&&P.all λa=>mP ops 5 i a.1||((jS o).all (jh a.2.1)&&(match o.dst with
  |some e=>!Nat.beq e a.2.1
  |none=>true)))
def Ai9 (T:Tab) (Γ:Env) (ops:Array Oper) (P:List (Nat×Nat×AV×OB)) (K:St->Prop):Nat->Array Bool->St->Prop
 |0,Ah,st=>Region.ready .any ops Ah= []/\K st
 |f+1,Ah,st=>Region.ready .any ops Ah≠ []/\ ∀i∈Region.ready .any ops Ah,∃o st',ops[i]?=some o/\MW P Γ ops st o i=true/\Fm T Γ ops st o=some st'/\Ai9 T Γ ops P K f (Ah.setIfInBounds i true) st'
structure XF (lc la:Array Bool) (Q:List Nat):Prop where
 size:la.size=lc.size
 off: ∀k∈Q,k<la.size/\la.getD k false=false/\lc.getD k false=true
 same: ∀k,k∉Q->la.getD k false=lc.getD k false
theorem XF.ready {lc la:Array Bool} {Q:List Nat} (h:XF lc la Q) {i:Nat} (hi:i∈Region.ready .any ops la) (hn:i∉Q):i∈Region.ready .any ops lc:=by
 obtain ⟨h1,o,ho,Ly⟩:=mem_ready.1 hi
 have Lg:i<la.size:=by
  rcases Nat.lt_or_ge i la.size with h'|h'
  ·exact h'
  ·simp [Array.getElem?_eq_none h'] at h1
 have h2:=getD_both h1
 rw [h.same i hn] at h2
 refine mem_ready.2 ⟨getD_in (by rw [<-h.size];exact Lg) h2,o,ho,λe he hb=>?_⟩
 have h3:=Ly e he hb
 by_cases hq:e.on∈Q
 ·exact (h.off _ hq).2.2
 ·rw [<-h.same _ hq];exact h3
theorem XF.nil {lc la:Array Bool} (h:XF lc la []):la=lc:=by
 refine Array.ext h.size λk h1 h2=>?_
 have:=h.same k (by simp)
 simpa [h1,h2] using this
theorem XF.one {lc la:Array Bool} {Q Q':List Nat} {i:Nat} (h:XF lc la Q) (hi:i∈Q) (hs: ∀k,k∈Q'↔k∈Q/\k≠i):XF lc (la.setIfInBounds i true) Q':=by
 refine ⟨by simp [h.size],λk hk=>?_,λk hk=>?_⟩
 ·obtain ⟨h1,h2⟩:=(hs k).1 hk
  obtain ⟨g1,g2,g3⟩:=h.off k h1
  exact ⟨by simpa using g1,by rw [getD_set_ne false (Gv h2)];exact g2,g3⟩
 ·by_cases e:i=k
  ·subst e
   obtain ⟨g1,g2,g3⟩:=h.off i hi
   rw [g3]
   simp [g1]
  ·rw [getD_set_ne false e]
   exact h.same k λhq=>hk ((hs k).2 ⟨hq,Gv e⟩)
theorem XF.both {lc la:Array Bool} {Q:List Nat} {i:Nat} (h:XF lc la Q) (hi:i∉Q):XF (lc.setIfInBounds i true) (la.setIfInBounds i true) Q:=by
 refine ⟨by simp [h.size],λk hk=>?_,λk hk=>?_⟩
 ·obtain ⟨g1,g2,g3⟩:=h.off k hk
  have Ip:i≠k:= λe=>hi (by rw [e];exact hk)
  exact ⟨by simpa using g1,by rw [getD_set_ne false Ip];exact g2,by rw [getD_set_ne false Ip];exact g3⟩
 ·by_cases e:i=k
  ·subst e
   have hs:=h.same i hi
   have hz:=h.size
   by_cases hl:i<la.size
   ·simp [hl,hz▸hl]
   ·have Ll: ¬i<lc.size:=by omega
    simp [hl,Ll]
  ·rw [getD_set_ne false e,getD_set_ne false e];exact h.same k hk
theorem MT {dst:Option Tmp} {d:Nat} (h:(match dst with
  |some e=>!Nat.beq e d
  |none=>true)=true):dst≠some d:= λe=>by
 subst e
 simp at h
theorem SW {P:List (Nat×Nat×AV×OB)} {K:St->Prop} (hP: ∀a∈P,∃o,ops[a.1]?=some o/\ff T o=some a.2):
  ∀(n f:Nat) (Q:List (Nat×Nat×AV×OB)) (lc la:Array Bool) (s t:St),n=f+Q.length->Ai9 T Γ ops P K f lc s->yH (Q.map (·.2)) s t->XF lc la (Q.map (·.1))->(∀a∈Q,a∈P)->
   (Q.Pairwise λa c=>a.2.1≠c.2.1/\a.1≠c.1)->Un ops la->(∀a∈Q,∀x,Region.waitsFor .any ops a.1 x=true->la.getD x false=true)->anyS T Γ ops K n la t:=by
 intro n
 induction n with
 |zero=>
  intro f Q lc la s t hn hC hp hb hQ hpw Rn hw
  have hf:f=0:=by omega
  have hq:Q= []:=Cp (by omega)
  subst hf hq
  have hp:s=t:=hp
  subst hp
  rw [hb.nil]
  exact hC
 |succ n ih=>
  intro f Q lc la s t hn hC hp hb hQ hpw Rn hw
  refine ⟨?_,λi hi=>?_⟩
  ·cases Q with
   |nil=>
    rw [hb.nil]
    cases f with
    |zero=>simp at hn
    |succ f=>exact hC.1
   |cons a Q=>
    obtain ⟨o,ho,_⟩:=hP a (hQ a (by simp))
    obtain ⟨g1,g2,_⟩:=hb.off a.1 (by simp)
    have:a.1∈Region.ready .any ops la:=mem_ready.2 ⟨getD_in g1 g2,o,ho,λe he hbd=>hw a (by simp) e.on (by
     unfold Region.waitsFor
     rw [ho]
     exact Array.any_eq_true'.2 ⟨e,he,by simp [hbd]⟩)⟩
    intro e
    rw [e] at this
    cases this
  ·by_cases hiQ:i∈Q.map (·.1)
   ·obtain ⟨a,ha,rfl⟩:=Be.1 hiQ
    obtain ⟨Q1,Q2,rfl⟩:=List.append_of_mem ha
    obtain ⟨o,ho,hal⟩:=hP a (hQ a ha)
    obtain ⟨_,_,Pc⟩:=fg (Γ:=Γ) (ops:=ops) hal
    have ZX:=dS.1 hpw
    have Ao7:=List.pairwise_cons.1 ZX.2.1
    rw [Ir,Ca] at hp
    have hL: ∀p∈Q1.map (·.2)++a.2::Q2.map (·.2),sr p.1 p.2.1 p.2.2:= λp zq=>by
     have:p∈(Q1++a::Q2).map (·.2):=by rw [Ir,Ca];exact zq
     obtain ⟨c,hc,rfl⟩:=Be.1 this
     obtain ⟨o',_,At0⟩:=hP c (hQ c hc)
     exact (fg (Γ:=Γ) (ops:=ops) At0).2.1
    obtain ⟨p1,p2⟩:=xY _ hp hL λp zq=>by
     obtain ⟨c,hc,rfl⟩:=Be.1 zq
     exact (ZX.2.2 c hc a (by simp)).1
    refine ⟨o,_,ho,Pc t p1,ih f (Q1++Q2) lc _ s _ ?_ hC (by rw [Ir];exact p2) (hb.one hiQ λk=>?_) (λc hc=>hQ c ?_) ?_ (Rn.set hi) λc hc x hx=>getD_set_true (hw c ?_ x hx)⟩
    ·simp only [Ax,Aw] at hn⊢;omega
    ·simp only [Ir,Ca,Az,Bb]
     constructor
     ·intro h
      rcases h with h|h
      ·obtain ⟨c,hc,rfl⟩:=Be.1 h
       exact ⟨.inl h,(ZX.2.2 c hc a (by simp)).2⟩
      ·obtain ⟨c,hc,rfl⟩:=Be.1 h
       exact ⟨.inr (.inr h),Gv (Ao7.1 c hc).2⟩
     ·rintro ⟨h|h|h,Ip⟩
      ·exact .inl h
      ·exact absurd h Ip
      ·exact .inr h
    ·rcases Az.1 hc with hc|hc
     ·exact Bj _ hc
     ·exact Cn _ (As _ hc)
    ·exact dS.2 ⟨ZX.1,Ao7.2,λc hc e he=>ZX.2.2 c hc e (As _ he)⟩
    ·rcases Az.1 hc with hc|hc
     ·exact Bj _ hc
     ·exact Cn _ (As _ hc)
   ·have hic:=hb.ready hi hiQ
    cases f with
    |zero=>
     rw [hC.1] at hic
     cases hic
    |succ f=>
     obtain ⟨o,s',ho,mW,he,bU⟩:=hC.2 i hic
     have Aeo: ∀a∈Q,mP ops 5 i a.1=false:= λa ha=>by
      cases hwt:mP ops 5 i a.1 with
      |false=>rfl
      |true=>
       have h1:=lP Rn _ i (λx hx=>cX hi hx) hwt
       rw [(hb.off a.1 (Be.2 ⟨a,ha,rfl⟩)).2.1] at h1
       cases h1
     have key: ∃t',Fm T Γ ops t o=some t'/\yH (Q.map (·.2)) s' t':=by
      unfold MW at mW
      rw [Ks,Aj] at mW
      rcases mW with mW|⟨h1,h2⟩
      ·cases Q with
       |nil=>
        have hp:s=t:=hp
        subst hp
        exact ⟨s',he,rfl⟩
       |cons a Q=>
        have:=Bg.1 mW a (hQ a (by simp))
        rw [Aeo a (by simp)] at this
        cases this
      ·obtain ⟨t',g1,g2,_⟩:=xX (T:=T) (ops:=ops) _ s t s' hp (λq hq=>by
        obtain ⟨a,ha,rfl⟩:=Be.1 hq
        obtain ⟨o',_,hal⟩:=hP a (hQ a ha)
        have h3:=Bg.1 h2 a (hQ a ha)
        rw [Aeo a ha,bD,Aj] at h3
        exact ⟨(fg (Γ:=Γ) (ops:=ops) hal).2.1,h3.1,MT h3.2⟩) h1 he
       exact ⟨t',g1,g2⟩
     obtain ⟨t',g1,g2⟩:=key
     exact ⟨o,t',ho,g1,ih f Q _ _ s' t' (by omega) bU g2 (hb.both hiQ) hQ hpw (Rn.set hi) λc hc x hx=>getD_set_true (hw c hc x hx)⟩
def Zu (T:Tab) (ops:Array Oper) (Ah:Array Bool):List (Nat×Nat×AV×OB):=(Region.ready .any ops Ah).filterMap λi=>((ops[i]?).bind (ff T)).map λr=>(i,r)
theorem yM {Ah:Array Bool} {a:Nat×Nat×AV×OB} (h:a∈Zu T ops Ah):a.1∈Region.ready .any ops Ah/\ ∃o,ops[a.1]?=some o/\ff T o=some a.2:=by
 unfold Zu at h
 obtain ⟨i,hi,he⟩:=List.mem_filterMap.1 h
 cases ho:ops[i]? with
 |none=>rw [ho] at he;cases he
 |some o=>
  rw [ho] at he
  simp only [Fc,Option.map_eq_some_iff] at he
  obtain ⟨r,h1,rfl⟩:=he
  exact ⟨hi,o,ho,h1⟩
theorem Adz {Ah:Array Bool} {Q:List Nat} (h: ∀i∈Q,i∈Region.ready .any ops Ah):XF (Fa Q Ah) Ah Q:=by
 have hr: ∀i∈Q,i<Ah.size/\Ah.getD i false=false:= λi hi=>by
  have h1:=(mem_ready.1 (h i hi)).1
  refine ⟨?_,getD_both h1⟩
  rcases Nat.lt_or_ge i Ah.size with h'|h'
  ·exact h'
  ·simp [Array.getElem?_eq_none h'] at h1
 exact ⟨(Ws Q Ah).symm,λk hk=>⟨(hr k hk).1,(hr k hk).2,fD Q Ah k hk (hr k hk).1⟩,λk hk=>(dB Q Ah k hk).symm⟩
theorem HQ: ∀(Q:List (Nat×Nat×AV×OB)) (t s:St),(∀a∈Q,∃o,ops[a.1]?=some o/\ff T o=some a.2)->(∀a∈Q,Ix a.2.1 t)->(Q.Pairwise λa c=>a.2.1≠c.2.1)->Ni T Γ ops (Q.map (·.1)) t=some s->yH (Q.map (·.2)) s t
 | [],t,s,_,_,_,h=>by
  have h:some t=some s:=h
  exact (Bd h).symm
 |a::Q,t,s,hQ,hn,hp,h=>by
  obtain ⟨o,ho,hal⟩:=hQ a (by simp)
  obtain ⟨_,hL,Pc⟩:=fg (Γ:=Γ) (ops:=ops) hal
  obtain ⟨xx,RD⟩:=List.pairwise_cons.1 hp
  simp only [Ca,Ni,ho] at h
  rw [Pc t (hn a (by simp))] at h
  refine ⟨hn a (by simp),HQ Q _ s (λc hc=>hQ c (As _ hc)) (λc hc=>?_) RD h⟩
  exact (hn c (As _ hc)).plus (Gv (xx c hc)) (λh=>xx c hc (hL.v1 _ h).symm) (by rw [hL.b1];simp)
end
end Go.Proofs.Ytkkdpknjohcekaa
