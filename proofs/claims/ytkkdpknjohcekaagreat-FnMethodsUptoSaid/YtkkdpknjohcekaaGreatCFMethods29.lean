/-
  Part 30 of the proof that the statement FnMethods holds.
-/
import Derived.Test.YtkkdpknjohcekaaGreatCFMethods28
namespace Go.Proofs.YtkkdpknjohcekaaGreat
open Go.RowKit
def Kc (d:Nat) (v:AV) (b:OB) (st:St):St:= {tmps:=Tk st.tmps d v,heap:=Pn st.heap d b}
def pU (d:Nat) (st:St):Bool:=(st.get d).refs.isEmpty&&((st.tmps.all λv=>!v.refs.contains d)&&st.heap.all λp=>!Nat.beq p.1 d&&!p.2.refs.contains d)
structure Jk (d:Nat) (st:St):Prop where
 own:(st.get d).refs= []
 tmps: ∀v∈st.tmps,d∉v.refs
 heap: ∀p∈st.heap,p.1≠d/\d∉p.2.refs
theorem uq {d:Nat} {st:St} (h:pU d st=true):Jk d st:=by
 unfold pU at h
 rw [Ah,Ah,Bc,Bc] at h
 obtain ⟨h0,h⟩:=h
 refine ⟨List.isEmpty_iff.1 h0,λv hv=>?_,λp hp=>?_⟩
 ·have:=h.1 v hv
  intro hd
  rw [Ko.2 hd] at this
  cases this
 ·have:=h.2 p hp
  rw [Ah] at this
  refine ⟨λe=>?_,λhd=>?_⟩
  ·have h1:=this.1
   rw [e,Nat.beq_refl] at h1
   cases h1
  ·have h1:=this.2
   rw [Ko.2 hd] at h1
   cases h1
theorem VB {d:Nat} {st:St} (h:Jk d st):pU d st=true:=by
 unfold pU
 rw [Ah,Ah,Bc,Bc]
 refine ⟨by rw [h.own];rfl,λv hv=>?_,λp hp=>?_⟩
 ·rw [Fm,<-Fc,Ko];exact h.tmps v hv
 ·rw [Ah]
  refine ⟨?_,?_⟩
  ·rw [Fm,<-Fc]
   exact λe=>(h.heap p hp).1 (Kp e)
  ·rw [Fm,<-Fc,Ko];exact (h.heap p hp).2
structure sF (d:Nat) (v:AV) (b:OB):Prop where
 v1: ∀l,l∈v.refs->l=d
 b1:b.refs= []
 v2: ∀l,l≠d->v.map (Cs l)=v
 b2: ∀l,b.map (Cs l)=b
theorem er {α:Type} : ∀(xs:List α) (d t:Nat) (v x:α),d≠t->(Tk xs d v).getD t x=xs.getD t x
 | [],_,_,_,_,_=>rfl
 |y::r,0,0,_,_,h=>absurd rfl h
 |y::r,0,t+1,_,_,_=>by simp [Tk]
 |y::r,d+1,0,_,_,_=>by simp [Tk]
 |y::r,d+1,t+1,v,x,h=>by simpa [Tk] using er r d t v x (by omega)
theorem qg {α:Type} : ∀(xs:List α) (d e:Nat) (v w:α),d≠e->Tk (Tk xs d v) e w=Tk (Tk xs e w) d v
 | [],_,_,_,_,_=>rfl
 |y::r,0,0,_,_,h=>absurd rfl h
 |y::r,0,e+1,_,_,_=>rfl
 |y::r,d+1,0,_,_,_=>rfl
 |y::r,d+1,e+1,v,w,h=>by simp only [Tk];rw [qg r d e v w (by omega)]
theorem xJ: ∀(H:List (Nat×OB)) (d l:Nat) (b:OB),d≠l->Av (Pn H d b) l=Av H l
 | [],d,l,b,h=>by simp [Pn,Av,h]
 |(k,c)::r,d,l,b,h=>by
  simp only [Pn]
  split
  ·simp only [Av];rw [Ai h]
  ·simp only [Av]
   split
   ·rfl
   ·exact xJ r d l b h
theorem xS: ∀(H:List (Nat×OB)) (d e:Nat) (b c:OB),d≠e->Pn (Pn H d b) e c=Pn (Pn H e c) d b
 | [],d,e,b,c,h=>by
  simp only [Pn]
  by_cases h1:e<d
  ·rw [Ab h1,Ai (by omega)]
  ·rw [Ai h1,Ab (by omega)]
 |(k,a)::r,d,e,b,c,h=>by
  simp only [Pn]
  by_cases h1:d<k<;>by_cases h2:e<k
  ·rw [Ab h1,Ab h2]
   simp only [Pn]
   by_cases h3:e<d
   ·rw [Ab h3,Ai (by omega),Ab h1]
   ·rw [Ai h3,Ab h2,Ab (by omega)]
  ·rw [Ab h1,Ai h2]
   simp only [Pn]
   rw [Ai (by omega),Ai h2,Ab h1]
  ·rw [Ai h1,Ab h2]
   simp only [Pn]
   rw [Ab h2,Ai (by omega),Ai h1]
  ·rw [Ai h1,Ai h2]
   simp only [Pn]
   rw [Ai h1,Ai h2,xS r d e b c h]
theorem yQ: ∀(H:List (Nat×OB)) (d l:Nat) (b c:OB),d≠l->aF (Pn H d b) l c=Pn (aF H l c) d b
 | [],d,l,b,c,h=>by simp [Pn,aF,h]
 |(k,a)::r,d,l,b,c,h=>by
  simp only [Pn,aF]
  by_cases h1:d<k<;>by_cases h2:k=l
  ·rw [Ab h1,Ab h2]
   simp only [aF,Pn]
   rw [Ai h,Ab h2,Ab h1]
  ·rw [Ab h1,Ai h2]
   simp only [aF,Pn]
   rw [Ai h,Ai h2,Ab h1]
  ·rw [Ai h1,Ab h2]
   simp only [aF,Pn]
   rw [Ab h2,Ai h1]
  ·rw [Ai h1,Ai h2]
   simp only [aF,Pn]
   rw [Ai h2,Ai h1,yQ r d l b c h]
theorem qL {l:Nat} : ∀ {c:AC},l∉c.refs->Cs l c=c:=by
 intro c h
 cases c<;>simp only [Cs]<;>simp only [AC.refs,Ad] at h
 case clo f Ev=>rw [Ai (by simpa using h)]
 all_goals (first|rfl|rw [Ai (Hv h)])
theorem bf {l:Nat} : ∀ {cs:List AC},l∉cs.flatMap AC.refs->cs.map (Cs l)=cs
 | [],_=>rfl
 |c::r,h=>by
  rw [Wj,Ba] at h
  rw [Bz,qL (λhh=>h (.inl hh)),bf (λhh=>h (.inr hh))]
theorem FM {l:Nat} : ∀ {v:AV},l∉v.refs->v.map (Cs l)=v
 | .at a,h=>by simp only [AV.map];rw [qL h]
 | .agg cs,h=>by simp only [AV.map];rw [bf h]
 | .bH _ _ _,_=>rfl
 | .Nr ps,h=>by
  simp only [AV.map]
  congr 1
  simp only [AV.refs] at h
  induction ps with
  |nil=>rfl
  |cons p r ih=>
   rw [Wj,Ba] at h
   rw [Bz,bf (λhh=>h (.inl hh)),ih (λhh=>h (.inr hh))]
theorem FN {l:Nat} : ∀ {b:OB},l∉b.refs->b.map (Cs l)=b
 | .arr _ _ _ _ _,_=>rfl
 | .Hs _ _ _,_=>rfl
 | .var _ vs,h=>by simp only [OB.map];rw [bf h]
 | .Bu _ _ _ _ _,_=>rfl
 | .Wi _ _,_=>rfl
theorem EZ {l:Nat} : ∀ {H:List (Nat×OB)},(∀p∈H,p.1≠l)->aM H l=H
 | [],_=>rfl
 |(k,b)::r,h=>by
  simp only [aM]
  rw [Ai (h (k,b) (by simp)),EZ λp hp=>h p (by simp [hp])]
theorem Jk.forget {l:Nat} {st:St} (h:Jk l st):st.forget l=st:=by
 have e1:st.tmps.map (λv=>v.map (Cs l))=st.tmps:=(Ft λv hv=>FM (h.tmps v hv)).trans (List.map_id _)
 have e2:st.heap.map (λp=>(p.1,p.2.map (Cs l)))=st.heap:=(Ft λp hp=>by rw [FN (h.heap p hp).2];rfl).trans (List.map_id _)
 unfold St.forget St.Lx
 simp only [e1,e2]
 rw [EZ λp hp=>(h.heap p hp).1]
theorem Jk.new {l:Nat} {st:St} (h:Jk l st) (b:OB) (v:AV):(st.new l b).put (some l) v=Kc l v b st:=by
 unfold St.new
 rw [h.forget]
 rfl
theorem ui {α:Type} : ∀ {xs:List α} {d:Nat} {v x:α},x∈Tk xs d v->x∈xs\/x=v
 | [],_,_,_,h=>by cases h
 |y::r,0,v,x,h=>by
  rcases Bb.1 h with h|h
  ·exact .inr h
  ·exact .inl (Ap _ h)
 |y::r,d+1,v,x,h=>by
  rcases Bb.1 h with h|h
  ·exact .inl (by rw [h];simp)
  ·exact (ui h).imp (Ap _) id
theorem HB: ∀ {H:List (Nat×OB)} {d:Nat} {b:OB} {p:Nat×OB},p∈Pn H d b->p∈H\/p=(d,b)
 | [],d,b,p,h=> .inr (by simpa [Pn] using h)
 |(k,c)::r,d,b,p,h=>by
  simp only [Pn] at h
  split at h
  ·rcases Bb.1 h with h|h
   ·exact .inr h
   ·exact .inl h
  ·rcases Bb.1 h with h|h
   ·exact .inl (by rw [h];simp)
   ·exact (HB h).imp (Ap _) id
theorem Aec {d:Nat} {v:AV} {b:OB} {st:St} {x:Operand} (h:x≠ .tmp d):(Kc d v b st).ev x=st.ev x:=by
 cases x with
 |tmp t=>exact er _ _ _ _ _ (λe=>h (by rw [e]))
 |_=>rfl
theorem QU {d l:Nat} {v:AV} {b:OB} {st:St} (h:d≠l):(Kc d v b st).at l=st.at l:=xJ _ _ _ _ h
theorem ZA {d e:Nat} {v u:AV} {b:OB} {st:St} (h:d≠e):(Kc d v b st).put (some e) u=Kc d v b (st.put (some e) u):=by
 unfold Kc St.put
 simp only
 rw [qg _ _ _ _ _ h]
theorem TM {d l:Nat} {v:AV} {b c:OB} {st:St} (h:d≠l):(Kc d v b st).Kx l c=Kc d v b (st.Kx l c):=by
 unfold Kc St.Kx
 simp only
 rw [yQ _ _ _ _ _ h]
theorem xq {d e:Nat} {v u:AV} {b c:OB} {st:St} (h:d≠e):Kc e u c (Kc d v b st)=Kc d v b (Kc e u c st):=by
 unfold Kc
 rw [qg _ _ _ _ _ h,xS _ _ _ _ _ h]
theorem Jk.put {d:Nat} {st:St} {e:Nat} {u:AV} (h:Jk d st) (hde:e≠d) (hu:d∉u.refs):Jk d (st.put (some e) u):=
 ⟨by show (List.getD (Tk st.tmps e u) d .undef).refs= [];rw [er _ _ _ _ _ hde];exact h.own,λv hv=>(ui hv).elim (h.tmps v) λe=>by rw [e];exact hu,h.heap⟩
theorem Jk.plus {d e:Nat} {u:AV} {c:OB} {st:St} (h:Jk d st) (hde:d≠e) (hu:d∉u.refs) (hc:d∉c.refs):Jk d (Kc e u c st):=
 ⟨by show (List.getD (Tk st.tmps e u) d .undef).refs= [];rw [er _ _ _ _ _ (Hv hde)];exact h.own,λv hv=>(ui hv).elim (h.tmps v) λe=>by rw [e];exact hu,λp hp=>(HB hp).elim (h.heap p) λe'=>by rw [e'];exact ⟨Hv hde,hc⟩⟩
theorem Jk.Aku {d e:Nat} {u:AV} {c:OB} {st:St} (h:Jk d (Kc e u c st)): ∀p∈st.heap,p.1≠d/\d∉p.2.refs:= λp hp=>h.heap p (by
 show p∈Pn st.heap e c
 generalize st.heap=H at hp
 induction H with
 |nil=>cases hp
 |cons q r ih=>
  obtain ⟨k,a⟩:=q
  simp only [Pn]
  split
  ·exact Ap _ hp
  ·rcases Bb.1 hp with hp|hp
   ·rw [hp];simp
   ·exact Ap _ (ih hp))
theorem se {st st':St} : ∀(τ:Ty) (cs:List AC),cs.all (·.settled)=true->Ge st' τ cs=Ge st τ cs:=by
 intro τ
 induction τ with
 |unit=>intro cs _;cases cs<;>rfl
 |pair a r iC iw=>
  intro cs h
  simp only [Ge]
  rw [Bc] at h
  rw [iC _ (Bc.2 λc hc=>h c (De hc)),iw _ (Bc.2 λc hc=>h c (dU hc))]
 |_=>
  intro cs h
  rcases cs with _|⟨c,_|⟨c',cs⟩⟩
  ·rfl
  ·simp only [Jl,List.all_nil,Bool.and_true] at h
   simp only [Ge]
   exact bn h
  ·rfl
theorem gy {st st':St} {τ:Ty} {v:AV} (h:v.settled=true):Gt st' τ v=Gt st τ v:=by
 cases v with
 | «at»a=>
  have ha:a.settled=true:=h
  cases a<;>simp only [AC.settled,Dh] at ha
  all_goals
   simp only [Gt]
   rw [Rg rfl,Rg rfl]
   rw [bn (st:=st) (st':=st') rfl]
 |agg cs=>simp only [Gt];rw [se _ _ h]
 |bH _ _ _=>rfl
 |Nr _=>rfl
theorem kd {st st':St} : ∀(τ:Ty) (vs:List AV),vs.all (·.settled)=true->Eg st' τ vs=Eg st τ vs
 | .pair a r,v::vs,h=>by
  rw [Jl,Ah] at h
  simp only [Eg]
  rw [gy (st:=st) (st':=st') h.1,kd r vs h.2]
 | .pair _ _,[],_=>rfl
 | .unit,[],_=>rfl
 | .unit,_::_,_=>rfl
 | .int _,vs,_=>by cases vs<;>rfl
 | .bool,vs,_=>by cases vs<;>rfl
 | .str,vs,_=>by cases vs<;>rfl
 | .slice _,vs,_=>by cases vs<;>rfl
 | .oslice _,vs,_=>by cases vs<;>rfl
 | .ptr _,vs,_=>by cases vs<;>rfl
 | .optr _,vs,_=>by cases vs<;>rfl
 | .smap _,vs,_=>by cases vs<;>rfl
 | .clo _ _,vs,_=>by cases vs<;>rfl
def Xf:AV->Bool
 | .at (.data _ _ _)=>true
 |_=>false
def kb (o:Oper):List Operand:=match o.op with
 | .move x=> [x]
 | .load _ x=> [x]
 | .call {callee:= .value (.func _),args, .. } =>args.toList
 | .insert _ m k x=> [m,k,x]
 | .buildSlice _ _ parts=>parts.toList.map (·.2)
 |_=> []
def jx (d:Nat):Operand->Bool
 | .tmp t=>!Nat.beq t d
 |_=>true
theorem VD {d:Nat} {x:Operand} (h:jx d x=true):x≠ .tmp d:= λe=>by
 subst e
 simp [jx] at h
def Xj (Γ:Env) (st:St) (o:Oper):Bool:=match o.guard with
 |some _=>false
 |none=>match o.op with
  | .move _=>true
  | .load _ x=>(match st.ev x with
   | .at (.Ii _ _)=>true
   |_=>false)
  | .call {callee:= .value (.func f),args, .. } =>(match Γ f with
   |some (.q _)=>true
   |_=>false)&&args.toList.all λx=>(st.ev x).settled
  | .insert _ m k x=>(match st.ev m with
   | .at (.Lk _)=>true
   |_=>false)&&Xf (st.ev k)&&(st.ev x).settled
  | .buildSlice _ _ parts=>(parts.toList.all λp=>Xf (st.ev p.2))&&(match o.dst with
   |some e=>pU e st
   |none=>false)
  |_=>false
theorem Jk.ev {d:Nat} {st:St} (h:Jk d st) (x:Operand):d∉(st.ev x).refs:=by
 cases x with
 |tmp t=>
  simp only [St.ev,St.get]
  rw [Ak]
  by_cases hl:t<st.tmps.length
  ·rw [Ac hl];exact h.tmps _ (Am hl)
  ·rw [Ei (Nat.le_of_not_lt hl)];simp [AV.refs,AC.refs]
 |const c=>
  simp only [St.ev]
  unfold nA
  split<;>simp [AV.refs,AC.refs]
 |func f=>simp [St.ev,AV.refs,AC.refs]
 |_=>simp [St.ev,AV.refs,AC.refs]
theorem FX: ∀ {H:List (Nat×OB)} {l:Nat} {b:OB},Av H l=some b->(l,b)∈H
 |(k,c)::r,l,b,h=>by
  simp only [Av] at h
  split at h
  ·rename_i e;subst e;cases h;simp
  ·exact Ap _ (FX h)
section
variable {T:Tab} {Γ:Env} {ops:Array Oper} {d:Nat} {v:AV} {b:OB} {t:St}
theorem yy {e:Option Tmp} (h:e≠some d) (hn:Jk d t) {y:AV} (hy:d∉y.refs):(Kc d v b t).put e y=Kc d v b (t.put e y)/\Jk d (t.put e y):=by
 cases e with
 |none=>exact ⟨rfl,hn⟩
 |some k=>exact ⟨ZA (λe=>h (by rw [e])),hn.put (λe=>h (by rw [e])) hy⟩
theorem jD {o:Oper} (hg:o.guard=none) (eA:o.dst≠some d) (hn:Jk d t) {q:Option AV} (h1:evalOp T Γ (Kc d v b t) o=q.map λy=>(y,Kc d v b t)) (h2:evalOp T Γ t o=q.map λy=>(y,t)) (hq: ∀y,q=some y->d∉y.refs) {s':St}
  (he:Fz T Γ ops (Kc d v b t) o=some s'): ∃t',Fz T Γ ops t o=some t'/\s'=Kc d v b t'/\Jk d t':=by
 unfold Fz at he⊢
 rw [hg] at he⊢
 simp only at he⊢
 rw [h1] at he
 cases q with
 |none=>cases he
 |some y=>
  obtain ⟨p1,p2⟩:=yy (v:=v) (b:=b) eA hn (hq y rfl)
  refine ⟨_,by rw [h2];rfl,?_,p2⟩
  simp only [An,Aa] at he
  rw [<-he,p1]
theorem a5 {l:List Operand} (hu:l.all (jx d)=true): ∀x∈l,(Kc d v b t).ev x=t.ev x:= λx hx=>Aec (VD (Bc.1 hu x hx))
theorem NA {dst:Option Tmp} {x:Operand} {ty:TypeId} {pos:String} {after:Array Edge} (hn:Jk d t) (hx:(Kc d v b t).ev x=t.ev x) (eA:dst≠some d) {s':St}
  (he:Fz T Γ ops (Kc d v b t) {dst:=dst,op:= .move x,type:=ty,pos:=pos,after:=after,guard:=none} =some s'):
  ∃t',Fz T Γ ops t {dst:=dst,op:= .move x,type:=ty,pos:=pos,after:=after,guard:=none} =some t'/\s'=Kc d v b t'/\Jk d t':=
 jD rfl eA hn (q:=some (t.ev x)) (by simp only [evalOp,Gf,hx]) (by simp only [evalOp,Gf]) (λy hy=>by cases hy;exact hn.ev x) he
def loadVar (T:Tab) (o:Option OB) (t0:TypeId) (i:Nat):Option AV:=match T.ty t0 with
 |some τ=>(match o with
  |some (.var _ vs)=>if τ.Ar then (if i+τ.size<=vs.length then some (.agg ((vs.drop i).take τ.size)) else none) else vs[i]?.map .at
  |_=>none)
 |none=>none
theorem lb {st:St} {t0:TypeId} {l i:Nat} :Qx T st t0 (.at (.Ii l i))=loadVar T (st.at l) t0 i:=by
 unfold Qx loadVar
 cases T.ty t0<;>rfl
theorem MX {dst:Option Tmp} {t0:TypeId} {x:Operand} {ty:TypeId} {pos:String} {after:Array Edge} (hn:Jk d t) (hx:(Kc d v b t).ev x=t.ev x) (eA:dst≠some d) {l i:Nat} (hp:t.ev x= .at (.Ii l i)) {s':St}
  (he:Fz T Γ ops (Kc d v b t) {dst:=dst,op:= .load t0 x,type:=ty,pos:=pos,after:=after,guard:=none} =some s'):
  ∃t',Fz T Γ ops t {dst:=dst,op:= .load t0 x,type:=ty,pos:=pos,after:=after,guard:=none} =some t'/\s'=Kc d v b t'/\Jk d t':=by
 have hld:d≠l:= λe=>by
  have:=hn.ev x
  rw [hp,e] at this
  exact this (by simp [AV.refs,AC.refs])
 refine jD rfl eA hn (q:=loadVar T (t.at l) t0 i) ?_ ?_ (λy hy=>?_) he
 ·simp only [evalOp,Gf,hx,hp]
  rw [lb,QU hld]
 ·simp only [evalOp,Gf,hp]
  rw [lb]
 ·unfold loadVar at hy
  split at hy
  ·split at hy
   ·rename_i vs hb
    have hr:d∉vs.flatMap AC.refs:=(hn.heap _ (FX hb)).2
    have kW: ∀c∈vs,d∉c.refs:= λc hc hd=>hr (Gy.2 ⟨c,hc,hd⟩)
    split at hy
    ·split at hy
     ·cases hy
      intro hd
      obtain ⟨c,hc,hd⟩:=Gy.1 hd
      exact kW c (dU (De hc)) hd
     ·cases hy
    ·cases hv:vs[i]? with
     |none=>rw [hv] at hy;cases hy
     |some c=>
      rw [hv] at hy
      cases hy
      exact kW c (Cn hv)
   ·cases hy
  ·cases hy
theorem TP {l:List Operand} (hu:l.all (jx d)=true):l.map (Kc d v b t).ev=l.map t.ev:=Ft λx hx=>a5 hu x hx
theorem LG {dst:Option Tmp} {f:FuncId} {args:Array Operand} {tys:Array TypeId} {ty:TypeId} {pos:String} {after:Array Edge} {sp:Spec} (Pw:Γ f=some (.q sp)) (hn:Jk d t) (hx:args.toList.map (Kc d v b t).ev=args.toList.map t.ev) (eA:dst≠some d)
  (hs:(args.toList.map t.ev).all (·.settled)=true) {s':St} (he:Fz T Γ ops (Kc d v b t) {dst:=dst,op:= .call {callee:= .value (.func f),args:=args,argTypes:=tys},type:=ty,pos:=pos,after:=after,guard:=none} =some s'):
  ∃t',Fz T Γ ops t {dst:=dst,op:= .call {callee:= .value (.func f),args:=args,argTypes:=tys},type:=ty,pos:=pos,after:=after,guard:=none} =some t'/\s'=Kc d v b t'/\Jk d t':=by
 have SA:fN sp (args.toList.map t.ev)=false:=by unfold fN;rw [hs];simp
 have MB: ∀st:St,Pu Γ st f (args.toList.map t.ev)=(match Eg t sp.arg (args.toList.map t.ev) with
   |none=>none
   |some (_,x)=>(sp.fn x).map λy=>if sp.Jy then .bH (sp.fresh||sp.res.flat) sp.res y else .at (.data (sp.fresh||sp.res.flat) sp.res y)):= λst=>by
  unfold Pu
  rw [Pw]
  simp only
  rw [hs,kd (st:=t) _ _ hs]
  simp only [Bool.or_true,Pl]
  cases Eg t sp.arg (args.toList.map t.ev)<;>rfl
 refine jD rfl eA hn (q:=Pu Γ t f (args.toList.map t.ev)) ?_ ?_ (λy hy=>?_) he
 ·simp only [evalOp,Gf,Pw,hx,SA]
  rw [MB,MB t]
  simp
 ·simp only [evalOp,Gf,Pw,SA]
  simp
 ·rw [MB t] at hy
  split at hy
  ·cases hy
  ·rename_i x _
   cases hf:sp.fn x with
   |none=>rw [hf] at hy;cases hy
   |some z=>
    rw [hf] at hy
    simp only [An,Aa] at hy
    rw [<-hy]
    split<;>simp [AV.refs,AC.refs]
def og (T:Tab) (o:Option OB) (t0:TypeId) (s:ByteArray) (vw:(v:Ty)->Option (Bool×v.den)):Option OB:=match T.mapOf t0 with
 |some v=>(match o,vw v with
  |some (.Wi v' f),some (_,y)=>if h:v'=v/\v.flat=true/\v.Ar=false then some (.Wi v (gx (h.1▸f:ByteArray->Option v.den) s y)) else none
  |_,_=>none)
 |none=>none
theorem ld {st:St} {t0:TypeId} {l:Nat} {fr:Bool} {s:ByteArray} {x:AV} :Ka T st t0 (.at (.Lk l)) (.at (.data fr .str s)) x=(og T (st.at l) t0 s λv=>Gt st v x).map λc=>st.Kx l c:=by
 unfold Ka og
 cases T.mapOf t0 with
 |none=>rfl
 |some v0=>
  simp only
  cases st.at l with
  |none=>rfl
  |some c=>
   cases c with
   |Wi v' f=>
    cases Gt st v0 x with
    |none=>rfl
    |some p=>
     simp only
     split<;>rfl
   |_=>rfl
theorem GX {o:Option OB} {t0:TypeId} {s:ByteArray} {vw:(v:Ty)->Option (Bool×v.den)} {c:OB} (h:og T o t0 s vw=some c):c.refs= []:=by
 unfold og at h
 split at h
 ·split at h
  ·split at h
   ·cases h;rfl
   ·cases h
  ·cases h
 ·cases h
theorem th {st:St} {t0:TypeId} {m k x:AV} {s':St} (h:Ka T st t0 m k x=some s'): ∃l fr s,m= .at (.Lk l)/\k= .at (.data fr .str s):=by
 unfold Ka at h
 split at h
 ·exact ⟨_,_,_,rfl,rfl⟩
 ·cases h
theorem HC: ∀ {H:List (Nat×OB)} {l:Nat} {c:OB} {p:Nat×OB},p∈aF H l c->p∈H\/(p.2=c/\p.1=l/\ ∃c',(l,c')∈H)
 |(k,a)::r,l,c,p,h=>by
  simp only [aF] at h
  split at h
  ·rename_i e
   rcases Bb.1 h with h|h
   ·subst h;exact .inr ⟨rfl,e,a,by rw [e];simp⟩
   ·exact .inl (Ap _ h)
  ·rcases Bb.1 h with h|h
   ·exact .inl (by rw [h];simp)
   ·exact (HC h).imp (Ap _) λ⟨h1,h2,c',h3⟩=>⟨h1,h2,c',Ap _ h3⟩
theorem Jk.Kx {st:St} {l:Nat} {c:OB} (h:Jk d st) (hc:d∉c.refs):Jk d (st.Kx l c):=
 ⟨h.own,h.tmps,λp hp=>(HC hp).elim (h.heap p) λ⟨h1,h2,c',h3⟩=>⟨by rw [h2];exact (h.heap _ h3).1,by rw [h1];exact hc⟩⟩
theorem zR {dst:Option Tmp} {t0:TypeId} {m k x:Operand} {ty:TypeId} {pos:String} {after:Array Edge} (hn:Jk d t) (hm:(Kc d v b t).ev m=t.ev m) (hk:(Kc d v b t).ev k=t.ev k) (hx:(Kc d v b t).ev x=t.ev x) (eA:dst≠some d)
  (hs:(t.ev x).settled=true) {s':St} (he:Fz T Γ ops (Kc d v b t) {dst:=dst,op:= .insert t0 m k x,type:=ty,pos:=pos,after:=after,guard:=none} =some s'):
  ∃t',Fz T Γ ops t {dst:=dst,op:= .insert t0 m k x,type:=ty,pos:=pos,after:=after,guard:=none} =some t'/\s'=Kc d v b t'/\Jk d t':=by
 unfold Fz at he⊢
 simp only [evalOp,hm,hk,hx] at he⊢
 cases hms:Ka T (Kc d v b t) t0 (t.ev m) (t.ev k) (t.ev x) with
 |none=>rw [hms] at he;cases he
 |some s1=>
  rw [hms] at he
  simp only [An,Aa] at he
  obtain ⟨l,fr,s,e1,e2⟩:=th hms
  have hld:d≠l:= λe=>by
   have:=hn.ev m
   rw [e1,e] at this
   exact this (by simp [AV.refs,AC.refs])
  rw [e1,e2,ld,QU hld] at hms
  have hvw:(λv0=>Gt (Kc d v b t) v0 (t.ev x))= λv0=>Gt t v0 (t.ev x):=funext λv0=>gy hs
  rw [hvw] at hms
  rw [e1,e2,ld]
  cases ho:og T (t.at l) t0 s λv0=>Gt t v0 (t.ev x) with
  |none=>rw [ho] at hms;cases hms
  |some c=>
   rw [ho] at hms
   simp only [An,Aa] at hms
   have hc:=GX ho
   have sq:Jk d (t.Kx l c):=hn.Kx (by rw [hc];simp)
   obtain ⟨p1,p2⟩:=yy (v:=v) (b:=b) (y:= .undef) eA sq (by simp [AV.refs,AC.refs])
   refine ⟨_,rfl,?_,p2⟩
   rw [<-he,<-hms,TM hld,p1]
theorem Jk.back {e:Nat} (h:Jk e (Kc d v b t)) (hde:e≠d) (hn:Jk d t):Jk e t:=by
 have hg: ∀k,k≠d->(Kc d v b t).get k=t.get k:= λk hk=>er _ _ _ _ _ (Hv hk)
 refine ⟨by rw [<-hg e hde];exact h.own,λu hu hd=>?_,h.Aku⟩
 obtain ⟨k,hk,rfl⟩:=Bg.1 hu
 have e1:t.get k=t.tmps[k]:=by unfold St.get;rw [Ak,Ac hk];rfl
 by_cases hkd:k=d
 ·subst hkd
  have:=hn.own
  rw [e1] at this
  rw [this] at hd
  cases hd
 ·have h1:=h.ev (.tmp k)
  have h2:(Kc d v b t).ev (.tmp k)=t.tmps[k]:=by show (Kc d v b t).get k=_;rw [hg k hkd,e1]
  rw [h2] at h1
  exact h1 hd
def mF (e:Ty):Nat->List (Nat×AV)->Option (Bool×Bool×List e.den)
 |_,[]=>some (true,true,[])
 |i,(j,x)::r=>if i=j then match Gt ⟨[],[]⟩ e x with
  |some (fr,y)=>match mF e (i+1) r with
   |some (Wt,tr',ys)=>some (fr&&Wt,Ua ⟨[],[]⟩ x&&e.tree&&tr',y::ys)
   |none=>none
  |none=>none
  else none
theorem dZ {st:St} {e:Ty} : ∀(l:List (Nat×Operand)) (i:Nat),(l.all λp=>Xf (st.ev p.2))=true->Mh e i l st=(mF e i (l.map λp=>(p.1,st.ev p.2))).map λp=>(p.1,p.2.1,p.2.2,st)
 | [],i,_=>rfl
 |(j,x)::r,i,h=>by
  rw [Jl,Ah] at h
  have hx:Xf (st.ev x)=true:=h.1
  simp only [Mh,mF,Bz]
  split
  ·generalize hxv:st.ev x=xv at hx
   unfold Xf at hx
   split at hx
   ·rename_i fr τ z
    have Aka:settle st (.at (.data fr τ z))=some (.at (.data fr τ z),st):=rfl
    rw [Aka]
    simp only
    rw [gy (st:=⟨[],[]⟩) (st':=st) (v:= .at (.data fr τ z)) rfl]
    cases Gt ⟨[],[]⟩ e (.at (.data fr τ z)) with
    |none=>rfl
    |some p=>
     simp only
     rw [dZ r (i+1) h.2]
     cases mF e (i+1) (r.map λp=>(p.1,st.ev p.2)) with
     |none=>rfl
     |some q=>rfl
   ·cases hx
  ·rfl
def rowOf (T:Tab) (t0:TypeId) (len:Nat) (parts:List (Nat×AV)) (dst:Nat):Option (AV×OB):=match eu T t0 with
 |some _=>none
 |none=>match T.elem t0 with
  |none=>none
  |some te=>match T.ty te with
   |none=>none
   |some e=>if parts.length=len/\len<=64/\e.size<=64/\dst<Bk then (mF e 0 parts).map λp=>(.at (.own dst 0 len), .arr ((T.tq||e.flat)&&p.1) (T.CY&&p.2.1) e te p.2.2) else none
theorem iO {st:St} {t0:TypeId} {len dst:Nat} {parts:Array (Nat×Operand)} (h:(parts.toList.all λp=>Xf (st.ev p.2))=true):
  Jx T st dst t0 len parts=(rowOf T t0 len (parts.toList.map λp=>(p.1,st.ev p.2)) dst).map λr=>(r.1,st.new dst r.2):=by
 unfold Jx rowOf
 cases eu T t0 with
 |some p=>
  obtain ⟨te,e⟩:=p
  simp only [Option.map_none]
  split
  ·rename_i x hp
   rw [hp,Jl,Ah] at h
   have hx:Xf (st.ev x)=true:=h.1
   unfold Xf at hx
   split at hx
   ·rename_i hv;simp only [hv]
   ·cases hx
  ·rfl
 |none=>
  simp only
  unfold Nj
  cases T.elem t0 with
  |none=>rfl
  |some te=>
   simp only
   cases T.ty te with
   |none=>rfl
   |some e=>
    simp only [Dk,Ma]
    split
    ·rw [dZ _ 0 h]
     cases mF e 0 (parts.toList.map λp=>(p.1,st.ev p.2))<;>rfl
    ·rfl
theorem rn {t0:TypeId} {len dst:Nat} {parts:List (Nat×AV)} {r:AV×OB} (h:rowOf T t0 len parts dst=some r):sF dst r.1 r.2:=by
 unfold rowOf at h
 split at h
 ·cases h
 ·split at h
  ·cases h
  ·split at h
   ·cases h
   ·split at h
    ·rename_i e _ _
     cases hp:mF e 0 parts with
     |none=>rw [hp] at h;cases h
     |some p=>
      rw [hp] at h
      simp only [An,Aa] at h
      subst h
      exact ⟨λl hl=>by simpa [AV.refs,AC.refs] using hl,rfl,λl hl=>by simp only [AV.map,Cs];rw [Ai (Hv hl)],λl=>rfl⟩
    ·cases h
theorem EO {e:Nat} {t0:TypeId} {len:Nat} {parts:Array (Nat×Operand)} {ty:TypeId} {pos:String} {after:Array Edge} (_hl:sF d v b) (hn:Jk d t) (hx: ∀p∈parts.toList,(Kc d v b t).ev p.2=t.ev p.2) (eA:e≠d)
  (hp:(parts.toList.all λp=>Xf (t.ev p.2))=true) (Jd:Jk e (Kc d v b t)) {s':St} (he:Fz T Γ ops (Kc d v b t) {dst:=some e,op:= .buildSlice t0 len parts,type:=ty,pos:=pos,after:=after,guard:=none} =some s'):
  ∃t',Fz T Γ ops t {dst:=some e,op:= .buildSlice t0 len parts,type:=ty,pos:=pos,after:=after,guard:=none} =some t'/\s'=Kc d v b t'/\Jk d t':=by
 have Ak2:=Jd.back eA hn
 have SB:(parts.toList.all λp=>Xf ((Kc d v b t).ev p.2))=true:=Bc.2 λp zM=>by rw [hx p zM];exact Bc.1 hp p zM
 have hm:(parts.toList.map λp=>(p.1,(Kc d v b t).ev p.2))=parts.toList.map λp=>(p.1,t.ev p.2):=Ft λp zM=>by rw [hx p zM]
 unfold Fz at he⊢
 simp only [evalOp] at he⊢
 rw [iO SB,hm] at he
 rw [iO hp]
 cases hr:rowOf T t0 len (parts.toList.map λp=>(p.1,t.ev p.2)) e with
 |none=>rw [hr] at he;cases he
 |some r=>
  rw [hr] at he
  have hL:=rn hr
  simp only [An,Aa] at he
  rw [Jd.new] at he
  refine ⟨Kc e r.1 r.2 t,by simp only [An];rw [Ak2.new],?_,hn.plus (Hv eA) (λh=>eA (hL.v1 _ h).symm) (by rw [hL.b1];simp)⟩
  rw [<-he,xq (Hv eA)]
def evC:Operand->AV
 | .const c=>nA c
 |_=> .undef
theorem Aj1 {st:St} {x:Operand} (h:Xf (evC x)=true):st.ev x=evC x:=by
 cases x<;>first|rfl|cases h
def fj (T:Tab) (o:Oper):Option (Nat×AV×OB):=match o.guard with
 |some _=>none
 |none=>match o.dst with
  |none=>none
  |some d=>match o.op with
   | .buildSlice t0 len parts=>if (parts.toList.all λp=>Xf (evC p.2))=true then (rowOf T t0 len (parts.toList.map λp=>(p.1,evC p.2)) d).map λr=>(d,r.1,r.2) else none
   | .makeMap t0 none=>match T.mapOf t0 with
    |some τ=>if d<Bk then some (d, .at (.Lk d), .Wi τ λ_=>none) else none
    |none=>none
   |_=>none
theorem fk {o:Oper} {r:Nat×AV×OB} (h:fj T o=some r):o.dst=some r.1/\sF r.1 r.2.1 r.2.2/\ ∀st:St,Jk r.1 st->Fz T Γ ops st o=some (Kc r.1 r.2.1 r.2.2 st):=by
 obtain ⟨dst,op,ty,pos,after,guard⟩:=o
 unfold fj at h
 cases guard with
 |some g=>cases h
 |none=>
  cases dst with
  |none=>cases h
  |some d=>
   cases op with
   |buildSlice t0 len parts=>
    simp only at h
    split at h
    ·rename_i hp
     cases hr:rowOf T t0 len (parts.toList.map λp=>(p.1,evC p.2)) d with
     |none=>rw [hr] at h;cases h
     |some q=>
      rw [hr] at h
      simp only [An,Aa] at h
      subst h
      refine ⟨rfl,rn hr,λst Qj=>?_⟩
      have MB: ∀p∈parts.toList,st.ev p.2=evC p.2:= λp zM=>Aj1 (Bc.1 hp p zM)
      have hm:(parts.toList.map λp=>(p.1,st.ev p.2))=parts.toList.map λp=>(p.1,evC p.2):=Ft λp zM=>by rw [MB p zM]
      have SB:(parts.toList.all λp=>Xf (st.ev p.2))=true:=Bc.2 λp zM=>by rw [MB p zM];exact Bc.1 hp p zM
      unfold Fz
      simp only [evalOp]
      rw [iO SB,hm,hr]
      simp only [An]
      rw [Qj.new]
    ·cases h
   |makeMap t0 hint=>
    cases hint with
    |some x=>cases h
    |none=>
     simp only at h
     split at h
     ·rename_i τ Um
      split at h
      ·rename_i hd
       cases h
       refine ⟨rfl,⟨λl hl=>by simpa [AV.refs,AC.refs] using hl,rfl,λl hl=>by simp only [AV.map,Cs];rw [Ai (Hv hl)],λl=>rfl⟩,λst Qj=>?_⟩
       unfold Fz
       simp only [evalOp,Vp,Um,Ab hd,An]
       rw [Qj.new]
      ·cases h
     ·cases h
   |_=>cases h
theorem BU {l:List Operand} (h: ∀x∈l,(Kc d v b t).ev x=t.ev x):(l.all λx=>((Kc d v b t).ev x).settled)=(l.map t.ev).all (·.settled):=by
 rw [List.all_map]
 induction l with
 |nil=>rfl
 |cons x r ih=>
  simp only [Jl,Function.comp]
  rw [h x (by simp),ih λy hy=>h y (by simp [hy])]
theorem BV {o:Oper} (hl:sF d v b) (hn:Jk d t) (hs:Xj Γ (Kc d v b t) o=true) (hu:(kb o).all (jx d)=true) (eA:o.dst≠some d) {s':St} (he:Fz T Γ ops (Kc d v b t) o=some s'):
  ∃t',Fz T Γ ops t o=some t'/\s'=Kc d v b t'/\Jk d t'/\Xj Γ t o=true:=by
 obtain ⟨dst,op,ty,pos,after,guard⟩:=o
 unfold Xj at hs
 cases guard with
 |some g=>cases hs
 |none=>
  simp only at hs
  split at hs
  ·rename_i x
   have hx:=a5 (v:=v) (b:=b) (t:=t) hu x (by simp [kb])
   obtain ⟨t',h1,h2,h3⟩:=NA hn hx eA he
   exact ⟨t',h1,h2,h3,rfl⟩
  ·rename_i t0 x
   have hx:=a5 (v:=v) (b:=b) (t:=t) hu x (by simp [kb])
   rw [hx] at hs
   split at hs
   ·rename_i l i hp
    obtain ⟨t',h1,h2,h3⟩:=MX hn hx eA hp he
    exact ⟨t',h1,h2,h3,by simp only [Xj,hp]⟩
   ·cases hs
  ·rename_i f args tys
   rw [Ah] at hs
   obtain ⟨ca,vU⟩:=hs
   split at ca
   ·rename_i sp Pw
    have MB:=a5 (v:=v) (b:=b) (t:=t) (l:=args.toList) hu
    rw [BU MB] at vU
    obtain ⟨t',h1,h2,h3⟩:=LG Pw hn (TP hu) eA vU he
    refine ⟨t',h1,h2,h3,?_⟩
    simp only [Xj,Pw,Ek]
    rw [List.all_map] at vU
    exact vU
   ·cases ca
  ·rename_i t0 m k x
   have hm:=a5 (v:=v) (b:=b) (t:=t) hu m (by simp [kb])
   have hk:=a5 (v:=v) (b:=b) (t:=t) hu k (by simp [kb])
   have hx:=a5 (v:=v) (b:=b) (t:=t) hu x (by simp [kb])
   rw [hm,hk,hx] at hs
   have hs0:=hs
   rw [Ah] at hs
   obtain ⟨t',h1,h2,h3⟩:=zR hn hm hk hx eA hs.2 he
   exact ⟨t',h1,h2,h3,hs0⟩
  ·rename_i t0 len parts
   rw [Ah] at hs
   obtain ⟨ca,vU⟩:=hs
   cases dst with
   |none=>cases vU
   |some e=>
    simp only at vU
    have hed:e≠d:= λh=>eA (by rw [h])
    have iv:(parts.toList.map (λp=>p.2)).all (jx d)=true:=hu
    have MB:=a5 (v:=v) (b:=b) (t:=t) iv
    have hx: ∀p∈parts.toList,(Kc d v b t).ev p.2=t.ev p.2:= λp hp=>MB p.2 (Bf.2 ⟨p,hp,rfl⟩)
    have hp:(parts.toList.all λp=>Xf (t.ev p.2))=true:=Bc.2 λp hp=>by rw [<-hx p hp];exact Bc.1 ca p hp
    have Jd:=uq vU
    obtain ⟨t',h1,h2,h3⟩:=EO hl hn hx hed hp Jd he
    refine ⟨t',h1,h2,h3,?_⟩
    simp only [Xj,hp,Ek]
    exact VB (Jd.back hed hn)
  ·cases hs
def z9:List (Nat×AV×OB)->St->St->Prop
 | [],s,t=>s=t
 |q::Q,s,t=>Jk q.1 t/\z9 Q s (Kc q.1 q.2.1 q.2.2 t)
theorem yq {o:Oper} : ∀(Q:List (Nat×AV×OB)) (s t s':St),z9 Q s t->(∀q∈Q,sF q.1 q.2.1 q.2.2/\(kb o).all (jx q.1)=true/\o.dst≠some q.1)->Xj Γ s o=true->Fz T Γ ops s o=some s'->
  ∃t',Fz T Γ ops t o=some t'/\z9 Q s' t'/\Xj Γ t o=true
 | [],s,t,s',h,_,hs,he=>by
  have h:s=t:=h
  subst h
  exact ⟨s',he,rfl,hs⟩
 |q::Q,s,t,s',⟨h1,h2⟩,hq,hs,he=>by
  obtain ⟨u',e1,e2,e3⟩:=yq Q s _ s' h2 (λp hp=>hq p (Ap _ hp)) hs he
  obtain ⟨l1,l2,l3⟩:=hq q (by simp)
  obtain ⟨t',f1,f2,f3,f4⟩:=BV l1 h1 e3 l2 l3 e1
  exact ⟨t',f1,⟨f3,by rw [<-f2];exact e2⟩,f4⟩
theorem yr {q:Nat×AV×OB} : ∀(Q1:List (Nat×AV×OB)) {Q2:List (Nat×AV×OB)} {s t:St},z9 (Q1++q::Q2) s t->(∀p∈Q1++q::Q2,sF p.1 p.2.1 p.2.2)->(∀p∈Q1,p.1≠q.1)->
  Jk q.1 t/\z9 (Q1++Q2) s (Kc q.1 q.2.1 q.2.2 t)
 | [],Q2,s,t,h,_,_=>h
 |p::Q1,Q2,s,t,⟨h1,h2⟩,hL,Jd=>by
  have hpq:=Jd p (by simp)
  have hLp:=hL p (by simp)
  have hLq:=hL q (by simp)
  obtain ⟨g1,g2⟩:=yr Q1 h2 (λr hr=>hL r (Ap _ hr)) λr hr=>Jd r (Ap _ hr)
  refine ⟨g1.back (Hv hpq) h1,h1.plus hpq (λh=>hpq (hLq.v1 _ h)) (by rw [hLq.b1];simp),?_⟩
  show z9 (Q1++Q2) s (Kc p.1 p.2.1 p.2.2 (Kc q.1 q.2.1 q.2.2 t))
  rw [xq (Hv hpq)]
  exact g2
def mY (ops:Array Oper):Nat->Nat->Nat->Bool
 |0,_,_=>false
 |f+1,i,a=>Region.waitsFor .any ops i a||(List.range ops.size).any λk=>Region.waitsFor .any ops i k&&mY ops f k a
theorem lP {Ag:Array Bool} (hc:Us ops Ag) {a:Nat} : ∀(f i:Nat),(∀x,Region.waitsFor .any ops i x=true->Ag.getD x false=true)->mY ops f i a=true->Ag.getD a false=true
 |0,_,_,h=>by cases h
 |f+1,i,hi,h=>by
  simp only [mY,Lh,Eh,Ah] at h
  rcases h with h|⟨k,_,h1,h2⟩
  ·exact hi a h
  ·exact lP hc f k (λx hx=>hc k x (hi k h1) hx) h2
def NH (P:List (Nat×Nat×AV×OB)) (Γ:Env) (ops:Array Oper) (st:St) (o:Oper) (i:Nat):Bool:=
 (P.all λa=>mY ops 5 i a.1)||(Xj Γ st o&&P.all λa=>mY ops 5 i a.1||((kb o).all (jx a.2.1)&&(match o.dst with
  |some e=>!Nat.beq e a.2.1
  |none=>true)))
def Aiw (T:Tab) (Γ:Env) (ops:Array Oper) (P:List (Nat×Nat×AV×OB)) (K:St->Prop):Nat->Array Bool->St->Prop
 |0,Ag,st=>Region.ready .any ops Ag= []/\K st
 |f+1,Ag,st=>Region.ready .any ops Ag≠ []/\ ∀i∈Region.ready .any ops Ag,∃o st',ops[i]?=some o/\NH P Γ ops st o i=true/\Fz T Γ ops st o=some st'/\Aiw T Γ ops P K f (Ag.setIfInBounds i true) st'
structure YG (lc la:Array Bool) (Q:List Nat):Prop where
 size:la.size=lc.size
 off: ∀k∈Q,k<la.size/\la.getD k false=false/\lc.getD k false=true
 same: ∀k,k∉Q->la.getD k false=lc.getD k false
theorem YG.ready {lc la:Array Bool} {Q:List Nat} (h:YG lc la Q) {i:Nat} (hi:i∈Region.ready .any ops la) (hn:i∉Q):i∈Region.ready .any ops lc:=by
 obtain ⟨h1,o,ho,Le⟩:=mem_ready.1 hi
 have Me:i<la.size:=by
  rcases Nat.lt_or_ge i la.size with h'|h'
  ·exact h'
  ·simp [Array.getElem?_eq_none h'] at h1
 have h2:=getD_both h1
 rw [h.same i hn] at h2
 refine mem_ready.2 ⟨getD_in (by rw [<-h.size];exact Me) h2,o,ho,λe he hb=>?_⟩
 have h3:=Le e he hb
 by_cases hq:e.on∈Q
 ·exact (h.off _ hq).2.2
 ·rw [<-h.same _ hq];exact h3
theorem YG.nil {lc la:Array Bool} (h:YG lc la []):la=lc:=by
 refine Array.ext h.size λk h1 h2=>?_
 have:=h.same k (by simp)
 simpa [h1,h2] using this
theorem YG.one {lc la:Array Bool} {Q Q':List Nat} {i:Nat} (h:YG lc la Q) (hi:i∈Q) (hs: ∀k,k∈Q'↔k∈Q/\k≠i):YG lc (la.setIfInBounds i true) Q':=by
 refine ⟨by simp [h.size],λk hk=>?_,λk hk=>?_⟩
 ·obtain ⟨h1,h2⟩:=(hs k).1 hk
  obtain ⟨g1,g2,g3⟩:=h.off k h1
  exact ⟨by simpa using g1,by rw [getD_set_ne false (Hv h2)];exact g2,g3⟩
 ·by_cases e:i=k
  ·subst e
   obtain ⟨g1,g2,g3⟩:=h.off i hi
   rw [g3]
   simp [g1]
  ·rw [getD_set_ne false e]
   exact h.same k λhq=>hk ((hs k).2 ⟨hq,Hv e⟩)
theorem YG.both {lc la:Array Bool} {Q:List Nat} {i:Nat} (h:YG lc la Q) (hi:i∉Q):YG (lc.setIfInBounds i true) (la.setIfInBounds i true) Q:=by
 refine ⟨by simp [h.size],λk hk=>?_,λk hk=>?_⟩
 ·obtain ⟨g1,g2,g3⟩:=h.off k hk
  have Jd:i≠k:= λe=>hi (by rw [e];exact hk)
  exact ⟨by simpa using g1,by rw [getD_set_ne false Jd];exact g2,by rw [getD_set_ne false Jd];exact g3⟩
 ·by_cases e:i=k
  ·subst e
   have hs:=h.same i hi
   have hz:=h.size
   by_cases hl:i<la.size
   ·simp [hl,hz▸hl]
   ·have Lq: ¬i<lc.size:=by omega
    simp [hl,Lq]
  ·rw [getD_set_ne false e,getD_set_ne false e];exact h.same k hk
theorem ND {dst:Option Tmp} {d:Nat} (h:(match dst with
  |some e=>!Nat.beq e d
  |none=>true)=true):dst≠some d:= λe=>by
 subst e
 simp at h
theorem TN {P:List (Nat×Nat×AV×OB)} {K:St->Prop} (hP: ∀a∈P,∃o,ops[a.1]?=some o/\fj T o=some a.2):
  ∀(n f:Nat) (Q:List (Nat×Nat×AV×OB)) (lc la:Array Bool) (s t:St),n=f+Q.length->Aiw T Γ ops P K f lc s->z9 (Q.map (·.2)) s t->YG lc la (Q.map (·.1))->(∀a∈Q,a∈P)->
   (Q.Pairwise λa c=>a.2.1≠c.2.1/\a.1≠c.1)->Us ops la->(∀a∈Q,∀x,Region.waitsFor .any ops a.1 x=true->la.getD x false=true)->anyS T Γ ops K n la t:=by
 intro n
 induction n with
 |zero=>
  intro f Q lc la s t hn hC hp hb hQ hpw Sa hw
  have hf:f=0:=by omega
  have hq:Q= []:=Cm (by omega)
  subst hf hq
  have hp:s=t:=hp
  subst hp
  rw [hb.nil]
  exact hC
 |succ n ih=>
  intro f Q lc la s t hn hC hp hb hQ hpw Sa hw
  refine ⟨?_,λi hi=>?_⟩
  ·cases Q with
   |nil=>
    rw [hb.nil]
    cases f with
    |zero=>simp at hn
    |succ f=>exact hC.1
   |cons a Q=>
    obtain ⟨o,ho,_⟩:=hP a (hQ a (by simp))
    obtain ⟨g1,g2,_⟩:=hb.off a.1 (by simp)
    have:a.1∈Region.ready .any ops la:=mem_ready.2 ⟨getD_in g1 g2,o,ho,λe he hbd=>hw a (by simp) e.on (by
     unfold Region.waitsFor
     rw [ho]
     exact Array.any_eq_true'.2 ⟨e,he,by simp [hbd]⟩)⟩
    intro e
    rw [e] at this
    cases this
  ·by_cases hiQ:i∈Q.map (·.1)
   ·obtain ⟨a,ha,rfl⟩:=Bf.1 hiQ
    obtain ⟨Q1,Q2,rfl⟩:=List.append_of_mem ha
    obtain ⟨o,ho,hal⟩:=hP a (hQ a ha)
    obtain ⟨_,_,Qj⟩:=fk (Γ:=Γ) (ops:=ops) hal
    have Aad:=dV.1 hpw
    have Aoi:=List.pairwise_cons.1 Aad.2.1
    rw [Oz,Bz] at hp
    have hL: ∀p∈Q1.map (·.2)++a.2::Q2.map (·.2),sF p.1 p.2.1 p.2.2:= λp zM=>by
     have:p∈(Q1++a::Q2).map (·.2):=by rw [Oz,Bz];exact zM
     obtain ⟨c,hc,rfl⟩:=Bf.1 this
     obtain ⟨o',_,Atr⟩:=hP c (hQ c hc)
     exact (fk (Γ:=Γ) (ops:=ops) Atr).2.1
    obtain ⟨p1,p2⟩:=yr _ hp hL λp zM=>by
     obtain ⟨c,hc,rfl⟩:=Bf.1 zM
     exact (Aad.2.2 c hc a (by simp)).1
    refine ⟨o,_,ho,Qj t p1,ih f (Q1++Q2) lc _ s _ ?_ hC (by rw [Oz];exact p2) (hb.one hiQ λk=>?_) (λc hc=>hQ c ?_) ?_ (Sa.set hi) λc hc x hx=>getD_set_true (hw c ?_ x hx)⟩
    ·simp only [Aw,Ay] at hn⊢;omega
    ·simp only [Oz,Bz,Ba,Bb]
     constructor
     ·intro h
      rcases h with h|h
      ·obtain ⟨c,hc,rfl⟩:=Bf.1 h
       exact ⟨.inl h,(Aad.2.2 c hc a (by simp)).2⟩
      ·obtain ⟨c,hc,rfl⟩:=Bf.1 h
       exact ⟨.inr (.inr h),Hv (Aoi.1 c hc).2⟩
     ·rintro ⟨h|h|h,Jd⟩
      ·exact .inl h
      ·exact absurd h Jd
      ·exact .inr h
    ·rcases Ba.1 hc with hc|hc
     ·exact Bi _ hc
     ·exact Ck _ (Ap _ hc)
    ·exact dV.2 ⟨Aad.1,Aoi.2,λc hc e he=>Aad.2.2 c hc e (Ap _ he)⟩
    ·rcases Ba.1 hc with hc|hc
     ·exact Bi _ hc
     ·exact Ck _ (Ap _ hc)
   ·have hic:=hb.ready hi hiQ
    cases f with
    |zero=>
     rw [hC.1] at hic
     cases hic
    |succ f=>
     obtain ⟨o,s',ho,gO,he,gP⟩:=hC.2 i hic
     have Afd: ∀a∈Q,mY ops 5 i a.1=false:= λa ha=>by
      cases hwt:mY ops 5 i a.1 with
      |false=>rfl
      |true=>
       have h1:=lP Sa _ i (λx hx=>dg hi hx) hwt
       rw [(hb.off a.1 (Bf.2 ⟨a,ha,rfl⟩)).2.1] at h1
       cases h1
     have key: ∃t',Fz T Γ ops t o=some t'/\z9 (Q.map (·.2)) s' t':=by
      unfold NH at gO
      rw [Lh,Ah] at gO
      rcases gO with gO|⟨h1,h2⟩
      ·cases Q with
       |nil=>
        have hp:s=t:=hp
        subst hp
        exact ⟨s',he,rfl⟩
       |cons a Q=>
        have:=Bc.1 gO a (hQ a (by simp))
        rw [Afd a (by simp)] at this
        cases this
      ·obtain ⟨t',g1,g2,_⟩:=yq (T:=T) (ops:=ops) _ s t s' hp (λq hq=>by
        obtain ⟨a,ha,rfl⟩:=Bf.1 hq
        obtain ⟨o',_,hal⟩:=hP a (hQ a ha)
        have h3:=Bc.1 h2 a (hQ a ha)
        rw [Afd a ha,bJ,Ah] at h3
        exact ⟨(fk (Γ:=Γ) (ops:=ops) hal).2.1,h3.1,ND h3.2⟩) h1 he
       exact ⟨t',g1,g2⟩
     obtain ⟨t',g1,g2⟩:=key
     exact ⟨o,t',ho,g1,ih f Q _ _ s' t' (by omega) gP g2 (hb.both hiQ) hQ hpw (Sa.set hi) λc hc x hx=>getD_set_true (hw c hc x hx)⟩
def Zy (T:Tab) (ops:Array Oper) (Ag:Array Bool):List (Nat×Nat×AV×OB):=(Region.ready .any ops Ag).filterMap λi=>((ops[i]?).bind (fj T)).map λr=>(i,r)
theorem ze {Ag:Array Bool} {a:Nat×Nat×AV×OB} (h:a∈Zy T ops Ag):a.1∈Region.ready .any ops Ag/\ ∃o,ops[a.1]?=some o/\fj T o=some a.2:=by
 unfold Zy at h
 obtain ⟨i,hi,he⟩:=List.mem_filterMap.1 h
 cases ho:ops[i]? with
 |none=>rw [ho] at he;cases he
 |some o=>
  rw [ho] at he
  simp only [Gm,Option.map_eq_some_iff] at he
  obtain ⟨r,h1,rfl⟩:=he
  exact ⟨hi,o,ho,h1⟩
theorem Aeg {Ag:Array Bool} {Q:List Nat} (h: ∀i∈Q,i∈Region.ready .any ops Ag):YG (Fb Q Ag) Ag Q:=by
 have hr: ∀i∈Q,i<Ag.size/\Ag.getD i false=false:= λi hi=>by
  have h1:=(mem_ready.1 (h i hi)).1
  refine ⟨?_,getD_both h1⟩
  rcases Nat.lt_or_ge i Ag.size with h'|h'
  ·exact h'
  ·simp [Array.getElem?_eq_none h'] at h1
 exact ⟨(Xa Q Ag).symm,λk hk=>⟨(hr k hk).1,(hr k hk).2,fI Q Ag k hk (hr k hk).1⟩,λk hk=>(dJ Q Ag k hk).symm⟩
theorem IC: ∀(Q:List (Nat×Nat×AV×OB)) (t s:St),(∀a∈Q,∃o,ops[a.1]?=some o/\fj T o=some a.2)->(∀a∈Q,Jk a.2.1 t)->(Q.Pairwise λa c=>a.2.1≠c.2.1)->Nu T Γ ops (Q.map (·.1)) t=some s->z9 (Q.map (·.2)) s t
 | [],t,s,_,_,_,h=>by
  have h:some t=some s:=h
  exact (Bd h).symm
 |a::Q,t,s,hQ,hn,hp,h=>by
  obtain ⟨o,ho,hal⟩:=hQ a (by simp)
  obtain ⟨_,hL,Qj⟩:=fk (Γ:=Γ) (ops:=ops) hal
  obtain ⟨xM,SC⟩:=List.pairwise_cons.1 hp
  simp only [Bz,Nu,ho] at h
  rw [Qj t (hn a (by simp))] at h
  refine ⟨hn a (by simp),IC Q _ s (λc hc=>hQ c (Ap _ hc)) (λc hc=>?_) SC h⟩
  exact (hn c (Ap _ hc)).plus (Hv (xM c hc)) (λh=>xM c hc (hL.v1 _ h).symm) (by rw [hL.b1];simp)
end
end Go.Proofs.YtkkdpknjohcekaaGreat
