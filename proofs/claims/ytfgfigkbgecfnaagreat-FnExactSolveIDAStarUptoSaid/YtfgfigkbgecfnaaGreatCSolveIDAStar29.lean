/-
  Part 30 of the proof that the statement FnExactSolveIDAStar holds.
-/
import Derived.Test.YtfgfigkbgecfnaaGreatCSolveIDAStar28
namespace Go.Proofs.YtfgfigkbgecfnaaGreat
open Go.RowKit
def Jl (d:Nat) (v:AV) (b:OB) (st:St):St:= {tmps:=Tj st.tmps d v,heap:=Ou st.heap d b}
def qG (d:Nat) (st:St):Bool:=(st.get d).refs.isEmpty&&((st.tmps.all λv=>!v.refs.contains d)&&st.heap.all λp=>!Nat.beq p.1 d&&!p.2.refs.contains d)
structure It (d:Nat) (st:St):Prop where
 own:(st.get d).refs= []
 tmps: ∀v∈st.tmps,d∉v.refs
 heap: ∀p∈st.heap,p.1≠d/\d∉p.2.refs
theorem w8 {d:Nat} {st:St} (h:qG d st=true):It d st:=by
 unfold qG at h
 rw [Af,Af,Bc,Bc] at h
 obtain ⟨h0,h⟩:=h
 refine ⟨List.isEmpty_iff.1 h0,λv hv=>?_,λp hp=>?_⟩
 ·have:=h.1 v hv
  intro hd
  rw [Jq.2 hd] at this
  cases this
 ·have:=h.2 p hp
  rw [Af] at this
  refine ⟨λe=>?_,λhd=>?_⟩
  ·have h1:=this.1
   rw [e,Nat.beq_refl] at h1
   cases h1
  ·have h1:=this.2
   rw [Jq.2 hd] at h1
   cases h1
theorem YN {d:Nat} {st:St} (h:It d st):qG d st=true:=by
 unfold qG
 rw [Af,Af,Bc,Bc]
 refine ⟨by rw [h.own];rfl,λv hv=>?_,λp hp=>?_⟩
 ·rw [Ei,<-Ir,Jq];exact h.tmps v hv
 ·rw [Af]
  refine ⟨?_,?_⟩
  ·rw [Ei,<-Ir]
   exact λe=>(h.heap p hp).1 (Jr e)
  ·rw [Ei,<-Ir,Jq];exact (h.heap p hp).2
structure uj (d:Nat) (v:AV) (b:OB):Prop where
 v1: ∀l,l∈v.refs->l=d
 b1:b.refs= []
 v2: ∀l,l≠d->v.map (Cs l)=v
 b2: ∀l,b.map (Cs l)=b
theorem eT {α:Type} : ∀(xs:List α) (d t:Nat) (v x:α),d≠t->(Tj xs d v).getD t x=xs.getD t x
 | [],_,_,_,_,_=>rfl
 |y::r,0,0,_,_,h=>absurd rfl h
 |y::r,0,t+1,_,_,_=>by simp [Tj]
 |y::r,d+1,0,_,_,_=>by simp [Tj]
 |y::r,d+1,t+1,v,x,h=>by simpa [Tj] using eT r d t v x (by omega)
theorem r8 {α:Type} : ∀(xs:List α) (d e:Nat) (v w:α),d≠e->Tj (Tj xs d v) e w=Tj (Tj xs e w) d v
 | [],_,_,_,_,_=>rfl
 |y::r,0,0,_,_,h=>absurd rfl h
 |y::r,0,e+1,_,_,_=>rfl
 |y::r,d+1,0,_,_,_=>rfl
 |y::r,d+1,e+1,v,w,h=>by simp only [Tj];rw [r8 r d e v w (by omega)]
theorem zx: ∀(H:List (Nat×OB)) (d l:Nat) (b:OB),d≠l->Au (Ou H d b) l=Au H l
 | [],d,l,b,h=>by simp [Ou,Au,h]
 |(k,c)::r,d,l,b,h=>by
  simp only [Ou]
  split
  ·simp only [Au];rw [Ag h]
  ·simp only [Au]
   split
   ·rfl
   ·exact zx r d l b h
theorem zE: ∀(H:List (Nat×OB)) (d e:Nat) (b c:OB),d≠e->Ou (Ou H d b) e c=Ou (Ou H e c) d b
 | [],d,e,b,c,h=>by
  simp only [Ou]
  by_cases h1:e<d
  ·rw [Ab h1,Ag (by omega)]
  ·rw [Ag h1,Ab (by omega)]
 |(k,a)::r,d,e,b,c,h=>by
  simp only [Ou]
  by_cases h1:d<k<;>by_cases h2:e<k
  ·rw [Ab h1,Ab h2]
   simp only [Ou]
   by_cases h3:e<d
   ·rw [Ab h3,Ag (by omega),Ab h1]
   ·rw [Ag h3,Ab h2,Ab (by omega)]
  ·rw [Ab h1,Ag h2]
   simp only [Ou]
   rw [Ag (by omega),Ag h2,Ab h1]
  ·rw [Ag h1,Ab h2]
   simp only [Ou]
   rw [Ab h2,Ag (by omega),Ag h1]
  ·rw [Ag h1,Ag h2]
   simp only [Ou]
   rw [Ag h1,Ag h2,zE r d e b c h]
theorem AL: ∀(H:List (Nat×OB)) (d l:Nat) (b c:OB),d≠l->aY (Ou H d b) l c=Ou (aY H l c) d b
 | [],d,l,b,c,h=>by simp [Ou,aY,h]
 |(k,a)::r,d,l,b,c,h=>by
  simp only [Ou,aY]
  by_cases h1:d<k<;>by_cases h2:k=l
  ·rw [Ab h1,Ab h2]
   simp only [aY,Ou]
   rw [Ag h,Ab h2,Ab h1]
  ·rw [Ab h1,Ag h2]
   simp only [aY,Ou]
   rw [Ag h,Ag h2,Ab h1]
  ·rw [Ag h1,Ab h2]
   simp only [aY,Ou]
   rw [Ab h2,Ag h1]
  ·rw [Ag h1,Ag h2]
   simp only [aY,Ou]
   rw [Ag h2,Ag h1,AL r d l b c h]
theorem rS {l:Nat} : ∀ {c:AC},l∉c.refs->Cs l c=c:=by
 intro c h
 cases c<;>simp only [Cs]<;>simp only [AC.refs,Ad] at h
 case clo f Eg=>rw [Ag (by simpa using h)]
 all_goals (first|rfl|rw [Ag (Gl h)])
theorem bC {l:Nat} : ∀ {cs:List AC},l∉cs.flatMap AC.refs->cs.map (Cs l)=cs
 | [],_=>rfl
 |c::r,h=>by
  rw [dc,Az] at h
  rw [Ce,rS (λhh=>h (.inl hh)),bC (λhh=>h (.inr hh))]
theorem HY {l:Nat} : ∀ {v:AV},l∉v.refs->v.map (Cs l)=v
 | .at a,h=>by simp only [AV.map];rw [rS h]
 | .agg cs,h=>by simp only [AV.map];rw [bC h]
 | .cf _ _ _,_=>rfl
 | .Mn ps,h=>by
  simp only [AV.map]
  congr 1
  simp only [AV.refs] at h
  induction ps with
  |nil=>rfl
  |cons p r ih=>
   rw [dc,Az] at h
   rw [Ce,bC (λhh=>h (.inl hh)),ih (λhh=>h (.inr hh))]
theorem HZ {l:Nat} : ∀ {b:OB},l∉b.refs->b.map (Cs l)=b
 | .arr _ _ _ _ _,_=>rfl
 | .Gz _ _ _,_=>rfl
 | .var _ vs,h=>by simp only [OB.map];rw [bC h]
 | .Bp _ _ _ _ _,_=>rfl
 | .Wo _ _,_=>rfl
theorem HO {l:Nat} : ∀ {H:List (Nat×OB)},(∀p∈H,p.1≠l)->bl H l=H
 | [],_=>rfl
 |(k,b)::r,h=>by
  simp only [bl]
  rw [Ag (h (k,b) (by simp)),HO λp hp=>h p (by simp [hp])]
theorem It.forget {l:Nat} {st:St} (h:It l st):st.forget l=st:=by
 have e1:st.tmps.map (λv=>v.map (Cs l))=st.tmps:=(Ev λv hv=>HY (h.tmps v hv)).trans (List.map_id _)
 have e2:st.heap.map (λp=>(p.1,p.2.map (Cs l)))=st.heap:=(Ev λp hp=>by rw [HZ (h.heap p hp).2];rfl).trans (List.map_id _)
 unfold St.forget St.Lb
 simp only [e1,e2]
 rw [HO λp hp=>(h.heap p hp).1]
theorem It.new {l:Nat} {st:St} (h:It l st) (b:OB) (v:AV):(st.new l b).put (some l) v=Jl l v b st:=by
 unfold St.new
 rw [h.forget]
 rfl
theorem vZ {α:Type} : ∀ {xs:List α} {d:Nat} {v x:α},x∈Tj xs d v->x∈xs\/x=v
 | [],_,_,_,h=>by cases h
 |y::r,0,v,x,h=>by
  rcases Be.1 h with h|h
  ·exact .inr h
  ·exact .inl (Ar _ h)
 |y::r,d+1,v,x,h=>by
  rcases Be.1 h with h|h
  ·exact .inl (by rw [h];simp)
  ·exact (vZ h).imp (Ar _) id
theorem JZ: ∀ {H:List (Nat×OB)} {d:Nat} {b:OB} {p:Nat×OB},p∈Ou H d b->p∈H\/p=(d,b)
 | [],d,b,p,h=> .inr (by simpa [Ou] using h)
 |(k,c)::r,d,b,p,h=>by
  simp only [Ou] at h
  split at h
  ·rcases Be.1 h with h|h
   ·exact .inr h
   ·exact .inl h
  ·rcases Be.1 h with h|h
   ·exact .inl (by rw [h];simp)
   ·exact (JZ h).imp (Ar _) id
theorem Agm {d:Nat} {v:AV} {b:OB} {st:St} {x:Operand} (h:x≠ .tmp d):(Jl d v b st).ev x=st.ev x:=by
 cases x with
 |tmp t=>exact eT _ _ _ _ _ (λe=>h (by rw [e]))
 |_=>rfl
theorem UM {d l:Nat} {v:AV} {b:OB} {st:St} (h:d≠l):(Jl d v b st).at l=st.at l:=zx _ _ _ _ h
theorem Abp {d e:Nat} {v u:AV} {b:OB} {st:St} (h:d≠e):(Jl d v b st).put (some e) u=Jl d v b (st.put (some e) u):=by
 unfold Jl St.put
 simp only
 rw [r8 _ _ _ _ _ h]
theorem WV {d l:Nat} {v:AV} {b c:OB} {st:St} (h:d≠l):(Jl d v b st).Kc l c=Jl d v b (st.Kc l c):=by
 unfold Jl St.Kc
 simp only
 rw [AL _ _ _ _ _ h]
theorem ze {d e:Nat} {v u:AV} {b c:OB} {st:St} (h:d≠e):Jl e u c (Jl d v b st)=Jl d v b (Jl e u c st):=by
 unfold Jl
 rw [r8 _ _ _ _ _ h,zE _ _ _ _ _ h]
theorem It.put {d:Nat} {st:St} {e:Nat} {u:AV} (h:It d st) (hde:e≠d) (hu:d∉u.refs):It d (st.put (some e) u):=
 ⟨by show (List.getD (Tj st.tmps e u) d .undef).refs= [];rw [eT _ _ _ _ _ hde];exact h.own,λv hv=>(vZ hv).elim (h.tmps v) λe=>by rw [e];exact hu,h.heap⟩
theorem It.plus {d e:Nat} {u:AV} {c:OB} {st:St} (h:It d st) (hde:d≠e) (hu:d∉u.refs) (hc:d∉c.refs):It d (Jl e u c st):=
 ⟨by show (List.getD (Tj st.tmps e u) d .undef).refs= [];rw [eT _ _ _ _ _ (Gl hde)];exact h.own,λv hv=>(vZ hv).elim (h.tmps v) λe=>by rw [e];exact hu,λp hp=>(JZ hp).elim (h.heap p) λe'=>by rw [e'];exact ⟨Gl hde,hc⟩⟩
theorem It.An7 {d e:Nat} {u:AV} {c:OB} {st:St} (h:It d (Jl e u c st)): ∀p∈st.heap,p.1≠d/\d∉p.2.refs:= λp hp=>h.heap p (by
 show p∈Ou st.heap e c
 generalize st.heap=H at hp
 induction H with
 |nil=>cases hp
 |cons q r ih=>
  obtain ⟨k,a⟩:=q
  simp only [Ou]
  split
  ·exact Ar _ hp
  ·rcases Be.1 hp with hp|hp
   ·rw [hp];simp
   ·exact Ar _ (ih hp))
theorem tH {st st':St} : ∀(τ:Ty) (cs:List AC),cs.all (·.settled)=true->Ff st' τ cs=Ff st τ cs:=by
 intro τ
 induction τ with
 |unit=>intro cs _;cases cs<;>rfl
 |pair a r iX iR=>
  intro cs h
  simp only [Ff]
  rw [Bc] at h
  rw [iX _ (Bc.2 λc hc=>h c (El hc)),iR _ (Bc.2 λc hc=>h c (eC hc))]
 |_=>
  intro cs h
  rcases cs with _|⟨c,_|⟨c',cs⟩⟩
  ·rfl
  ·simp only [Ie,List.all_nil,Bool.and_true] at h
   simp only [Ff]
   exact bQ h
  ·rfl
theorem gX {st st':St} {τ:Ty} {v:AV} (h:v.settled=true):Gc st' τ v=Gc st τ v:=by
 cases v with
 | «at»a=>
  have ha:a.settled=true:=h
  cases a<;>simp only [AC.settled,Dj] at ha
  all_goals
   simp only [Gc]
   rw [Rb rfl,Rb rfl]
   rw [bQ (st:=st) (st':=st') rfl]
 |agg cs=>simp only [Gc];rw [tH _ _ h]
 |cf _ _ _=>rfl
 |Mn _=>rfl
theorem kN {st st':St} : ∀(τ:Ty) (vs:List AV),vs.all (·.settled)=true->Eb st' τ vs=Eb st τ vs
 | .pair a r,v::vs,h=>by
  rw [Ie,Af] at h
  simp only [Eb]
  rw [gX (st:=st) (st':=st') h.1,kN r vs h.2]
 | .pair _ _,[],_=>rfl
 | .unit,[],_=>rfl
 | .unit,_::_,_=>rfl
 | .int _,vs,_=>by cases vs<;>rfl
 | .bool,vs,_=>by cases vs<;>rfl
 | .str,vs,_=>by cases vs<;>rfl
 | .slice _,vs,_=>by cases vs<;>rfl
 | .oslice _,vs,_=>by cases vs<;>rfl
 | .ptr _,vs,_=>by cases vs<;>rfl
 | .optr _,vs,_=>by cases vs<;>rfl
 | .smap _,vs,_=>by cases vs<;>rfl
 | .clo _ _,vs,_=>by cases vs<;>rfl
def Xj:AV->Bool
 | .at (.data _ _ _)=>true
 |_=>false
def kL (o:Oper):List Operand:=match o.op with
 | .move x=> [x]
 | .load _ x=> [x]
 | .call {callee:= .value (.func _),args, .. } =>args.toList
 | .insert _ m k x=> [m,k,x]
 | .buildSlice _ _ parts=>parts.toList.map (·.2)
 |_=> []
def jU (d:Nat):Operand->Bool
 | .tmp t=>!Nat.beq t d
 |_=>true
theorem YO {d:Nat} {x:Operand} (h:jU d x=true):x≠ .tmp d:= λe=>by
 subst e
 simp [jU] at h
def Xn (Γ:Env) (st:St) (o:Oper):Bool:=match o.guard with
 |some _=>false
 |none=>match o.op with
  | .move _=>true
  | .load _ x=>(match st.ev x with
   | .at (.Gy _ _)=>true
   |_=>false)
  | .call {callee:= .value (.func f),args, .. } =>(match Γ f with
   |some (.q _)=>true
   |_=>false)&&args.toList.all λx=>(st.ev x).settled
  | .insert _ m k x=>(match st.ev m with
   | .at (.Kr _)=>true
   |_=>false)&&Xj (st.ev k)&&(st.ev x).settled
  | .buildSlice _ _ parts=>(parts.toList.all λp=>Xj (st.ev p.2))&&(match o.dst with
   |some e=>qG e st
   |none=>false)
  |_=>false
theorem It.ev {d:Nat} {st:St} (h:It d st) (x:Operand):d∉(st.ev x).refs:=by
 cases x with
 |tmp t=>
  simp only [St.ev,St.get]
  rw [Aj]
  by_cases hl:t<st.tmps.length
  ·rw [Ac hl];exact h.tmps _ (Ak hl)
  ·rw [Ec (Nat.le_of_not_lt hl)];simp [AV.refs,AC.refs]
 |const c=>
  simp only [St.ev]
  unfold o4
  split<;>simp [AV.refs,AC.refs]
 |func f=>simp [St.ev,AV.refs,AC.refs]
 |_=>simp [St.ev,AV.refs,AC.refs]
theorem IP: ∀ {H:List (Nat×OB)} {l:Nat} {b:OB},Au H l=some b->(l,b)∈H
 |(k,c)::r,l,b,h=>by
  simp only [Au] at h
  split at h
  ·rename_i e;subst e;cases h;simp
  ·exact Ar _ (IP h)
section
variable {T:Tab} {Γ:Env} {ops:Array Oper} {d:Nat} {v:AV} {b:OB} {t:St}
theorem zZ {e:Option Tmp} (h:e≠some d) (hn:It d t) {y:AV} (hy:d∉y.refs):(Jl d v b t).put e y=Jl d v b (t.put e y)/\It d (t.put e y):=by
 cases e with
 |none=>exact ⟨rfl,hn⟩
 |some k=>exact ⟨Abp (λe=>h (by rw [e])),hn.put (λe=>h (by rw [e])) hy⟩
theorem kb {o:Oper} (hg:o.guard=none) (eV:o.dst≠some d) (hn:It d t) {q:Option AV} (h1:evalOp T Γ (Jl d v b t) o=q.map λy=>(y,Jl d v b t)) (h2:evalOp T Γ t o=q.map λy=>(y,t)) (hq: ∀y,q=some y->d∉y.refs) {s':St}
  (he:Ez T Γ ops (Jl d v b t) o=some s'): ∃t',Ez T Γ ops t o=some t'/\s'=Jl d v b t'/\It d t':=by
 unfold Ez at he⊢
 rw [hg] at he⊢
 simp only at he⊢
 rw [h1] at he
 cases q with
 |none=>cases he
 |some y=>
  obtain ⟨p1,p2⟩:=zZ (v:=v) (b:=b) eV hn (hq y rfl)
  refine ⟨_,by rw [h2];rfl,?_,p2⟩
  simp only [Am,Aa] at he
  rw [<-he,p1]
theorem ar {l:List Operand} (hu:l.all (jU d)=true): ∀x∈l,(Jl d v b t).ev x=t.ev x:= λx hx=>Agm (YO (Bc.1 hu x hx))
theorem QZ {dst:Option Tmp} {x:Operand} {ty:TypeId} {pos:String} {after:Array Edge} (hn:It d t) (hx:(Jl d v b t).ev x=t.ev x) (eV:dst≠some d) {s':St}
  (he:Ez T Γ ops (Jl d v b t) {dst:=dst,op:= .move x,type:=ty,pos:=pos,after:=after,guard:=none} =some s'):
  ∃t',Ez T Γ ops t {dst:=dst,op:= .move x,type:=ty,pos:=pos,after:=after,guard:=none} =some t'/\s'=Jl d v b t'/\It d t':=
 kb rfl eV hn (q:=some (t.ev x)) (by simp only [evalOp,Fl,hx]) (by simp only [evalOp,Fl]) (λy hy=>by cases hy;exact hn.ev x) he
def loadVar (T:Tab) (o:Option OB) (t0:TypeId) (i:Nat):Option AV:=match T.ty t0 with
 |some τ=>(match o with
  |some (.var _ vs)=>if τ.Aq then (if i+τ.size<=vs.length then some (.agg ((vs.drop i).take τ.size)) else none) else vs[i]?.map .at
  |_=>none)
 |none=>none
theorem lW {st:St} {t0:TypeId} {l i:Nat} :Qu T st t0 (.at (.Gy l i))=loadVar T (st.at l) t0 i:=by
 unfold Qu loadVar
 cases T.ty t0<;>rfl
theorem QV {dst:Option Tmp} {t0:TypeId} {x:Operand} {ty:TypeId} {pos:String} {after:Array Edge} (hn:It d t) (hx:(Jl d v b t).ev x=t.ev x) (eV:dst≠some d) {l i:Nat} (hp:t.ev x= .at (.Gy l i)) {s':St}
  (he:Ez T Γ ops (Jl d v b t) {dst:=dst,op:= .load t0 x,type:=ty,pos:=pos,after:=after,guard:=none} =some s'):
  ∃t',Ez T Γ ops t {dst:=dst,op:= .load t0 x,type:=ty,pos:=pos,after:=after,guard:=none} =some t'/\s'=Jl d v b t'/\It d t':=by
 have hld:d≠l:= λe=>by
  have:=hn.ev x
  rw [hp,e] at this
  exact this (by simp [AV.refs,AC.refs])
 refine kb rfl eV hn (q:=loadVar T (t.at l) t0 i) ?_ ?_ (λy hy=>?_) he
 ·simp only [evalOp,Fl,hx,hp]
  rw [lW,UM hld]
 ·simp only [evalOp,Fl,hp]
  rw [lW]
 ·unfold loadVar at hy
  split at hy
  ·split at hy
   ·rename_i vs hb
    have hr:d∉vs.flatMap AC.refs:=(hn.heap _ (IP hb)).2
    have eE: ∀c∈vs,d∉c.refs:= λc hc hd=>hr (Hs.2 ⟨c,hc,hd⟩)
    split at hy
    ·split at hy
     ·cases hy
      intro hd
      obtain ⟨c,hc,hd⟩:=Hs.1 hd
      exact eE c (eC (El hc)) hd
     ·cases hy
    ·cases hv:vs[i]? with
     |none=>rw [hv] at hy;cases hy
     |some c=>
      rw [hv] at hy
      cases hy
      exact eE c (Bv hv)
   ·cases hy
  ·cases hy
theorem WY {l:List Operand} (hu:l.all (jU d)=true):l.map (Jl d v b t).ev=l.map t.ev:=Ev λx hx=>ar hu x hx
theorem OY {dst:Option Tmp} {f:FuncId} {args:Array Operand} {tys:Array TypeId} {ty:TypeId} {pos:String} {after:Array Edge} {sp:Spec} (Ph:Γ f=some (.q sp)) (hn:It d t) (hx:args.toList.map (Jl d v b t).ev=args.toList.map t.ev) (eV:dst≠some d)
  (hs:(args.toList.map t.ev).all (·.settled)=true) {s':St} (he:Ez T Γ ops (Jl d v b t) {dst:=dst,op:= .call {callee:= .value (.func f),args:=args,argTypes:=tys},type:=ty,pos:=pos,after:=after,guard:=none} =some s'):
  ∃t',Ez T Γ ops t {dst:=dst,op:= .call {callee:= .value (.func f),args:=args,argTypes:=tys},type:=ty,pos:=pos,after:=after,guard:=none} =some t'/\s'=Jl d v b t'/\It d t':=by
 have VI:gu sp (args.toList.map t.ev)=false:=by unfold gu;rw [hs];simp
 have PU: ∀st:St,Pf Γ st f (args.toList.map t.ev)=(match Eb t sp.arg (args.toList.map t.ev) with
   |none=>none
   |some (_,x)=>(sp.fn x).map λy=>if sp.Hb then .cf (sp.fresh||sp.res.flat) sp.res y else .at (.data (sp.fresh||sp.res.flat) sp.res y)):= λst=>by
  unfold Pf
  rw [Ph]
  simp only
  rw [hs,kN (st:=t) _ _ hs]
  simp only [Bool.or_true,Pv]
  cases Eb t sp.arg (args.toList.map t.ev)<;>rfl
 refine kb rfl eV hn (q:=Pf Γ t f (args.toList.map t.ev)) ?_ ?_ (λy hy=>?_) he
 ·simp only [evalOp,Fl,Ph,hx,VI]
  rw [PU,PU t]
  simp
 ·simp only [evalOp,Fl,Ph,VI]
  simp
 ·rw [PU t] at hy
  split at hy
  ·cases hy
  ·rename_i x _
   cases hf:sp.fn x with
   |none=>rw [hf] at hy;cases hy
   |some z=>
    rw [hf] at hy
    simp only [Am,Aa] at hy
    rw [<-hy]
    split<;>simp [AV.refs,AC.refs]
def oU (T:Tab) (o:Option OB) (t0:TypeId) (s:ByteArray) (vw:(v:Ty)->Option (Bool×v.den)):Option OB:=match T.mapOf t0 with
 |some v=>(match o,vw v with
  |some (.Wo v' f),some (_,y)=>if h:v'=v/\v.flat=true/\v.Aq=false then some (.Wo v (kH (h.1▸f:ByteArray->Option v.den) s y)) else none
  |_,_=>none)
 |none=>none
theorem lX {st:St} {t0:TypeId} {l:Nat} {fr:Bool} {s:ByteArray} {x:AV} :Jk T st t0 (.at (.Kr l)) (.at (.data fr .str s)) x=(oU T (st.at l) t0 s λv=>Gc st v x).map λc=>st.Kc l c:=by
 unfold Jk oU
 cases T.mapOf t0 with
 |none=>rfl
 |some v0=>
  simp only
  cases st.at l with
  |none=>rfl
  |some c=>
   cases c with
   |Wo v' f=>
    cases Gc st v0 x with
    |none=>rfl
    |some p=>
     simp only
     split<;>rfl
   |_=>rfl
theorem JX {o:Option OB} {t0:TypeId} {s:ByteArray} {vw:(v:Ty)->Option (Bool×v.den)} {c:OB} (h:oU T o t0 s vw=some c):c.refs= []:=by
 unfold oU at h
 split at h
 ·split at h
  ·split at h
   ·cases h;rfl
   ·cases h
  ·cases h
 ·cases h
theorem uW {st:St} {t0:TypeId} {m k x:AV} {s':St} (h:Jk T st t0 m k x=some s'): ∃l fr s,m= .at (.Kr l)/\k= .at (.data fr .str s):=by
 unfold Jk at h
 split at h
 ·exact ⟨_,_,_,rfl,rfl⟩
 ·cases h
theorem KA: ∀ {H:List (Nat×OB)} {l:Nat} {c:OB} {p:Nat×OB},p∈aY H l c->p∈H\/(p.2=c/\p.1=l/\ ∃c',(l,c')∈H)
 |(k,a)::r,l,c,p,h=>by
  simp only [aY] at h
  split at h
  ·rename_i e
   rcases Be.1 h with h|h
   ·subst h;exact .inr ⟨rfl,e,a,by rw [e];simp⟩
   ·exact .inl (Ar _ h)
  ·rcases Be.1 h with h|h
   ·exact .inl (by rw [h];simp)
   ·exact (KA h).imp (Ar _) λ⟨h1,h2,c',h3⟩=>⟨h1,h2,c',Ar _ h3⟩
theorem It.Kc {st:St} {l:Nat} {c:OB} (h:It d st) (hc:d∉c.refs):It d (st.Kc l c):=
 ⟨h.own,h.tmps,λp hp=>(KA hp).elim (h.heap p) λ⟨h1,h2,c',h3⟩=>⟨by rw [h2];exact (h.heap _ h3).1,by rw [h1];exact hc⟩⟩
theorem CO {dst:Option Tmp} {t0:TypeId} {m k x:Operand} {ty:TypeId} {pos:String} {after:Array Edge} (hn:It d t) (hm:(Jl d v b t).ev m=t.ev m) (hk:(Jl d v b t).ev k=t.ev k) (hx:(Jl d v b t).ev x=t.ev x) (eV:dst≠some d)
  (hs:(t.ev x).settled=true) {s':St} (he:Ez T Γ ops (Jl d v b t) {dst:=dst,op:= .insert t0 m k x,type:=ty,pos:=pos,after:=after,guard:=none} =some s'):
  ∃t',Ez T Γ ops t {dst:=dst,op:= .insert t0 m k x,type:=ty,pos:=pos,after:=after,guard:=none} =some t'/\s'=Jl d v b t'/\It d t':=by
 unfold Ez at he⊢
 simp only [evalOp,hm,hk,hx] at he⊢
 cases VF:Jk T (Jl d v b t) t0 (t.ev m) (t.ev k) (t.ev x) with
 |none=>rw [VF] at he;cases he
 |some s1=>
  rw [VF] at he
  simp only [Am,Aa] at he
  obtain ⟨l,fr,s,e1,e2⟩:=uW VF
  have hld:d≠l:= λe=>by
   have:=hn.ev m
   rw [e1,e] at this
   exact this (by simp [AV.refs,AC.refs])
  rw [e1,e2,lX,UM hld] at VF
  have hvw:(λv0=>Gc (Jl d v b t) v0 (t.ev x))= λv0=>Gc t v0 (t.ev x):=funext λv0=>gX hs
  rw [hvw] at VF
  rw [e1,e2,lX]
  cases ho:oU T (t.at l) t0 s λv0=>Gc t v0 (t.ev x) with
  |none=>rw [ho] at VF;cases VF
  |some c=>
   rw [ho] at VF
   simp only [Am,Aa] at VF
   have hc:=JX ho
   have tU:It d (t.Kc l c):=hn.Kc (by rw [hc];simp)
   obtain ⟨p1,p2⟩:=zZ (v:=v) (b:=b) (y:= .undef) eV tU (by simp [AV.refs,AC.refs])
   refine ⟨_,rfl,?_,p2⟩
   rw [<-he,<-VF,WV hld,p1]
theorem It.back {e:Nat} (h:It e (Jl d v b t)) (hde:e≠d) (hn:It d t):It e t:=by
 have hg: ∀k,k≠d->(Jl d v b t).get k=t.get k:= λk hk=>eT _ _ _ _ _ (Gl hk)
 refine ⟨by rw [<-hg e hde];exact h.own,λu hu hd=>?_,h.An7⟩
 obtain ⟨k,hk,rfl⟩:=Cl.1 hu
 have e1:t.get k=t.tmps[k]:=by unfold St.get;rw [Aj,Ac hk];rfl
 by_cases hkd:k=d
 ·subst hkd
  have:=hn.own
  rw [e1] at this
  rw [this] at hd
  cases hd
 ·have h1:=h.ev (.tmp k)
  have h2:(Jl d v b t).ev (.tmp k)=t.tmps[k]:=by show (Jl d v b t).get k=_;rw [hg k hkd,e1]
  rw [h2] at h1
  exact h1 hd
def nz (e:Ty):Nat->List (Nat×AV)->Option (Bool×Bool×List e.den)
 |_,[]=>some (true,true,[])
 |i,(j,x)::r=>if i=j then match Gc ⟨[],[]⟩ e x with
  |some (fr,y)=>match nz e (i+1) r with
   |some (Ww,tr',ys)=>some (fr&&Ww,Ug ⟨[],[]⟩ x&&e.tree&&tr',y::ys)
   |none=>none
  |none=>none
  else none
theorem eI {st:St} {e:Ty} : ∀(l:List (Nat×Operand)) (i:Nat),(l.all λp=>Xj (st.ev p.2))=true->Ll e i l st=(nz e i (l.map λp=>(p.1,st.ev p.2))).map λp=>(p.1,p.2.1,p.2.2,st)
 | [],i,_=>rfl
 |(j,x)::r,i,h=>by
  rw [Ie,Af] at h
  have hx:Xj (st.ev x)=true:=h.1
  simp only [Ll,nz,Ce]
  split
  ·generalize hxv:st.ev x=xv at hx
   unfold Xj at hx
   split at hx
   ·rename_i fr τ z
    have Aml:settle st (.at (.data fr τ z))=some (.at (.data fr τ z),st):=rfl
    rw [Aml]
    simp only
    rw [gX (st:=⟨[],[]⟩) (st':=st) (v:= .at (.data fr τ z)) rfl]
    cases Gc ⟨[],[]⟩ e (.at (.data fr τ z)) with
    |none=>rfl
    |some p=>
     simp only
     rw [eI r (i+1) h.2]
     cases nz e (i+1) (r.map λp=>(p.1,st.ev p.2)) with
     |none=>rfl
     |some q=>rfl
   ·cases hx
  ·rfl
def rowOf (T:Tab) (t0:TypeId) (len:Nat) (parts:List (Nat×AV)) (dst:Nat):Option (AV×OB):=match eU T t0 with
 |some _=>none
 |none=>match T.elem t0 with
  |none=>none
  |some te=>match T.ty te with
   |none=>none
   |some e=>if parts.length=len/\len<=64/\e.size<=64/\dst<Bn then (nz e 0 parts).map λp=>(.at (.own dst 0 len), .arr ((T.vg||e.flat)&&p.1) (T.FN&&p.2.1) e te p.2.2) else none
theorem jd {st:St} {t0:TypeId} {len dst:Nat} {parts:Array (Nat×Operand)} (h:(parts.toList.all λp=>Xj (st.ev p.2))=true):
  Jg T st dst t0 len parts=(rowOf T t0 len (parts.toList.map λp=>(p.1,st.ev p.2)) dst).map λr=>(r.1,st.new dst r.2):=by
 unfold Jg rowOf
 cases eU T t0 with
 |some p=>
  obtain ⟨te,e⟩:=p
  simp only [Option.map_none]
  split
  ·rename_i x hp
   rw [hp,Ie,Af] at h
   have hx:Xj (st.ev x)=true:=h.1
   unfold Xj at hx
   split at hx
   ·rename_i hv;simp only [hv]
   ·cases hx
  ·rfl
 |none=>
  simp only
  unfold Mq
  cases T.elem t0 with
  |none=>rfl
  |some te=>
   simp only
   cases T.ty te with
   |none=>rfl
   |some e=>
    simp only [Dl,Nt]
    split
    ·rw [eI _ 0 h]
     cases nz e 0 (parts.toList.map λp=>(p.1,st.ev p.2))<;>rfl
    ·rfl
theorem sw {t0:TypeId} {len dst:Nat} {parts:List (Nat×AV)} {r:AV×OB} (h:rowOf T t0 len parts dst=some r):uj dst r.1 r.2:=by
 unfold rowOf at h
 split at h
 ·cases h
 ·split at h
  ·cases h
  ·split at h
   ·cases h
   ·split at h
    ·rename_i e _ _
     cases hp:nz e 0 parts with
     |none=>rw [hp] at h;cases h
     |some p=>
      rw [hp] at h
      simp only [Am,Aa] at h
      subst h
      exact ⟨λl hl=>by simpa [AV.refs,AC.refs] using hl,rfl,λl hl=>by simp only [AV.map,Cs];rw [Ag (Gl hl)],λl=>rfl⟩
    ·cases h
theorem HI {e:Nat} {t0:TypeId} {len:Nat} {parts:Array (Nat×Operand)} {ty:TypeId} {pos:String} {after:Array Edge} (_hl:uj d v b) (hn:It d t) (hx: ∀p∈parts.toList,(Jl d v b t).ev p.2=t.ev p.2) (eV:e≠d)
  (hp:(parts.toList.all λp=>Xj (t.ev p.2))=true) (Ih:It e (Jl d v b t)) {s':St} (he:Ez T Γ ops (Jl d v b t) {dst:=some e,op:= .buildSlice t0 len parts,type:=ty,pos:=pos,after:=after,guard:=none} =some s'):
  ∃t',Ez T Γ ops t {dst:=some e,op:= .buildSlice t0 len parts,type:=ty,pos:=pos,after:=after,guard:=none} =some t'/\s'=Jl d v b t'/\It d t':=by
 have Am9:=Ih.back eV hn
 have oG:(parts.toList.all λp=>Xj ((Jl d v b t).ev p.2))=true:=Bc.2 λp CJ=>by rw [hx p CJ];exact Bc.1 hp p CJ
 have hm:(parts.toList.map λp=>(p.1,(Jl d v b t).ev p.2))=parts.toList.map λp=>(p.1,t.ev p.2):=Ev λp CJ=>by rw [hx p CJ]
 unfold Ez at he⊢
 simp only [evalOp] at he⊢
 rw [jd oG,hm] at he
 rw [jd hp]
 cases hr:rowOf T t0 len (parts.toList.map λp=>(p.1,t.ev p.2)) e with
 |none=>rw [hr] at he;cases he
 |some r=>
  rw [hr] at he
  have hL:=sw hr
  simp only [Am,Aa] at he
  rw [Ih.new] at he
  refine ⟨Jl e r.1 r.2 t,by simp only [Am];rw [Am9.new],?_,hn.plus (Gl eV) (λh=>eV (hL.v1 _ h).symm) (by rw [hL.b1];simp)⟩
  rw [<-he,ze (Gl eV)]
def evC:Operand->AV
 | .const c=>o4 c
 |_=> .undef
theorem Al8 {st:St} {x:Operand} (h:Xj (evC x)=true):st.ev x=evC x:=by
 cases x<;>first|rfl|cases h
def fO (T:Tab) (o:Oper):Option (Nat×AV×OB):=match o.guard with
 |some _=>none
 |none=>match o.dst with
  |none=>none
  |some d=>match o.op with
   | .buildSlice t0 len parts=>if (parts.toList.all λp=>Xj (evC p.2))=true then (rowOf T t0 len (parts.toList.map λp=>(p.1,evC p.2)) d).map λr=>(d,r.1,r.2) else none
   | .makeMap t0 none=>match T.mapOf t0 with
    |some τ=>if d<Bn then some (d, .at (.Kr d), .Wo τ λ_=>none) else none
    |none=>none
   |_=>none
theorem fP {o:Oper} {r:Nat×AV×OB} (h:fO T o=some r):o.dst=some r.1/\uj r.1 r.2.1 r.2.2/\ ∀st:St,It r.1 st->Ez T Γ ops st o=some (Jl r.1 r.2.1 r.2.2 st):=by
 obtain ⟨dst,op,ty,pos,after,guard⟩:=o
 unfold fO at h
 cases guard with
 |some g=>cases h
 |none=>
  cases dst with
  |none=>cases h
  |some d=>
   cases op with
   |buildSlice t0 len parts=>
    simp only at h
    split at h
    ·rename_i hp
     cases hr:rowOf T t0 len (parts.toList.map λp=>(p.1,evC p.2)) d with
     |none=>rw [hr] at h;cases h
     |some q=>
      rw [hr] at h
      simp only [Am,Aa] at h
      subst h
      refine ⟨rfl,sw hr,λst Uk=>?_⟩
      have PU: ∀p∈parts.toList,st.ev p.2=evC p.2:= λp CJ=>Al8 (Bc.1 hp p CJ)
      have hm:(parts.toList.map λp=>(p.1,st.ev p.2))=parts.toList.map λp=>(p.1,evC p.2):=Ev λp CJ=>by rw [PU p CJ]
      have oG:(parts.toList.all λp=>Xj (st.ev p.2))=true:=Bc.2 λp CJ=>by rw [PU p CJ];exact Bc.1 hp p CJ
      unfold Ez
      simp only [evalOp]
      rw [jd oG,hm,hr]
      simp only [Am]
      rw [Uk.new]
    ·cases h
   |makeMap t0 hint=>
    cases hint with
    |some x=>cases h
    |none=>
     simp only at h
     split at h
     ·rename_i τ Uq
      split at h
      ·rename_i hd
       cases h
       refine ⟨rfl,⟨λl hl=>by simpa [AV.refs,AC.refs] using hl,rfl,λl hl=>by simp only [AV.map,Cs];rw [Ag (Gl hl)],λl=>rfl⟩,λst Uk=>?_⟩
       unfold Ez
       simp only [evalOp,Vu,Uq,Ab hd,Am]
       rw [Uk.new]
      ·cases h
     ·cases h
   |_=>cases h
theorem EM {l:List Operand} (h: ∀x∈l,(Jl d v b t).ev x=t.ev x):(l.all λx=>((Jl d v b t).ev x).settled)=(l.map t.ev).all (·.settled):=by
 rw [List.all_map]
 induction l with
 |nil=>rfl
 |cons x r ih=>
  simp only [Ie,Function.comp]
  rw [h x (by simp),ih λy hy=>h y (by simp [hy])]
theorem EN {o:Oper} (hl:uj d v b) (hn:It d t) (hs:Xn Γ (Jl d v b t) o=true) (hu:(kL o).all (jU d)=true) (eV:o.dst≠some d) {s':St} (he:Ez T Γ ops (Jl d v b t) o=some s'):
  ∃t',Ez T Γ ops t o=some t'/\s'=Jl d v b t'/\It d t'/\Xn Γ t o=true:=by
 obtain ⟨dst,op,ty,pos,after,guard⟩:=o
 unfold Xn at hs
 cases guard with
 |some g=>cases hs
 |none=>
  simp only at hs
  split at hs
  ·rename_i x
   have hx:=ar (v:=v) (b:=b) (t:=t) hu x (by simp [kL])
   obtain ⟨t',h1,h2,h3⟩:=QZ hn hx eV he
   exact ⟨t',h1,h2,h3,rfl⟩
  ·rename_i t0 x
   have hx:=ar (v:=v) (b:=b) (t:=t) hu x (by simp [kL])
   rw [hx] at hs
   split at hs
   ·rename_i l i hp
    obtain ⟨t',h1,h2,h3⟩:=QV hn hx eV hp he
    exact ⟨t',h1,h2,h3,by simp only [Xn,hp]⟩
   ·cases hs
  ·rename_i f args tys
   rw [Af] at hs
   obtain ⟨eY,lJ⟩:=hs
   split at eY
   ·rename_i sp Ph
    have PU:=ar (v:=v) (b:=b) (t:=t) (l:=args.toList) hu
    rw [EM PU] at lJ
    obtain ⟨t',h1,h2,h3⟩:=OY Ph hn (WY hu) eV lJ he
    refine ⟨t',h1,h2,h3,?_⟩
    simp only [Xn,Ph,cg]
    rw [List.all_map] at lJ
    exact lJ
   ·cases eY
  ·rename_i t0 m k x
   have hm:=ar (v:=v) (b:=b) (t:=t) hu m (by simp [kL])
   have hk:=ar (v:=v) (b:=b) (t:=t) hu k (by simp [kL])
   have hx:=ar (v:=v) (b:=b) (t:=t) hu x (by simp [kL])
   rw [hm,hk,hx] at hs
   have hs0:=hs
   rw [Af] at hs
   obtain ⟨t',h1,h2,h3⟩:=CO hn hm hk hx eV hs.2 he
   exact ⟨t',h1,h2,h3,hs0⟩
  ·rename_i t0 len parts
   rw [Af] at hs
   obtain ⟨eY,lJ⟩:=hs
   cases dst with
   |none=>cases lJ
   |some e=>
    simp only at lJ
    have hed:e≠d:= λh=>eV (by rw [h])
    have ga:(parts.toList.map (λp=>p.2)).all (jU d)=true:=hu
    have PU:=ar (v:=v) (b:=b) (t:=t) ga
    have hx: ∀p∈parts.toList,(Jl d v b t).ev p.2=t.ev p.2:= λp hp=>PU p.2 (Bi.2 ⟨p,hp,rfl⟩)
    have hp:(parts.toList.all λp=>Xj (t.ev p.2))=true:=Bc.2 λp hp=>by rw [<-hx p hp];exact Bc.1 eY p hp
    have Ih:=w8 lJ
    obtain ⟨t',h1,h2,h3⟩:=HI hl hn hx hed hp Ih he
    refine ⟨t',h1,h2,h3,?_⟩
    simp only [Xn,hp,cg]
    exact YN (Ih.back hed hn)
  ·cases hs
def BD:List (Nat×AV×OB)->St->St->Prop
 | [],s,t=>s=t
 |q::Q,s,t=>It q.1 t/\BD Q s (Jl q.1 q.2.1 q.2.2 t)
theorem zU {o:Oper} : ∀(Q:List (Nat×AV×OB)) (s t s':St),BD Q s t->(∀q∈Q,uj q.1 q.2.1 q.2.2/\(kL o).all (jU q.1)=true/\o.dst≠some q.1)->Xn Γ s o=true->Ez T Γ ops s o=some s'->
  ∃t',Ez T Γ ops t o=some t'/\BD Q s' t'/\Xn Γ t o=true
 | [],s,t,s',h,_,hs,he=>by
  have h:s=t:=h
  subst h
  exact ⟨s',he,rfl,hs⟩
 |q::Q,s,t,s',⟨h1,h2⟩,hq,hs,he=>by
  obtain ⟨u',e1,e2,e3⟩:=zU Q s _ s' h2 (λp hp=>hq p (Ar _ hp)) hs he
  obtain ⟨l1,l2,l3⟩:=hq q (by simp)
  obtain ⟨t',f1,f2,f3,f4⟩:=EN l1 h1 e3 l2 l3 e1
  exact ⟨t',f1,⟨f3,by rw [<-f2];exact e2⟩,f4⟩
theorem zV {q:Nat×AV×OB} : ∀(Q1:List (Nat×AV×OB)) {Q2:List (Nat×AV×OB)} {s t:St},BD (Q1++q::Q2) s t->(∀p∈Q1++q::Q2,uj p.1 p.2.1 p.2.2)->(∀p∈Q1,p.1≠q.1)->
  It q.1 t/\BD (Q1++Q2) s (Jl q.1 q.2.1 q.2.2 t)
 | [],Q2,s,t,h,_,_=>h
 |p::Q1,Q2,s,t,⟨h1,h2⟩,hL,Ih=>by
  have hpq:=Ih p (by simp)
  have hLp:=hL p (by simp)
  have hLq:=hL q (by simp)
  obtain ⟨g1,g2⟩:=zV Q1 h2 (λr hr=>hL r (Ar _ hr)) λr hr=>Ih r (Ar _ hr)
  refine ⟨g1.back (Gl hpq) h1,h1.plus hpq (λh=>hpq (hLq.v1 _ h)) (by rw [hLq.b1];simp),?_⟩
  show BD (Q1++Q2) s (Jl p.1 p.2.1 p.2.2 (Jl q.1 q.2.1 q.2.2 t))
  rw [ze (Gl hpq)]
  exact g2
def nM (ops:Array Oper):Nat->Nat->Nat->Bool
 |0,_,_=>false
 |f+1,i,a=>Region.waitsFor .any ops i a||(List.range ops.size).any λk=>Region.waitsFor .any ops i k&&nM ops f k a
theorem mH {Ah:Array Bool} (hc:Uw ops Ah) {a:Nat} : ∀(f i:Nat),(∀x,Region.waitsFor .any ops i x=true->Ah.getD x false=true)->nM ops f i a=true->Ah.getD a false=true
 |0,_,_,h=>by cases h
 |f+1,i,hi,h=>by
  simp only [nM,Kj,Hq,Af] at h
  rcases h with h|⟨k,_,h1,h2⟩
  ·exact hi a h
  ·exact mH hc f k (λx hx=>hc k x (hi k h1) hx) h2
def RH (P:List (Nat×Nat×AV×OB)) (Γ:Env) (ops:Array Oper) (st:St) (o:Oper) (i:Nat):Bool:=
 (P.all λa=>nM ops 5 i a.1)||(Xn Γ st o&&P.all λa=>nM ops 5 i a.1||((kL o).all (jU a.2.1)&&(match o.dst with
  |some e=>!Nat.beq e a.2.1
  |none=>true)))
def Al3 (T:Tab) (Γ:Env) (ops:Array Oper) (P:List (Nat×Nat×AV×OB)) (K:St->Prop):Nat->Array Bool->St->Prop
 |0,Ah,st=>Region.ready .any ops Ah= []/\K st
 |f+1,Ah,st=>Region.ready .any ops Ah≠ []/\ ∀i∈Region.ready .any ops Ah,∃o st',ops[i]?=some o/\RH P Γ ops st o i=true/\Ez T Γ ops st o=some st'/\Al3 T Γ ops P K f (Ah.setIfInBounds i true) st'
structure But (lc la:Array Bool) (Q:List Nat):Prop where
 size:la.size=lc.size
 off: ∀k∈Q,k<la.size/\la.getD k false=false/\lc.getD k false=true
 same: ∀k,k∉Q->la.getD k false=lc.getD k false
theorem But.ready {lc la:Array Bool} {Q:List Nat} (h:But lc la Q) {i:Nat} (hi:i∈Region.ready .any ops la) (hn:i∉Q):i∈Region.ready .any ops lc:=by
 obtain ⟨h1,o,ho,Js⟩:=mem_ready.1 hi
 have Iz:i<la.size:=by
  rcases Nat.lt_or_ge i la.size with h'|h'
  ·exact h'
  ·simp [Array.getElem?_eq_none h'] at h1
 have h2:=getD_both h1
 rw [h.same i hn] at h2
 refine mem_ready.2 ⟨getD_in (by rw [<-h.size];exact Iz) h2,o,ho,λe he hb=>?_⟩
 have h3:=Js e he hb
 by_cases hq:e.on∈Q
 ·exact (h.off _ hq).2.2
 ·rw [<-h.same _ hq];exact h3
theorem But.nil {lc la:Array Bool} (h:But lc la []):la=lc:=by
 refine Array.ext h.size λk h1 h2=>?_
 have:=h.same k (by simp)
 simpa [h1,h2] using this
theorem But.one {lc la:Array Bool} {Q Q':List Nat} {i:Nat} (h:But lc la Q) (hi:i∈Q) (hs: ∀k,k∈Q'↔k∈Q/\k≠i):But lc (la.setIfInBounds i true) Q':=by
 refine ⟨by simp [h.size],λk hk=>?_,λk hk=>?_⟩
 ·obtain ⟨h1,h2⟩:=(hs k).1 hk
  obtain ⟨g1,g2,g3⟩:=h.off k h1
  exact ⟨by simpa using g1,by rw [getD_set_ne false (Gl h2)];exact g2,g3⟩
 ·by_cases e:i=k
  ·subst e
   obtain ⟨g1,g2,g3⟩:=h.off i hi
   rw [g3]
   simp [g1]
  ·rw [getD_set_ne false e]
   exact h.same k λhq=>hk ((hs k).2 ⟨hq,Gl e⟩)
theorem But.both {lc la:Array Bool} {Q:List Nat} {i:Nat} (h:But lc la Q) (hi:i∉Q):But (lc.setIfInBounds i true) (la.setIfInBounds i true) Q:=by
 refine ⟨by simp [h.size],λk hk=>?_,λk hk=>?_⟩
 ·obtain ⟨g1,g2,g3⟩:=h.off k hk
  have Ih:i≠k:= λe=>hi (by rw [e];exact hk)
  exact ⟨by simpa using g1,by rw [getD_set_ne false Ih];exact g2,by rw [getD_set_ne false Ih];exact g3⟩
 ·by_cases e:i=k
  ·subst e
   have hs:=h.same i hi
   have hz:=h.size
   by_cases hl:i<la.size
   ·simp [hl,hz▸hl]
   ·have Kp: ¬i<lc.size:=by omega
    simp [hl,Kp]
  ·rw [getD_set_ne false e,getD_set_ne false e];exact h.same k hk
theorem RF {dst:Option Tmp} {d:Nat} (h:(match dst with
  |some e=>!Nat.beq e d
  |none=>true)=true):dst≠some d:= λe=>by
 subst e
 simp at h
theorem WW {P:List (Nat×Nat×AV×OB)} {K:St->Prop} (hP: ∀a∈P,∃o,ops[a.1]?=some o/\fO T o=some a.2):
  ∀(n f:Nat) (Q:List (Nat×Nat×AV×OB)) (lc la:Array Bool) (s t:St),n=f+Q.length->Al3 T Γ ops P K f lc s->BD (Q.map (·.2)) s t->But lc la (Q.map (·.1))->(∀a∈Q,a∈P)->
   (Q.Pairwise λa c=>a.2.1≠c.2.1/\a.1≠c.1)->Uw ops la->(∀a∈Q,∀x,Region.waitsFor .any ops a.1 x=true->la.getD x false=true)->anyS T Γ ops K n la t:=by
 intro n
 induction n with
 |zero=>
  intro f Q lc la s t hn hC hp hb hQ hpw Ox hw
  have hf:f=0:=by omega
  have hq:Q= []:=Cn (by omega)
  subst hf hq
  have hp:s=t:=hp
  subst hp
  rw [hb.nil]
  exact hC
 |succ n ih=>
  intro f Q lc la s t hn hC hp hb hQ hpw Ox hw
  refine ⟨?_,λi hi=>?_⟩
  ·cases Q with
   |nil=>
    rw [hb.nil]
    cases f with
    |zero=>simp at hn
    |succ f=>exact hC.1
   |cons a Q=>
    obtain ⟨o,ho,_⟩:=hP a (hQ a (by simp))
    obtain ⟨g1,g2,_⟩:=hb.off a.1 (by simp)
    have:a.1∈Region.ready .any ops la:=mem_ready.2 ⟨getD_in g1 g2,o,ho,λe he hbd=>hw a (by simp) e.on (by
     unfold Region.waitsFor
     rw [ho]
     exact Array.any_eq_true'.2 ⟨e,he,by simp [hbd]⟩)⟩
    intro e
    rw [e] at this
    cases this
  ·by_cases hiQ:i∈Q.map (·.1)
   ·obtain ⟨a,ha,rfl⟩:=Bi.1 hiQ
    obtain ⟨Q1,Q2,rfl⟩:=List.append_of_mem ha
    obtain ⟨o,ho,hal⟩:=hP a (hQ a ha)
    obtain ⟨_,_,Uk⟩:=fP (Γ:=Γ) (ops:=ops) hal
    have Acx:=List.pairwise_append.1 hpw
    have Aqp:=List.pairwise_cons.1 Acx.2.1
    rw [Kl,Ce] at hp
    have hL: ∀p∈Q1.map (·.2)++a.2::Q2.map (·.2),uj p.1 p.2.1 p.2.2:= λp CJ=>by
     have:p∈(Q1++a::Q2).map (·.2):=by rw [Kl,Ce];exact CJ
     obtain ⟨c,hc,rfl⟩:=Bi.1 this
     obtain ⟨o',_,Av9⟩:=hP c (hQ c hc)
     exact (fP (Γ:=Γ) (ops:=ops) Av9).2.1
    obtain ⟨p1,p2⟩:=zV _ hp hL λp CJ=>by
     obtain ⟨c,hc,rfl⟩:=Bi.1 CJ
     exact (Acx.2.2 c hc a (by simp)).1
    refine ⟨o,_,ho,Uk t p1,ih f (Q1++Q2) lc _ s _ ?_ hC (by rw [Kl];exact p2) (hb.one hiQ λk=>?_) (λc hc=>hQ c ?_) ?_ (Ox.set hi) λc hc x hx=>getD_set_true (hw c ?_ x hx)⟩
    ·simp only [Ax,Aw] at hn⊢;omega
    ·simp only [Kl,Ce,Az,Be]
     constructor
     ·intro h
      rcases h with h|h
      ·obtain ⟨c,hc,rfl⟩:=Bi.1 h
       exact ⟨.inl h,(Acx.2.2 c hc a (by simp)).2⟩
      ·obtain ⟨c,hc,rfl⟩:=Bi.1 h
       exact ⟨.inr (.inr h),Gl (Aqp.1 c hc).2⟩
     ·rintro ⟨h|h|h,Ih⟩
      ·exact .inl h
      ·exact absurd h Ih
      ·exact .inr h
    ·rcases Az.1 hc with hc|hc
     ·exact Bd _ hc
     ·exact Bx _ (Ar _ hc)
    ·exact List.pairwise_append.2 ⟨Acx.1,Aqp.2,λc hc e he=>Acx.2.2 c hc e (Ar _ he)⟩
    ·rcases Az.1 hc with hc|hc
     ·exact Bd _ hc
     ·exact Bx _ (Ar _ hc)
   ·have hic:=hb.ready hi hiQ
    cases f with
    |zero=>
     rw [hC.1] at hic
     cases hic
    |succ f=>
     obtain ⟨o,s',ho,jE,he,ir⟩:=hC.2 i hic
     have Ahe: ∀a∈Q,nM ops 5 i a.1=false:= λa ha=>by
      cases hwt:nM ops 5 i a.1 with
      |false=>rfl
      |true=>
       have h1:=mH Ox _ i (λx hx=>dG hi hx) hwt
       rw [(hb.off a.1 (Bi.2 ⟨a,ha,rfl⟩)).2.1] at h1
       cases h1
     have key: ∃t',Ez T Γ ops t o=some t'/\BD (Q.map (·.2)) s' t':=by
      unfold RH at jE
      rw [Kj,Af] at jE
      rcases jE with jE|⟨h1,h2⟩
      ·cases Q with
       |nil=>
        have hp:s=t:=hp
        subst hp
        exact ⟨s',he,rfl⟩
       |cons a Q=>
        have:=Bc.1 jE a (hQ a (by simp))
        rw [Ahe a (by simp)] at this
        cases this
      ·obtain ⟨t',g1,g2,_⟩:=zU (T:=T) (ops:=ops) _ s t s' hp (λq hq=>by
        obtain ⟨a,ha,rfl⟩:=Bi.1 hq
        obtain ⟨o',_,hal⟩:=hP a (hQ a ha)
        have h3:=Bc.1 h2 a (hQ a ha)
        rw [Ahe a ha,Pq,Af] at h3
        exact ⟨(fP (Γ:=Γ) (ops:=ops) hal).2.1,h3.1,RF h3.2⟩) h1 he
       exact ⟨t',g1,g2⟩
     obtain ⟨t',g1,g2⟩:=key
     exact ⟨o,t',ho,g1,ih f Q _ _ s' t' (by omega) ir g2 (hb.both hiQ) hQ hpw (Ox.set hi) λc hc x hx=>getD_set_true (hw c hc x hx)⟩
def aq (T:Tab) (ops:Array Oper) (Ah:Array Bool):List (Nat×Nat×AV×OB):=(Region.ready .any ops Ah).filterMap λi=>((ops[i]?).bind (fO T)).map λr=>(i,r)
theorem BK {Ah:Array Bool} {a:Nat×Nat×AV×OB} (h:a∈aq T ops Ah):a.1∈Region.ready .any ops Ah/\ ∃o,ops[a.1]?=some o/\fO T o=some a.2:=by
 unfold aq at h
 obtain ⟨i,hi,he⟩:=List.mem_filterMap.1 h
 cases ho:ops[i]? with
 |none=>rw [ho] at he;cases he
 |some o=>
  rw [ho] at he
  simp only [Ft,Option.map_eq_some_iff] at he
  obtain ⟨r,h1,rfl⟩:=he
  exact ⟨hi,o,ho,h1⟩
theorem Agq {Ah:Array Bool} {Q:List Nat} (h: ∀i∈Q,i∈Region.ready .any ops Ah):But (Ej Q Ah) Ah Q:=by
 have hr: ∀i∈Q,i<Ah.size/\Ah.getD i false=false:= λi hi=>by
  have h1:=(mem_ready.1 (h i hi)).1
  refine ⟨?_,getD_both h1⟩
  rcases Nat.lt_or_ge i Ah.size with h'|h'
  ·exact h'
  ·simp [Array.getElem?_eq_none h'] at h1
 exact ⟨(Xb Q Ah).symm,λk hk=>⟨(hr k hk).1,(hr k hk).2,gk Q Ah k hk (hr k hk).1⟩,λk hk=>(eg Q Ah k hk).symm⟩
theorem LI: ∀(Q:List (Nat×Nat×AV×OB)) (t s:St),(∀a∈Q,∃o,ops[a.1]?=some o/\fO T o=some a.2)->(∀a∈Q,It a.2.1 t)->(Q.Pairwise λa c=>a.2.1≠c.2.1)->Nc T Γ ops (Q.map (·.1)) t=some s->BD (Q.map (·.2)) s t
 | [],t,s,_,_,_,h=>by
  have h:some t=some s:=h
  exact (Ba h).symm
 |a::Q,t,s,hQ,hn,hp,h=>by
  obtain ⟨o,ho,hal⟩:=hQ a (by simp)
  obtain ⟨_,hL,Uk⟩:=fP (Γ:=Γ) (ops:=ops) hal
  obtain ⟨zA,VJ⟩:=List.pairwise_cons.1 hp
  simp only [Ce,Nc,ho] at h
  rw [Uk t (hn a (by simp))] at h
  refine ⟨hn a (by simp),LI Q _ s (λc hc=>hQ c (Ar _ hc)) (λc hc=>?_) VJ h⟩
  exact (hn c (Ar _ hc)).plus (Gl (zA c hc)) (λh=>zA c hc (hL.v1 _ h).symm) (by rw [hL.b1];simp)
end
end Go.Proofs.YtfgfigkbgecfnaaGreat
