/-
  Part 30 of the proof that the statement FnExactIterationNodes holds.
-/
import Derived.Test.YtfolipnappekaaaGreatCIterationNodes28
namespace Go.Proofs.YtfolipnappekaaaGreat
open Go.RowKit
def Jd (d:Nat) (v:AV) (b:OB) (st:St):St:= {tmps:=Su st.tmps d v,heap:=Oj st.heap d b}
def pK (d:Nat) (st:St):Bool:=(st.get d).refs.isEmpty&&((st.tmps.all λv=>!v.refs.contains d)&&st.heap.all λp=>!Nat.beq p.1 d&&!p.2.refs.contains d)
structure Il (d:Nat) (st:St):Prop where
 own:(st.get d).refs= []
 tmps: ∀v∈st.tmps,d∉v.refs
 heap: ∀p∈st.heap,p.1≠d/\d∉p.2.refs
theorem uO {d:Nat} {st:St} (h:pK d st=true):Il d st:=by
 unfold pK at h
 rw [Af,Af,Bd,Bd] at h
 obtain ⟨h0,h⟩:=h
 refine ⟨List.isEmpty_iff.1 h0,λv hv=>?_,λp hp=>?_⟩
 ·have:=h.1 v hv
  intro hd
  rw [Jk.2 hd] at this
  cases this
 ·have:=h.2 p hp
  rw [Af] at this
  refine ⟨λe=>?_,λhd=>?_⟩
  ·have h1:=this.1
   rw [e,Nat.beq_refl] at h1
   cases h1
  ·have h1:=this.2
   rw [Jk.2 hd] at h1
   cases h1
theorem VP {d:Nat} {st:St} (h:Il d st):pK d st=true:=by
 unfold pK
 rw [Af,Af,Bd,Bd]
 refine ⟨by rw [h.own];rfl,λv hv=>?_,λp hp=>?_⟩
 ·rw [Eg,<-Ii,Jk];exact h.tmps v hv
 ·rw [Af]
  refine ⟨?_,?_⟩
  ·rw [Eg,<-Ii]
   exact λe=>(h.heap p hp).1 (Jl e)
  ·rw [Eg,<-Ii,Jk];exact (h.heap p hp).2
structure tj (d:Nat) (v:AV) (b:OB):Prop where
 v1: ∀l,l∈v.refs->l=d
 b1:b.refs= []
 v2: ∀l,l≠d->v.map (Cr l)=v
 b2: ∀l,b.map (Cr l)=b
theorem eb {α:Type} : ∀(xs:List α) (d t:Nat) (v x:α),d≠t->(Su xs d v).getD t x=xs.getD t x
 | [],_,_,_,_,_=>rfl
 |y::r,0,0,_,_,h=>absurd rfl h
 |y::r,0,t+1,_,_,_=>by simp [Su]
 |y::r,d+1,0,_,_,_=>by simp [Su]
 |y::r,d+1,t+1,v,x,h=>by simpa [Su] using eb r d t v x (by omega)
theorem qc {α:Type} : ∀(xs:List α) (d e:Nat) (v w:α),d≠e->Su (Su xs d v) e w=Su (Su xs e w) d v
 | [],_,_,_,_,_=>rfl
 |y::r,0,0,_,_,h=>absurd rfl h
 |y::r,0,e+1,_,_,_=>rfl
 |y::r,d+1,0,_,_,_=>rfl
 |y::r,d+1,e+1,v,w,h=>by simp only [Su];rw [qc r d e v w (by omega)]
theorem yB: ∀(H:List (Nat×OB)) (d l:Nat) (b:OB),d≠l->Au (Oj H d b) l=Au H l
 | [],d,l,b,h=>by simp [Oj,Au,h]
 |(k,c)::r,d,l,b,h=>by
  simp only [Oj]
  split
  ·simp only [Au];rw [Ag h]
  ·simp only [Au]
   split
   ·rfl
   ·exact yB r d l b h
theorem yJ: ∀(H:List (Nat×OB)) (d e:Nat) (b c:OB),d≠e->Oj (Oj H d b) e c=Oj (Oj H e c) d b
 | [],d,e,b,c,h=>by
  simp only [Oj]
  by_cases h1:e<d
  ·rw [Ab h1,Ag (by omega)]
  ·rw [Ag h1,Ab (by omega)]
 |(k,a)::r,d,e,b,c,h=>by
  simp only [Oj]
  by_cases h1:d<k<;>by_cases h2:e<k
  ·rw [Ab h1,Ab h2]
   simp only [Oj]
   by_cases h3:e<d
   ·rw [Ab h3,Ag (by omega),Ab h1]
   ·rw [Ag h3,Ab h2,Ab (by omega)]
  ·rw [Ab h1,Ag h2]
   simp only [Oj]
   rw [Ag (by omega),Ag h2,Ab h1]
  ·rw [Ag h1,Ab h2]
   simp only [Oj]
   rw [Ab h2,Ag (by omega),Ag h1]
  ·rw [Ag h1,Ag h2]
   simp only [Oj]
   rw [Ag h1,Ag h2,yJ r d e b c h]
theorem zj: ∀(H:List (Nat×OB)) (d l:Nat) (b c:OB),d≠l->aE (Oj H d b) l c=Oj (aE H l c) d b
 | [],d,l,b,c,h=>by simp [Oj,aE,h]
 |(k,a)::r,d,l,b,c,h=>by
  simp only [Oj,aE]
  by_cases h1:d<k<;>by_cases h2:k=l
  ·rw [Ab h1,Ab h2]
   simp only [aE,Oj]
   rw [Ag h,Ab h2,Ab h1]
  ·rw [Ab h1,Ag h2]
   simp only [aE,Oj]
   rw [Ag h,Ag h2,Ab h1]
  ·rw [Ag h1,Ab h2]
   simp only [aE,Oj]
   rw [Ab h2,Ag h1]
  ·rw [Ag h1,Ag h2]
   simp only [aE,Oj]
   rw [Ag h2,Ag h1,zj r d l b c h]
theorem qN {l:Nat} : ∀ {c:AC},l∉c.refs->Cr l c=c:=by
 intro c h
 cases c<;>simp only [Cr]<;>simp only [AC.refs,Ae] at h
 case clo f Ee=>rw [Ag (by simpa using h)]
 all_goals (first|rfl|rw [Ag (Gf h)])
theorem bb {l:Nat} : ∀ {cs:List AC},l∉cs.flatMap AC.refs->cs.map (Cr l)=cs
 | [],_=>rfl
 |c::r,h=>by
  rw [cD,Bb] at h
  rw [Cc,qN (λhh=>h (.inl hh)),bb (λhh=>h (.inr hh))]
theorem FU {l:Nat} : ∀ {v:AV},l∉v.refs->v.map (Cr l)=v
 | .at a,h=>by simp only [AV.map];rw [qN h]
 | .agg cs,h=>by simp only [AV.map];rw [bb h]
 | .bL _ _ _,_=>rfl
 | .Ms ps,h=>by
  simp only [AV.map]
  congr 1
  simp only [AV.refs] at h
  induction ps with
  |nil=>rfl
  |cons p r ih=>
   rw [cD,Bb] at h
   rw [Cc,bb (λhh=>h (.inl hh)),ih (λhh=>h (.inr hh))]
theorem FV {l:Nat} : ∀ {b:OB},l∉b.refs->b.map (Cr l)=b
 | .arr _ _ _ _ _,_=>rfl
 | .Gu _ _ _,_=>rfl
 | .var _ vs,h=>by simp only [OB.map];rw [bb h]
 | .Bm _ _ _ _ _,_=>rfl
 | .Vv _ _,_=>rfl
theorem FJ {l:Nat} : ∀ {H:List (Nat×OB)},(∀p∈H,p.1≠l)->aN H l=H
 | [],_=>rfl
 |(k,b)::r,h=>by
  simp only [aN]
  rw [Ag (h (k,b) (by simp)),FJ λp hp=>h p (by simp [hp])]
theorem Il.forget {l:Nat} {st:St} (h:Il l st):st.forget l=st:=by
 have e1:st.tmps.map (λv=>v.map (Cr l))=st.tmps:=(El λv hv=>FU (h.tmps v hv)).trans (List.map_id _)
 have e2:st.heap.map (λp=>(p.1,p.2.map (Cr l)))=st.heap:=(El λp hp=>by rw [FV (h.heap p hp).2];rfl).trans (List.map_id _)
 unfold St.forget St.Ks
 simp only [e1,e2]
 rw [FJ λp hp=>(h.heap p hp).1]
theorem Il.new {l:Nat} {st:St} (h:Il l st) (b:OB) (v:AV):(st.new l b).put (some l) v=Jd l v b st:=by
 unfold St.new
 rw [h.forget]
 rfl
theorem uK {α:Type} : ∀ {xs:List α} {d:Nat} {v x:α},x∈Su xs d v->x∈xs\/x=v
 | [],_,_,_,h=>by cases h
 |y::r,0,v,x,h=>by
  rcases Be.1 h with h|h
  ·exact .inr h
  ·exact .inl (At _ h)
 |y::r,d+1,v,x,h=>by
  rcases Be.1 h with h|h
  ·exact .inl (by rw [h];simp)
  ·exact (uK h).imp (At _) id
theorem HS: ∀ {H:List (Nat×OB)} {d:Nat} {b:OB} {p:Nat×OB},p∈Oj H d b->p∈H\/p=(d,b)
 | [],d,b,p,h=> .inr (by simpa [Oj] using h)
 |(k,c)::r,d,b,p,h=>by
  simp only [Oj] at h
  split at h
  ·rcases Be.1 h with h|h
   ·exact .inr h
   ·exact .inl h
  ·rcases Be.1 h with h|h
   ·exact .inl (by rw [h];simp)
   ·exact (HS h).imp (At _) id
theorem Ae6 {d:Nat} {v:AV} {b:OB} {st:St} {x:Operand} (h:x≠ .tmp d):(Jd d v b st).ev x=st.ev x:=by
 cases x with
 |tmp t=>exact eb _ _ _ _ _ (λe=>h (by rw [e]))
 |_=>rfl
theorem RT {d l:Nat} {v:AV} {b:OB} {st:St} (h:d≠l):(Jd d v b st).at l=st.at l:=yB _ _ _ _ h
theorem ZJ {d e:Nat} {v u:AV} {b:OB} {st:St} (h:d≠e):(Jd d v b st).put (some e) u=Jd d v b (st.put (some e) u):=by
 unfold Jd St.put
 simp only
 rw [qc _ _ _ _ _ h]
theorem UA {d l:Nat} {v:AV} {b c:OB} {st:St} (h:d≠l):(Jd d v b st).Ju l c=Jd d v b (st.Ju l c):=by
 unfold Jd St.Ju
 simp only
 rw [zj _ _ _ _ _ h]
theorem yh {d e:Nat} {v u:AV} {b c:OB} {st:St} (h:d≠e):Jd e u c (Jd d v b st)=Jd d v b (Jd e u c st):=by
 unfold Jd
 rw [qc _ _ _ _ _ h,yJ _ _ _ _ _ h]
theorem Il.put {d:Nat} {st:St} {e:Nat} {u:AV} (h:Il d st) (hde:e≠d) (hu:d∉u.refs):Il d (st.put (some e) u):=
 ⟨by show (List.getD (Su st.tmps e u) d .undef).refs= [];rw [eb _ _ _ _ _ hde];exact h.own,λv hv=>(uK hv).elim (h.tmps v) λe=>by rw [e];exact hu,h.heap⟩
theorem Il.plus {d e:Nat} {u:AV} {c:OB} {st:St} (h:Il d st) (hde:d≠e) (hu:d∉u.refs) (hc:d∉c.refs):Il d (Jd e u c st):=
 ⟨by show (List.getD (Su st.tmps e u) d .undef).refs= [];rw [eb _ _ _ _ _ (Gf hde)];exact h.own,λv hv=>(uK hv).elim (h.tmps v) λe=>by rw [e];exact hu,λp hp=>(HS hp).elim (h.heap p) λe'=>by rw [e'];exact ⟨Gf hde,hc⟩⟩
theorem Il.Akl {d e:Nat} {u:AV} {c:OB} {st:St} (h:Il d (Jd e u c st)): ∀p∈st.heap,p.1≠d/\d∉p.2.refs:= λp hp=>h.heap p (by
 show p∈Oj st.heap e c
 generalize st.heap=H at hp
 induction H with
 |nil=>cases hp
 |cons q r ih=>
  obtain ⟨k,a⟩:=q
  simp only [Oj]
  split
  ·exact At _ hp
  ·rcases Be.1 hp with hp|hp
   ·rw [hp];simp
   ·exact At _ (ih hp))
theorem sF {st st':St} : ∀(τ:Ty) (cs:List AC),cs.all (·.settled)=true->Ew st' τ cs=Ew st τ cs:=by
 intro τ
 induction τ with
 |unit=>intro cs _;cases cs<;>rfl
 |pair a r hZ gW=>
  intro cs h
  simp only [Ew]
  rw [Bd] at h
  rw [hZ _ (Bd.2 λc hc=>h c (Gp hc)),gW _ (Bd.2 λc hc=>h c (dK hc))]
 |_=>
  intro cs h
  rcases cs with _|⟨c,_|⟨c',cs⟩⟩
  ·rfl
  ·simp only [Hx,List.all_nil,Bool.and_true] at h
   simp only [Ew]
   exact br h
  ·rfl
theorem ga {st st':St} {τ:Ty} {v:AV} (h:v.settled=true):Fq st' τ v=Fq st τ v:=by
 cases v with
 | «at»a=>
  have ha:a.settled=true:=h
  cases a<;>simp only [AC.settled,Dh] at ha
  all_goals
   simp only [Fq]
   rw [Ql rfl,Ql rfl]
   rw [br (st:=st) (st':=st') rfl]
 |agg cs=>simp only [Fq];rw [sF _ _ h]
 |bL _ _ _=>rfl
 |Ms _=>rfl
theorem jR {st st':St} : ∀(τ:Ty) (vs:List AV),vs.all (·.settled)=true->Dx st' τ vs=Dx st τ vs
 | .pair a r,v::vs,h=>by
  rw [Hx,Af] at h
  simp only [Dx]
  rw [ga (st:=st) (st':=st') h.1,jR r vs h.2]
 | .pair _ _,[],_=>rfl
 | .unit,[],_=>rfl
 | .unit,_::_,_=>rfl
 | .int _,vs,_=>by cases vs<;>rfl
 | .bool,vs,_=>by cases vs<;>rfl
 | .str,vs,_=>by cases vs<;>rfl
 | .slice _,vs,_=>by cases vs<;>rfl
 | .oslice _,vs,_=>by cases vs<;>rfl
 | .ptr _,vs,_=>by cases vs<;>rfl
 | .optr _,vs,_=>by cases vs<;>rfl
 | .smap _,vs,_=>by cases vs<;>rfl
 | .clo _ _,vs,_=>by cases vs<;>rfl
def Wq:AV->Bool
 | .at (.data _ _ _)=>true
 |_=>false
def jP (o:Oper):List Operand:=match o.op with
 | .move x=> [x]
 | .load _ x=> [x]
 | .call {callee:= .value (.func _),args, .. } =>args.toList
 | .insert _ m k x=> [m,k,x]
 | .buildSlice _ _ parts=>parts.toList.map (·.2)
 |_=> []
def jf (d:Nat):Operand->Bool
 | .tmp t=>!Nat.beq t d
 |_=>true
theorem VQ {d:Nat} {x:Operand} (h:jf d x=true):x≠ .tmp d:= λe=>by
 subst e
 simp [jf] at h
def Wt (Γ:Env) (st:St) (o:Oper):Bool:=match o.guard with
 |some _=>false
 |none=>match o.op with
  | .move _=>true
  | .load _ x=>(match st.ev x with
   | .at (.Hj _ _)=>true
   |_=>false)
  | .call {callee:= .value (.func f),args, .. } =>(match Γ f with
   |some (.q _)=>true
   |_=>false)&&args.toList.all λx=>(st.ev x).settled
  | .insert _ m k x=>(match st.ev m with
   | .at (.Kh _)=>true
   |_=>false)&&Wq (st.ev k)&&(st.ev x).settled
  | .buildSlice _ _ parts=>(parts.toList.all λp=>Wq (st.ev p.2))&&(match o.dst with
   |some e=>pK e st
   |none=>false)
  |_=>false
theorem Il.ev {d:Nat} {st:St} (h:Il d st) (x:Operand):d∉(st.ev x).refs:=by
 cases x with
 |tmp t=>
  simp only [St.ev,St.get]
  rw [Ak]
  by_cases hl:t<st.tmps.length
  ·rw [Ac hl];exact h.tmps _ (Aj hl)
  ·rw [Fy (Nat.le_of_not_lt hl)];simp [AV.refs,AC.refs]
 |const c=>
  simp only [St.ev]
  unfold nk
  split<;>simp [AV.refs,AC.refs]
 |func f=>simp [St.ev,AV.refs,AC.refs]
 |_=>simp [St.ev,AV.refs,AC.refs]
theorem GK: ∀ {H:List (Nat×OB)} {l:Nat} {b:OB},Au H l=some b->(l,b)∈H
 |(k,c)::r,l,b,h=>by
  simp only [Au] at h
  split at h
  ·rename_i e;subst e;cases h;simp
  ·exact At _ (GK h)
section
variable {T:Tab} {Γ:Env} {ops:Array Oper} {d:Nat} {v:AV} {b:OB} {t:St}
theorem z9 {e:Option Tmp} (h:e≠some d) (hn:Il d t) {y:AV} (hy:d∉y.refs):(Jd d v b t).put e y=Jd d v b (t.put e y)/\Il d (t.put e y):=by
 cases e with
 |none=>exact ⟨rfl,hn⟩
 |some k=>exact ⟨ZJ (λe=>h (by rw [e])),hn.put (λe=>h (by rw [e])) hy⟩
theorem jm {o:Oper} (hg:o.guard=none) (ee:o.dst≠some d) (hn:Il d t) {q:Option AV} (h1:evalOp T Γ (Jd d v b t) o=q.map λy=>(y,Jd d v b t)) (h2:evalOp T Γ t o=q.map λy=>(y,t)) (hq: ∀y,q=some y->d∉y.refs) {s':St}
  (he:Er T Γ ops (Jd d v b t) o=some s'): ∃t',Er T Γ ops t o=some t'/\s'=Jd d v b t'/\Il d t':=by
 unfold Er at he⊢
 rw [hg] at he⊢
 simp only at he⊢
 rw [h1] at he
 cases q with
 |none=>cases he
 |some y=>
  obtain ⟨p1,p2⟩:=z9 (v:=v) (b:=b) ee hn (hq y rfl)
  refine ⟨_,by rw [h2];rfl,?_,p2⟩
  simp only [Am,Aa] at he
  rw [<-he,p1]
theorem Zu {l:List Operand} (hu:l.all (jf d)=true): ∀x∈l,(Jd d v b t).ev x=t.ev x:= λx hx=>Ae6 (VQ (Bd.1 hu x hx))
theorem OC {dst:Option Tmp} {x:Operand} {ty:TypeId} {pos:String} {after:Array Edge} (hn:Il d t) (hx:(Jd d v b t).ev x=t.ev x) (ee:dst≠some d) {s':St}
  (he:Er T Γ ops (Jd d v b t) {dst:=dst,op:= .move x,type:=ty,pos:=pos,after:=after,guard:=none} =some s'):
  ∃t',Er T Γ ops t {dst:=dst,op:= .move x,type:=ty,pos:=pos,after:=after,guard:=none} =some t'/\s'=Jd d v b t'/\Il d t':=
 jm rfl ee hn (q:=some (t.ev x)) (by simp only [evalOp,Fa,hx]) (by simp only [evalOp,Fa]) (λy hy=>by cases hy;exact hn.ev x) he
def loadVar (T:Tab) (o:Option OB) (t0:TypeId) (i:Nat):Option AV:=match T.ty t0 with
 |some τ=>(match o with
  |some (.var _ vs)=>if τ.Aq then (if i+τ.size<=vs.length then some (.agg ((vs.drop i).take τ.size)) else none) else vs[i]?.map .at
  |_=>none)
 |none=>none
theorem lb {st:St} {t0:TypeId} {l i:Nat} :Qh T st t0 (.at (.Hj l i))=loadVar T (st.at l) t0 i:=by
 unfold Qh loadVar
 cases T.ty t0<;>rfl
theorem NX {dst:Option Tmp} {t0:TypeId} {x:Operand} {ty:TypeId} {pos:String} {after:Array Edge} (hn:Il d t) (hx:(Jd d v b t).ev x=t.ev x) (ee:dst≠some d) {l i:Nat} (hp:t.ev x= .at (.Hj l i)) {s':St}
  (he:Er T Γ ops (Jd d v b t) {dst:=dst,op:= .load t0 x,type:=ty,pos:=pos,after:=after,guard:=none} =some s'):
  ∃t',Er T Γ ops t {dst:=dst,op:= .load t0 x,type:=ty,pos:=pos,after:=after,guard:=none} =some t'/\s'=Jd d v b t'/\Il d t':=by
 have hld:d≠l:= λe=>by
  have:=hn.ev x
  rw [hp,e] at this
  exact this (by simp [AV.refs,AC.refs])
 refine jm rfl ee hn (q:=loadVar T (t.at l) t0 i) ?_ ?_ (λy hy=>?_) he
 ·simp only [evalOp,Fa,hx,hp]
  rw [lb,RT hld]
 ·simp only [evalOp,Fa,hp]
  rw [lb]
 ·unfold loadVar at hy
  split at hy
  ·split at hy
   ·rename_i vs hb
    have hr:d∉vs.flatMap AC.refs:=(hn.heap _ (GK hb)).2
    have dM: ∀c∈vs,d∉c.refs:= λc hc hd=>hr (Hl.2 ⟨c,hc,hd⟩)
    split at hy
    ·split at hy
     ·cases hy
      intro hd
      obtain ⟨c,hc,hd⟩:=Hl.1 hd
      exact dM c (dK (Gp hc)) hd
     ·cases hy
    ·cases hv:vs[i]? with
     |none=>rw [hv] at hy;cases hy
     |some c=>
      rw [hv] at hy
      cases hy
      exact dM c (Bs hv)
   ·cases hy
  ·cases hy
theorem UD {l:List Operand} (hu:l.all (jf d)=true):l.map (Jd d v b t).ev=l.map t.ev:=El λx hx=>Zu hu x hx
theorem MF {dst:Option Tmp} {f:FuncId} {args:Array Operand} {tys:Array TypeId} {ty:TypeId} {pos:String} {after:Array Edge} {sp:Spec} (Pl:Γ f=some (.q sp)) (hn:Il d t) (hx:args.toList.map (Jd d v b t).ev=args.toList.map t.ev) (ee:dst≠some d)
  (hs:(args.toList.map t.ev).all (·.settled)=true) {s':St} (he:Er T Γ ops (Jd d v b t) {dst:=dst,op:= .call {callee:= .value (.func f),args:=args,argTypes:=tys},type:=ty,pos:=pos,after:=after,guard:=none} =some s'):
  ∃t',Er T Γ ops t {dst:=dst,op:= .call {callee:= .value (.func f),args:=args,argTypes:=tys},type:=ty,pos:=pos,after:=after,guard:=none} =some t'/\s'=Jd d v b t'/\Il d t':=by
 have SO:fz sp (args.toList.map t.ev)=false:=by unfold fz;rw [hs];simp
 have MX: ∀st:St,Ow Γ st f (args.toList.map t.ev)=(match Dx t sp.arg (args.toList.map t.ev) with
   |none=>none
   |some (_,x)=>(sp.fn x).map λy=>if sp.He then .bL (sp.fresh||sp.res.flat) sp.res y else .at (.data (sp.fresh||sp.res.flat) sp.res y)):= λst=>by
  unfold Ow
  rw [Pl]
  simp only
  rw [hs,jR (st:=t) _ _ hs]
  simp only [Bool.or_true,Pn]
  cases Dx t sp.arg (args.toList.map t.ev)<;>rfl
 refine jm rfl ee hn (q:=Ow Γ t f (args.toList.map t.ev)) ?_ ?_ (λy hy=>?_) he
 ·simp only [evalOp,Fa,Pl,hx,SO]
  rw [MX,MX t]
  simp
 ·simp only [evalOp,Fa,Pl,SO]
  simp
 ·rw [MX t] at hy
  split at hy
  ·cases hy
  ·rename_i x _
   cases hf:sp.fn x with
   |none=>rw [hf] at hy;cases hy
   |some z=>
    rw [hf] at hy
    simp only [Am,Aa] at hy
    rw [<-hy]
    split<;>simp [AV.refs,AC.refs]
def nZ (T:Tab) (o:Option OB) (t0:TypeId) (s:ByteArray) (vw:(v:Ty)->Option (Bool×v.den)):Option OB:=match T.mapOf t0 with
 |some v=>(match o,vw v with
  |some (.Vv v' f),some (_,y)=>if h:v'=v/\v.flat=true/\v.Aq=false then some (.Vv v (jL (h.1▸f:ByteArray->Option v.den) s y)) else none
  |_,_=>none)
 |none=>none
theorem ld {st:St} {t0:TypeId} {l:Nat} {fr:Bool} {s:ByteArray} {x:AV} :Jc T st t0 (.at (.Kh l)) (.at (.data fr .str s)) x=(nZ T (st.at l) t0 s λv=>Fq st v x).map λc=>st.Ju l c:=by
 unfold Jc nZ
 cases T.mapOf t0 with
 |none=>rfl
 |some v0=>
  simp only
  cases st.at l with
  |none=>rfl
  |some c=>
   cases c with
   |Vv v' f=>
    cases Fq st v0 x with
    |none=>rfl
    |some p=>
     simp only
     split<;>rfl
   |_=>rfl
theorem HQ {o:Option OB} {t0:TypeId} {s:ByteArray} {vw:(v:Ty)->Option (Bool×v.den)} {c:OB} (h:nZ T o t0 s vw=some c):c.refs= []:=by
 unfold nZ at h
 split at h
 ·split at h
  ·split at h
   ·cases h;rfl
   ·cases h
  ·cases h
 ·cases h
theorem tX {st:St} {t0:TypeId} {m k x:AV} {s':St} (h:Jc T st t0 m k x=some s'): ∃l fr s,m= .at (.Kh l)/\k= .at (.data fr .str s):=by
 unfold Jc at h
 split at h
 ·exact ⟨_,_,_,rfl,rfl⟩
 ·cases h
theorem HT: ∀ {H:List (Nat×OB)} {l:Nat} {c:OB} {p:Nat×OB},p∈aE H l c->p∈H\/(p.2=c/\p.1=l/\ ∃c',(l,c')∈H)
 |(k,a)::r,l,c,p,h=>by
  simp only [aE] at h
  split at h
  ·rename_i e
   rcases Be.1 h with h|h
   ·subst h;exact .inr ⟨rfl,e,a,by rw [e];simp⟩
   ·exact .inl (At _ h)
  ·rcases Be.1 h with h|h
   ·exact .inl (by rw [h];simp)
   ·exact (HT h).imp (At _) λ⟨h1,h2,c',h3⟩=>⟨h1,h2,c',At _ h3⟩
theorem Il.Ju {st:St} {l:Nat} {c:OB} (h:Il d st) (hc:d∉c.refs):Il d (st.Ju l c):=
 ⟨h.own,h.tmps,λp hp=>(HT hp).elim (h.heap p) λ⟨h1,h2,c',h3⟩=>⟨by rw [h2];exact (h.heap _ h3).1,by rw [h1];exact hc⟩⟩
theorem AK {dst:Option Tmp} {t0:TypeId} {m k x:Operand} {ty:TypeId} {pos:String} {after:Array Edge} (hn:Il d t) (hm:(Jd d v b t).ev m=t.ev m) (hk:(Jd d v b t).ev k=t.ev k) (hx:(Jd d v b t).ev x=t.ev x) (ee:dst≠some d)
  (hs:(t.ev x).settled=true) {s':St} (he:Er T Γ ops (Jd d v b t) {dst:=dst,op:= .insert t0 m k x,type:=ty,pos:=pos,after:=after,guard:=none} =some s'):
  ∃t',Er T Γ ops t {dst:=dst,op:= .insert t0 m k x,type:=ty,pos:=pos,after:=after,guard:=none} =some t'/\s'=Jd d v b t'/\Il d t':=by
 unfold Er at he⊢
 simp only [evalOp,hm,hk,hx] at he⊢
 cases SL:Jc T (Jd d v b t) t0 (t.ev m) (t.ev k) (t.ev x) with
 |none=>rw [SL] at he;cases he
 |some s1=>
  rw [SL] at he
  simp only [Am,Aa] at he
  obtain ⟨l,fr,s,e1,e2⟩:=tX SL
  have hld:d≠l:= λe=>by
   have:=hn.ev m
   rw [e1,e] at this
   exact this (by simp [AV.refs,AC.refs])
  rw [e1,e2,ld,RT hld] at SL
  have hvw:(λv0=>Fq (Jd d v b t) v0 (t.ev x))= λv0=>Fq t v0 (t.ev x):=funext λv0=>ga hs
  rw [hvw] at SL
  rw [e1,e2,ld]
  cases ho:nZ T (t.at l) t0 s λv0=>Fq t v0 (t.ev x) with
  |none=>rw [ho] at SL;cases SL
  |some c=>
   rw [ho] at SL
   simp only [Am,Aa] at SL
   have hc:=HQ ho
   have sP:Il d (t.Ju l c):=hn.Ju (by rw [hc];simp)
   obtain ⟨p1,p2⟩:=z9 (v:=v) (b:=b) (y:= .undef) ee sP (by simp [AV.refs,AC.refs])
   refine ⟨_,rfl,?_,p2⟩
   rw [<-he,<-SL,UA hld,p1]
theorem Il.back {e:Nat} (h:Il e (Jd d v b t)) (hde:e≠d) (hn:Il d t):Il e t:=by
 have hg: ∀k,k≠d->(Jd d v b t).get k=t.get k:= λk hk=>eb _ _ _ _ _ (Gf hk)
 refine ⟨by rw [<-hg e hde];exact h.own,λu hu hd=>?_,h.Akl⟩
 obtain ⟨k,hk,rfl⟩:=Cl.1 hu
 have e1:t.get k=t.tmps[k]:=by unfold St.get;rw [Ak,Ac hk];rfl
 by_cases hkd:k=d
 ·subst hkd
  have:=hn.own
  rw [e1] at this
  rw [this] at hd
  cases hd
 ·have h1:=h.ev (.tmp k)
  have h2:(Jd d v b t).ev (.tmp k)=t.tmps[k]:=by show (Jd d v b t).get k=_;rw [hg k hkd,e1]
  rw [h2] at h1
  exact h1 hd
def mF (e:Ty):Nat->List (Nat×AV)->Option (Bool×Bool×List e.den)
 |_,[]=>some (true,true,[])
 |i,(j,x)::r=>if i=j then match Fq ⟨[],[]⟩ e x with
  |some (fr,y)=>match mF e (i+1) r with
   |some (Wf,tr',ys)=>some (fr&&Wf,Tn ⟨[],[]⟩ x&&e.tree&&tr',y::ys)
   |none=>none
  |none=>none
  else none
theorem dQ {st:St} {e:Ty} : ∀(l:List (Nat×Operand)) (i:Nat),(l.all λp=>Wq (st.ev p.2))=true->Lb e i l st=(mF e i (l.map λp=>(p.1,st.ev p.2))).map λp=>(p.1,p.2.1,p.2.2,st)
 | [],i,_=>rfl
 |(j,x)::r,i,h=>by
  rw [Hx,Af] at h
  have hx:Wq (st.ev x)=true:=h.1
  simp only [Lb,mF,Cc]
  split
  ·generalize hxv:st.ev x=xv at hx
   unfold Wq at hx
   split at hx
   ·rename_i fr τ z
    have Ak1:settle st (.at (.data fr τ z))=some (.at (.data fr τ z),st):=rfl
    rw [Ak1]
    simp only
    rw [ga (st:=⟨[],[]⟩) (st':=st) (v:= .at (.data fr τ z)) rfl]
    cases Fq ⟨[],[]⟩ e (.at (.data fr τ z)) with
    |none=>rfl
    |some p=>
     simp only
     rw [dQ r (i+1) h.2]
     cases mF e (i+1) (r.map λp=>(p.1,st.ev p.2)) with
     |none=>rfl
     |some q=>rfl
   ·cases hx
  ·rfl
def rowOf (T:Tab) (t0:TypeId) (len:Nat) (parts:List (Nat×AV)) (dst:Nat):Option (AV×OB):=match ec T t0 with
 |some _=>none
 |none=>match T.elem t0 with
  |none=>none
  |some te=>match T.ty te with
   |none=>none
   |some e=>if parts.length=len/\len<=64/\e.size<=64/\dst<Bn then (mF e 0 parts).map λp=>(.at (.own dst 0 len), .arr ((T.u9||e.flat)&&p.1) (T.DK&&p.2.1) e te p.2.2) else none
theorem iu {st:St} {t0:TypeId} {len dst:Nat} {parts:Array (Nat×Operand)} (h:(parts.toList.all λp=>Wq (st.ev p.2))=true):
  Iz T st dst t0 len parts=(rowOf T t0 len (parts.toList.map λp=>(p.1,st.ev p.2)) dst).map λr=>(r.1,st.new dst r.2):=by
 unfold Iz rowOf
 cases ec T t0 with
 |some p=>
  obtain ⟨te,e⟩:=p
  simp only [Option.map_none]
  split
  ·rename_i x hp
   rw [hp,Hx,Af] at h
   have hx:Wq (st.ev x)=true:=h.1
   unfold Wq at hx
   split at hx
   ·rename_i hv;simp only [hv]
   ·cases hx
  ·rfl
 |none=>
  simp only
  unfold Mi
  cases T.elem t0 with
  |none=>rfl
  |some te=>
   simp only
   cases T.ty te with
   |none=>rfl
   |some e=>
    simp only [Dj,Xp]
    split
    ·rw [dQ _ 0 h]
     cases mF e 0 (parts.toList.map λp=>(p.1,st.ev p.2))<;>rfl
    ·rfl
theorem rz {t0:TypeId} {len dst:Nat} {parts:List (Nat×AV)} {r:AV×OB} (h:rowOf T t0 len parts dst=some r):tj dst r.1 r.2:=by
 unfold rowOf at h
 split at h
 ·cases h
 ·split at h
  ·cases h
  ·split at h
   ·cases h
   ·split at h
    ·rename_i e _ _
     cases hp:mF e 0 parts with
     |none=>rw [hp] at h;cases h
     |some p=>
      rw [hp] at h
      simp only [Am,Aa] at h
      subst h
      exact ⟨λl hl=>by simpa [AV.refs,AC.refs] using hl,rfl,λl hl=>by simp only [AV.map,Cr];rw [Ag (Gf hl)],λl=>rfl⟩
    ·cases h
theorem FD {e:Nat} {t0:TypeId} {len:Nat} {parts:Array (Nat×Operand)} {ty:TypeId} {pos:String} {after:Array Edge} (_hl:tj d v b) (hn:Il d t) (hx: ∀p∈parts.toList,(Jd d v b t).ev p.2=t.ev p.2) (ee:e≠d)
  (hp:(parts.toList.all λp=>Wq (t.ev p.2))=true) (Ik:Il e (Jd d v b t)) {s':St} (he:Er T Γ ops (Jd d v b t) {dst:=some e,op:= .buildSlice t0 len parts,type:=ty,pos:=pos,after:=after,guard:=none} =some s'):
  ∃t',Er T Γ ops t {dst:=some e,op:= .buildSlice t0 len parts,type:=ty,pos:=pos,after:=after,guard:=none} =some t'/\s'=Jd d v b t'/\Il d t':=by
 have Ajp:=Ik.back ee hn
 have nM:(parts.toList.all λp=>Wq ((Jd d v b t).ev p.2))=true:=Bd.2 λp AG=>by rw [hx p AG];exact Bd.1 hp p AG
 have hm:(parts.toList.map λp=>(p.1,(Jd d v b t).ev p.2))=parts.toList.map λp=>(p.1,t.ev p.2):=El λp AG=>by rw [hx p AG]
 unfold Er at he⊢
 simp only [evalOp] at he⊢
 rw [iu nM,hm] at he
 rw [iu hp]
 cases hr:rowOf T t0 len (parts.toList.map λp=>(p.1,t.ev p.2)) e with
 |none=>rw [hr] at he;cases he
 |some r=>
  rw [hr] at he
  have hL:=rz hr
  simp only [Am,Aa] at he
  rw [Ik.new] at he
  refine ⟨Jd e r.1 r.2 t,by simp only [Am];rw [Ajp.new],?_,hn.plus (Gf ee) (λh=>ee (hL.v1 _ h).symm) (by rw [hL.b1];simp)⟩
  rw [<-he,yh (Gf ee)]
def evC:Operand->AV
 | .const c=>nk c
 |_=> .undef
theorem Aip {st:St} {x:Operand} (h:Wq (evC x)=true):st.ev x=evC x:=by
 cases x<;>first|rfl|cases h
def eW (T:Tab) (o:Oper):Option (Nat×AV×OB):=match o.guard with
 |some _=>none
 |none=>match o.dst with
  |none=>none
  |some d=>match o.op with
   | .buildSlice t0 len parts=>if (parts.toList.all λp=>Wq (evC p.2))=true then (rowOf T t0 len (parts.toList.map λp=>(p.1,evC p.2)) d).map λr=>(d,r.1,r.2) else none
   | .makeMap t0 none=>match T.mapOf t0 with
    |some τ=>if d<Bn then some (d, .at (.Kh d), .Vv τ λ_=>none) else none
    |none=>none
   |_=>none
theorem eX {o:Oper} {r:Nat×AV×OB} (h:eW T o=some r):o.dst=some r.1/\tj r.1 r.2.1 r.2.2/\ ∀st:St,Il r.1 st->Er T Γ ops st o=some (Jd r.1 r.2.1 r.2.2 st):=by
 obtain ⟨dst,op,ty,pos,after,guard⟩:=o
 unfold eW at h
 cases guard with
 |some g=>cases h
 |none=>
  cases dst with
  |none=>cases h
  |some d=>
   cases op with
   |buildSlice t0 len parts=>
    simp only at h
    split at h
    ·rename_i hp
     cases hr:rowOf T t0 len (parts.toList.map λp=>(p.1,evC p.2)) d with
     |none=>rw [hr] at h;cases h
     |some q=>
      rw [hr] at h
      simp only [Am,Aa] at h
      subst h
      refine ⟨rfl,rz hr,λst Ts=>?_⟩
      have MX: ∀p∈parts.toList,st.ev p.2=evC p.2:= λp AG=>Aip (Bd.1 hp p AG)
      have hm:(parts.toList.map λp=>(p.1,st.ev p.2))=parts.toList.map λp=>(p.1,evC p.2):=El λp AG=>by rw [MX p AG]
      have nM:(parts.toList.all λp=>Wq (st.ev p.2))=true:=Bd.2 λp AG=>by rw [MX p AG];exact Bd.1 hp p AG
      unfold Er
      simp only [evalOp]
      rw [iu nM,hm,hr]
      simp only [Am]
      rw [Ts.new]
    ·cases h
   |makeMap t0 hint=>
    cases hint with
    |some x=>cases h
    |none=>
     simp only at h
     split at h
     ·rename_i τ Tz
      split at h
      ·rename_i hd
       cases h
       refine ⟨rfl,⟨λl hl=>by simpa [AV.refs,AC.refs] using hl,rfl,λl hl=>by simp only [AV.map,Cr];rw [Ag (Gf hl)],λl=>rfl⟩,λst Ts=>?_⟩
       unfold Er
       simp only [evalOp,Vd,Tz,Ab hd,Am]
       rw [Ts.new]
      ·cases h
     ·cases h
   |_=>cases h
theorem CJ {l:List Operand} (h: ∀x∈l,(Jd d v b t).ev x=t.ev x):(l.all λx=>((Jd d v b t).ev x).settled)=(l.map t.ev).all (·.settled):=by
 rw [List.all_map]
 induction l with
 |nil=>rfl
 |cons x r ih=>
  simp only [Hx,Function.comp]
  rw [h x (by simp),ih λy hy=>h y (by simp [hy])]
theorem CL {o:Oper} (hl:tj d v b) (hn:Il d t) (hs:Wt Γ (Jd d v b t) o=true) (hu:(jP o).all (jf d)=true) (ee:o.dst≠some d) {s':St} (he:Er T Γ ops (Jd d v b t) o=some s'):
  ∃t',Er T Γ ops t o=some t'/\s'=Jd d v b t'/\Il d t'/\Wt Γ t o=true:=by
 obtain ⟨dst,op,ty,pos,after,guard⟩:=o
 unfold Wt at hs
 cases guard with
 |some g=>cases hs
 |none=>
  simp only at hs
  split at hs
  ·rename_i x
   have hx:=Zu (v:=v) (b:=b) (t:=t) hu x (by simp [jP])
   obtain ⟨t',h1,h2,h3⟩:=OC hn hx ee he
   exact ⟨t',h1,h2,h3,rfl⟩
  ·rename_i t0 x
   have hx:=Zu (v:=v) (b:=b) (t:=t) hu x (by simp [jP])
   rw [hx] at hs
   split at hs
   ·rename_i l i hp
    obtain ⟨t',h1,h2,h3⟩:=NX hn hx ee hp he
    exact ⟨t',h1,h2,h3,by simp only [Wt,hp]⟩
   ·cases hs
  ·rename_i f args tys
   rw [Af] at hs
   obtain ⟨fi,mU⟩:=hs
   split at fi
   ·rename_i sp Pl
    have MX:=Zu (v:=v) (b:=b) (t:=t) (l:=args.toList) hu
    rw [CJ MX] at mU
    obtain ⟨t',h1,h2,h3⟩:=MF Pl hn (UD hu) ee mU he
    refine ⟨t',h1,h2,h3,?_⟩
    simp only [Wt,Pl,bM]
    rw [List.all_map] at mU
    exact mU
   ·cases fi
  ·rename_i t0 m k x
   have hm:=Zu (v:=v) (b:=b) (t:=t) hu m (by simp [jP])
   have hk:=Zu (v:=v) (b:=b) (t:=t) hu k (by simp [jP])
   have hx:=Zu (v:=v) (b:=b) (t:=t) hu x (by simp [jP])
   rw [hm,hk,hx] at hs
   have hs0:=hs
   rw [Af] at hs
   obtain ⟨t',h1,h2,h3⟩:=AK hn hm hk hx ee hs.2 he
   exact ⟨t',h1,h2,h3,hs0⟩
  ·rename_i t0 len parts
   rw [Af] at hs
   obtain ⟨fi,mU⟩:=hs
   cases dst with
   |none=>cases mU
   |some e=>
    simp only at mU
    have hed:e≠d:= λh=>ee (by rw [h])
    have fj:(parts.toList.map (λp=>p.2)).all (jf d)=true:=hu
    have MX:=Zu (v:=v) (b:=b) (t:=t) fj
    have hx: ∀p∈parts.toList,(Jd d v b t).ev p.2=t.ev p.2:= λp hp=>MX p.2 (Bj.2 ⟨p,hp,rfl⟩)
    have hp:(parts.toList.all λp=>Wq (t.ev p.2))=true:=Bd.2 λp hp=>by rw [<-hx p hp];exact Bd.1 fi p hp
    have Ik:=uO mU
    obtain ⟨t',h1,h2,h3⟩:=FD hl hn hx hed hp Ik he
    refine ⟨t',h1,h2,h3,?_⟩
    simp only [Wt,hp,bM]
    exact VP (Ik.back hed hn)
  ·cases hs
def zz:List (Nat×AV×OB)->St->St->Prop
 | [],s,t=>s=t
 |q::Q,s,t=>Il q.1 t/\zz Q s (Jd q.1 q.2.1 q.2.2 t)
theorem yZ {o:Oper} : ∀(Q:List (Nat×AV×OB)) (s t s':St),zz Q s t->(∀q∈Q,tj q.1 q.2.1 q.2.2/\(jP o).all (jf q.1)=true/\o.dst≠some q.1)->Wt Γ s o=true->Er T Γ ops s o=some s'->
  ∃t',Er T Γ ops t o=some t'/\zz Q s' t'/\Wt Γ t o=true
 | [],s,t,s',h,_,hs,he=>by
  have h:s=t:=h
  subst h
  exact ⟨s',he,rfl,hs⟩
 |q::Q,s,t,s',⟨h1,h2⟩,hq,hs,he=>by
  obtain ⟨u',e1,e2,e3⟩:=yZ Q s _ s' h2 (λp hp=>hq p (At _ hp)) hs he
  obtain ⟨l1,l2,l3⟩:=hq q (by simp)
  obtain ⟨t',f1,f2,f3,f4⟩:=CL l1 h1 e3 l2 l3 e1
  exact ⟨t',f1,⟨f3,by rw [<-f2];exact e2⟩,f4⟩
theorem z0 {q:Nat×AV×OB} : ∀(Q1:List (Nat×AV×OB)) {Q2:List (Nat×AV×OB)} {s t:St},zz (Q1++q::Q2) s t->(∀p∈Q1++q::Q2,tj p.1 p.2.1 p.2.2)->(∀p∈Q1,p.1≠q.1)->
  Il q.1 t/\zz (Q1++Q2) s (Jd q.1 q.2.1 q.2.2 t)
 | [],Q2,s,t,h,_,_=>h
 |p::Q1,Q2,s,t,⟨h1,h2⟩,hL,Ik=>by
  have hpq:=Ik p (by simp)
  have hLp:=hL p (by simp)
  have hLq:=hL q (by simp)
  obtain ⟨g1,g2⟩:=z0 Q1 h2 (λr hr=>hL r (At _ hr)) λr hr=>Ik r (At _ hr)
  refine ⟨g1.back (Gf hpq) h1,h1.plus hpq (λh=>hpq (hLq.v1 _ h)) (by rw [hLq.b1];simp),?_⟩
  show zz (Q1++Q2) s (Jd p.1 p.2.1 p.2.2 (Jd q.1 q.2.1 q.2.2 t))
  rw [yh (Gf hpq)]
  exact g2
def mR (ops:Array Oper):Nat->Nat->Nat->Bool
 |0,_,_=>false
 |f+1,i,a=>Region.waitsFor .any ops i a||(List.range ops.size).any λk=>Region.waitsFor .any ops i k&&mR ops f k a
theorem lT {Ah:Array Bool} (hc:Ue ops Ah) {a:Nat} : ∀(f i:Nat),(∀x,Region.waitsFor .any ops i x=true->Ah.getD x false=true)->mR ops f i a=true->Ah.getD a false=true
 |0,_,_,h=>by cases h
 |f+1,i,hi,h=>by
  simp only [mR,Kb,Kk,Af] at h
  rcases h with h|⟨k,_,h1,h2⟩
  ·exact hi a h
  ·exact lT hc f k (λx hx=>hc k x (hi k h1) hx) h2
def OI (P:List (Nat×Nat×AV×OB)) (Γ:Env) (ops:Array Oper) (st:St) (o:Oper) (i:Nat):Bool:=
 (P.all λa=>mR ops 5 i a.1)||(Wt Γ st o&&P.all λa=>mR ops 5 i a.1||((jP o).all (jf a.2.1)&&(match o.dst with
  |some e=>!Nat.beq e a.2.1
  |none=>true)))
def Aij (T:Tab) (Γ:Env) (ops:Array Oper) (P:List (Nat×Nat×AV×OB)) (K:St->Prop):Nat->Array Bool->St->Prop
 |0,Ah,st=>Region.ready .any ops Ah= []/\K st
 |f+1,Ah,st=>Region.ready .any ops Ah≠ []/\ ∀i∈Region.ready .any ops Ah,∃o st',ops[i]?=some o/\OI P Γ ops st o i=true/\Er T Γ ops st o=some st'/\Aij T Γ ops P K f (Ah.setIfInBounds i true) st'
structure YN (lc la:Array Bool) (Q:List Nat):Prop where
 size:la.size=lc.size
 off: ∀k∈Q,k<la.size/\la.getD k false=false/\lc.getD k false=true
 same: ∀k,k∉Q->la.getD k false=lc.getD k false
theorem YN.ready {lc la:Array Bool} {Q:List Nat} (h:YN lc la Q) {i:Nat} (hi:i∈Region.ready .any ops la) (hn:i∉Q):i∈Region.ready .any ops lc:=by
 obtain ⟨h1,o,ho,Kf⟩:=mem_ready.1 hi
 have It:i<la.size:=by
  rcases Nat.lt_or_ge i la.size with h'|h'
  ·exact h'
  ·simp [Array.getElem?_eq_none h'] at h1
 have h2:=getD_both h1
 rw [h.same i hn] at h2
 refine mem_ready.2 ⟨getD_in (by rw [<-h.size];exact It) h2,o,ho,λe he hb=>?_⟩
 have h3:=Kf e he hb
 by_cases hq:e.on∈Q
 ·exact (h.off _ hq).2.2
 ·rw [<-h.same _ hq];exact h3
theorem YN.nil {lc la:Array Bool} (h:YN lc la []):la=lc:=by
 refine Array.ext h.size λk h1 h2=>?_
 have:=h.same k (by simp)
 simpa [h1,h2] using this
theorem YN.one {lc la:Array Bool} {Q Q':List Nat} {i:Nat} (h:YN lc la Q) (hi:i∈Q) (hs: ∀k,k∈Q'↔k∈Q/\k≠i):YN lc (la.setIfInBounds i true) Q':=by
 refine ⟨by simp [h.size],λk hk=>?_,λk hk=>?_⟩
 ·obtain ⟨h1,h2⟩:=(hs k).1 hk
  obtain ⟨g1,g2,g3⟩:=h.off k h1
  exact ⟨by simpa using g1,by rw [getD_set_ne false (Gf h2)];exact g2,g3⟩
 ·by_cases e:i=k
  ·subst e
   obtain ⟨g1,g2,g3⟩:=h.off i hi
   rw [g3]
   simp [g1]
  ·rw [getD_set_ne false e]
   exact h.same k λhq=>hk ((hs k).2 ⟨hq,Gf e⟩)
theorem YN.both {lc la:Array Bool} {Q:List Nat} {i:Nat} (h:YN lc la Q) (hi:i∉Q):YN (lc.setIfInBounds i true) (la.setIfInBounds i true) Q:=by
 refine ⟨by simp [h.size],λk hk=>?_,λk hk=>?_⟩
 ·obtain ⟨g1,g2,g3⟩:=h.off k hk
  have Ik:i≠k:= λe=>hi (by rw [e];exact hk)
  exact ⟨by simpa using g1,by rw [getD_set_ne false Ik];exact g2,by rw [getD_set_ne false Ik];exact g3⟩
 ·by_cases e:i=k
  ·subst e
   have hs:=h.same i hi
   have hz:=h.size
   by_cases hl:i<la.size
   ·simp [hl,hz▸hl]
   ·have Kn: ¬i<lc.size:=by omega
    simp [hl,Kn]
  ·rw [getD_set_ne false e,getD_set_ne false e];exact h.same k hk
theorem OG {dst:Option Tmp} {d:Nat} (h:(match dst with
  |some e=>!Nat.beq e d
  |none=>true)=true):dst≠some d:= λe=>by
 subst e
 simp at h
theorem UB {P:List (Nat×Nat×AV×OB)} {K:St->Prop} (hP: ∀a∈P,∃o,ops[a.1]?=some o/\eW T o=some a.2):
  ∀(n f:Nat) (Q:List (Nat×Nat×AV×OB)) (lc la:Array Bool) (s t:St),n=f+Q.length->Aij T Γ ops P K f lc s->zz (Q.map (·.2)) s t->YN lc la (Q.map (·.1))->(∀a∈Q,a∈P)->
   (Q.Pairwise λa c=>a.2.1≠c.2.1/\a.1≠c.1)->Ue ops la->(∀a∈Q,∀x,Region.waitsFor .any ops a.1 x=true->la.getD x false=true)->anyS T Γ ops K n la t:=by
 intro n
 induction n with
 |zero=>
  intro f Q lc la s t hn hC hp hb hQ hpw Pe hw
  have hf:f=0:=by omega
  have hq:Q= []:=Ck (by omega)
  subst hf hq
  have hp:s=t:=hp
  subst hp
  rw [hb.nil]
  exact hC
 |succ n ih=>
  intro f Q lc la s t hn hC hp hb hQ hpw Pe hw
  refine ⟨?_,λi hi=>?_⟩
  ·cases Q with
   |nil=>
    rw [hb.nil]
    cases f with
    |zero=>simp at hn
    |succ f=>exact hC.1
   |cons a Q=>
    obtain ⟨o,ho,_⟩:=hP a (hQ a (by simp))
    obtain ⟨g1,g2,_⟩:=hb.off a.1 (by simp)
    have:a.1∈Region.ready .any ops la:=mem_ready.2 ⟨getD_in g1 g2,o,ho,λe he hbd=>hw a (by simp) e.on (by
     unfold Region.waitsFor
     rw [ho]
     exact Array.any_eq_true'.2 ⟨e,he,by simp [hbd]⟩)⟩
    intro e
    rw [e] at this
    cases this
  ·by_cases hiQ:i∈Q.map (·.1)
   ·obtain ⟨a,ha,rfl⟩:=Bj.1 hiQ
    obtain ⟨Q1,Q2,rfl⟩:=List.append_of_mem ha
    obtain ⟨o,ho,hal⟩:=hP a (hQ a ha)
    obtain ⟨_,_,Ts⟩:=eX (Γ:=Γ) (ops:=ops) hal
    have Aak:=List.pairwise_append.1 hpw
    have Ao5:=List.pairwise_cons.1 Aak.2.1
    rw [Kc,Cc] at hp
    have hL: ∀p∈Q1.map (·.2)++a.2::Q2.map (·.2),tj p.1 p.2.1 p.2.2:= λp AG=>by
     have:p∈(Q1++a::Q2).map (·.2):=by rw [Kc,Cc];exact AG
     obtain ⟨c,hc,rfl⟩:=Bj.1 this
     obtain ⟨o',_,Asj⟩:=hP c (hQ c hc)
     exact (eX (Γ:=Γ) (ops:=ops) Asj).2.1
    obtain ⟨p1,p2⟩:=z0 _ hp hL λp AG=>by
     obtain ⟨c,hc,rfl⟩:=Bj.1 AG
     exact (Aak.2.2 c hc a (by simp)).1
    refine ⟨o,_,ho,Ts t p1,ih f (Q1++Q2) lc _ s _ ?_ hC (by rw [Kc];exact p2) (hb.one hiQ λk=>?_) (λc hc=>hQ c ?_) ?_ (Pe.set hi) λc hc x hx=>getD_set_true (hw c ?_ x hx)⟩
    ·simp only [Ax,Az] at hn⊢;omega
    ·simp only [Kc,Cc,Bb,Be]
     constructor
     ·intro h
      rcases h with h|h
      ·obtain ⟨c,hc,rfl⟩:=Bj.1 h
       exact ⟨.inl h,(Aak.2.2 c hc a (by simp)).2⟩
      ·obtain ⟨c,hc,rfl⟩:=Bj.1 h
       exact ⟨.inr (.inr h),Gf (Ao5.1 c hc).2⟩
     ·rintro ⟨h|h|h,Ik⟩
      ·exact .inl h
      ·exact absurd h Ik
      ·exact .inr h
    ·rcases Bb.1 hc with hc|hc
     ·exact Bc _ hc
     ·exact Bu _ (At _ hc)
    ·exact List.pairwise_append.2 ⟨Aak.1,Ao5.2,λc hc e he=>Aak.2.2 c hc e (At _ he)⟩
    ·rcases Bb.1 hc with hc|hc
     ·exact Bc _ hc
     ·exact Bu _ (At _ hc)
   ·have hic:=hb.ready hi hiQ
    cases f with
    |zero=>
     rw [hC.1] at hic
     cases hic
    |succ f=>
     obtain ⟨o,s',ho,iY,he,gy⟩:=hC.2 i hic
     have Aew: ∀a∈Q,mR ops 5 i a.1=false:= λa ha=>by
      cases hwt:mR ops 5 i a.1 with
      |false=>rfl
      |true=>
       have h1:=lT Pe _ i (λx hx=>cY hi hx) hwt
       rw [(hb.off a.1 (Bj.2 ⟨a,ha,rfl⟩)).2.1] at h1
       cases h1
     have key: ∃t',Er T Γ ops t o=some t'/\zz (Q.map (·.2)) s' t':=by
      unfold OI at iY
      rw [Kb,Af] at iY
      rcases iY with iY|⟨h1,h2⟩
      ·cases Q with
       |nil=>
        have hp:s=t:=hp
        subst hp
        exact ⟨s',he,rfl⟩
       |cons a Q=>
        have:=Bd.1 iY a (hQ a (by simp))
        rw [Aew a (by simp)] at this
        cases this
      ·obtain ⟨t',g1,g2,_⟩:=yZ (T:=T) (ops:=ops) _ s t s' hp (λq hq=>by
        obtain ⟨a,ha,rfl⟩:=Bj.1 hq
        obtain ⟨o',_,hal⟩:=hP a (hQ a ha)
        have h3:=Bd.1 h2 a (hQ a ha)
        rw [Aew a ha,Pg,Af] at h3
        exact ⟨(eX (Γ:=Γ) (ops:=ops) hal).2.1,h3.1,OG h3.2⟩) h1 he
       exact ⟨t',g1,g2⟩
     obtain ⟨t',g1,g2⟩:=key
     exact ⟨o,t',ho,g1,ih f Q _ _ s' t' (by omega) gy g2 (hb.both hiQ) hQ hpw (Pe.set hi) λc hc x hx=>getD_set_true (hw c hc x hx)⟩
def Zt (T:Tab) (ops:Array Oper) (Ah:Array Bool):List (Nat×Nat×AV×OB):=(Region.ready .any ops Ah).filterMap λi=>((ops[i]?).bind (eW T)).map λr=>(i,r)
theorem zG {Ah:Array Bool} {a:Nat×Nat×AV×OB} (h:a∈Zt T ops Ah):a.1∈Region.ready .any ops Ah/\ ∃o,ops[a.1]?=some o/\eW T o=some a.2:=by
 unfold Zt at h
 obtain ⟨i,hi,he⟩:=List.mem_filterMap.1 h
 cases ho:ops[i]? with
 |none=>rw [ho] at he;cases he
 |some o=>
  rw [ho] at he
  simp only [Fh,Option.map_eq_some_iff] at he
  obtain ⟨r,h1,rfl⟩:=he
  exact ⟨hi,o,ho,h1⟩
theorem Ae9 {Ah:Array Bool} {Q:List Nat} (h: ∀i∈Q,i∈Region.ready .any ops Ah):YN (Fo Q Ah) Ah Q:=by
 have hr: ∀i∈Q,i<Ah.size/\Ah.getD i false=false:= λi hi=>by
  have h1:=(mem_ready.1 (h i hi)).1
  refine ⟨?_,getD_both h1⟩
  rcases Nat.lt_or_ge i Ah.size with h'|h'
  ·exact h'
  ·simp [Array.getElem?_eq_none h'] at h1
 exact ⟨(Wj Q Ah).symm,λk hk=>⟨(hr k hk).1,(hr k hk).2,fp Q Ah k hk (hr k hk).1⟩,λk hk=>(dz Q Ah k hk).symm⟩
theorem IW: ∀(Q:List (Nat×Nat×AV×OB)) (t s:St),(∀a∈Q,∃o,ops[a.1]?=some o/\eW T o=some a.2)->(∀a∈Q,Il a.2.1 t)->(Q.Pairwise λa c=>a.2.1≠c.2.1)->Mv T Γ ops (Q.map (·.1)) t=some s->zz (Q.map (·.2)) s t
 | [],t,s,_,_,_,h=>by
  have h:some t=some s:=h
  exact (Ba h).symm
 |a::Q,t,s,hQ,hn,hp,h=>by
  obtain ⟨o,ho,hal⟩:=hQ a (by simp)
  obtain ⟨_,hL,Ts⟩:=eX (Γ:=Γ) (ops:=ops) hal
  obtain ⟨yE,SP⟩:=List.pairwise_cons.1 hp
  simp only [Cc,Mv,ho] at h
  rw [Ts t (hn a (by simp))] at h
  refine ⟨hn a (by simp),IW Q _ s (λc hc=>hQ c (At _ hc)) (λc hc=>?_) SP h⟩
  exact (hn c (At _ hc)).plus (Gf (yE c hc)) (λh=>yE c hc (hL.v1 _ h).symm) (by rw [hL.b1];simp)
end
end Go.Proofs.YtfolipnappekaaaGreat
