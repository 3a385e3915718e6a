/-
  Part 30 of the proof that the statement FnNoShorterSolution holds.
-/
import Derived.Test.YtkkdpknjohcekaaGreatCFNoShorterSolution28
namespace Go.Proofs.YtkkdpknjohcekaaGreat
open Go.RowKit
def Jy (d:Nat) (v:AV) (b:OB) (st:St):St:= {tmps:=Td st.tmps d v,heap:=Oz st.heap d b}
def pv (d:Nat) (st:St):Bool:=(st.get d).refs.isEmpty&&((st.tmps.all λv=>!v.refs.contains d)&&st.heap.all λp=>!Nat.beq p.1 d&&!p.2.refs.contains d)
structure Jd (d:Nat) (st:St):Prop where
 own:(st.get d).refs= []
 tmps: ∀v∈st.tmps,d∉v.refs
 heap: ∀p∈st.heap,p.1≠d/\d∉p.2.refs
theorem u5 {d:Nat} {st:St} (h:pv d st=true):Jd d st:=by
 unfold pv at h
 rw [Af,Af,Az,Az] at h
 obtain ⟨h0,h⟩:=h
 refine ⟨List.isEmpty_iff.1 h0,λv hv=>?_,λp hp=>?_⟩
 ·have:=h.1 v hv
  intro hd
  rw [Ke.2 hd] at this
  cases this
 ·have:=h.2 p hp
  rw [Af] at this
  refine ⟨λe=>?_,λhd=>?_⟩
  ·have h1:=this.1
   rw [e,Nat.beq_refl] at h1
   cases h1
  ·have h1:=this.2
   rw [Ke.2 hd] at h1
   cases h1
theorem TK {d:Nat} {st:St} (h:Jd d st):pv d st=true:=by
 unfold pv
 rw [Af,Af,Az,Az]
 refine ⟨by rw [h.own];rfl,λv hv=>?_,λp hp=>?_⟩
 ·rw [Es,<-Hy,Ke];exact h.tmps v hv
 ·rw [Af]
  refine ⟨?_,?_⟩
  ·rw [Es,<-Hy]
   exact λe=>(h.heap p hp).1 (Kg e)
  ·rw [Es,<-Hy,Ke];exact (h.heap p hp).2
structure ss (d:Nat) (v:AV) (b:OB):Prop where
 v1: ∀l,l∈v.refs->l=d
 b1:b.refs= []
 v2: ∀l,l≠d->v.map (Ck l)=v
 b2: ∀l,b.map (Ck l)=b
theorem er {α:Type} : ∀(xs:List α) (d t:Nat) (v x:α),d≠t->(Td xs d v).getD t x=xs.getD t x
 | [],_,_,_,_,_=>rfl
 |y::r,0,0,_,_,h=>absurd rfl h
 |y::r,0,t+1,_,_,_=>by simp [Td]
 |y::r,d+1,0,_,_,_=>by simp [Td]
 |y::r,d+1,t+1,v,x,h=>by simpa [Td] using er r d t v x (by omega)
theorem pN {α:Type} : ∀(xs:List α) (d e:Nat) (v w:α),d≠e->Td (Td xs d v) e w=Td (Td xs e w) d v
 | [],_,_,_,_,_=>rfl
 |y::r,0,0,_,_,h=>absurd rfl h
 |y::r,0,e+1,_,_,_=>rfl
 |y::r,d+1,0,_,_,_=>rfl
 |y::r,d+1,e+1,v,w,h=>by simp only [Td];rw [pN r d e v w (by omega)]
theorem xx: ∀(H:List (Nat×OB)) (d l:Nat) (b:OB),d≠l->Aw (Oz H d b) l=Aw H l
 | [],d,l,b,h=>by simp [Oz,Aw,h]
 |(k,c)::r,d,l,b,h=>by
  simp only [Oz]
  split
  ·simp only [Aw];rw [Ai h]
  ·simp only [Aw]
   split
   ·rfl
   ·exact xx r d l b h
theorem xC: ∀(H:List (Nat×OB)) (d e:Nat) (b c:OB),d≠e->Oz (Oz H d b) e c=Oz (Oz H e c) d b
 | [],d,e,b,c,h=>by
  simp only [Oz]
  by_cases h1:e<d
  ·rw [Ab h1,Ai (by omega)]
  ·rw [Ai h1,Ab (by omega)]
 |(k,a)::r,d,e,b,c,h=>by
  simp only [Oz]
  by_cases h1:d<k<;>by_cases h2:e<k
  ·rw [Ab h1,Ab h2]
   simp only [Oz]
   by_cases h3:e<d
   ·rw [Ab h3,Ai (by omega),Ab h1]
   ·rw [Ai h3,Ab h2,Ab (by omega)]
  ·rw [Ab h1,Ai h2]
   simp only [Oz]
   rw [Ai (by omega),Ai h2,Ab h1]
  ·rw [Ai h1,Ab h2]
   simp only [Oz]
   rw [Ab h2,Ai (by omega),Ai h1]
  ·rw [Ai h1,Ai h2]
   simp only [Oz]
   rw [Ai h1,Ai h2,xC r d e b c h]
theorem yi: ∀(H:List (Nat×OB)) (d l:Nat) (b c:OB),d≠l->aB (Oz H d b) l c=Oz (aB H l c) d b
 | [],d,l,b,c,h=>by simp [Oz,aB,h]
 |(k,a)::r,d,l,b,c,h=>by
  simp only [Oz,aB]
  by_cases h1:d<k<;>by_cases h2:k=l
  ·rw [Ab h1,Ab h2]
   simp only [aB,Oz]
   rw [Ai h,Ab h2,Ab h1]
  ·rw [Ab h1,Ai h2]
   simp only [aB,Oz]
   rw [Ai h,Ai h2,Ab h1]
  ·rw [Ai h1,Ab h2]
   simp only [aB,Oz]
   rw [Ab h2,Ai h1]
  ·rw [Ai h1,Ai h2]
   simp only [aB,Oz]
   rw [Ai h2,Ai h1,yi r d l b c h]
theorem qh {l:Nat} : ∀ {c:AC},l∉c.refs->Ck l c=c:=by
 intro c h
 cases c<;>simp only [Ck]<;>simp only [AC.refs,Ad] at h
 case clo f Ee=>rw [Ai (by simpa using h)]
 all_goals (first|rfl|rw [Ai (Hs h)])
theorem aY {l:Nat} : ∀ {cs:List AC},l∉cs.flatMap AC.refs->cs.map (Ck l)=cs
 | [],_=>rfl
 |c::r,h=>by
  rw [cC,Bb] at h
  rw [Ca,qh (λhh=>h (.inl hh)),aY (λhh=>h (.inr hh))]
theorem DZ {l:Nat} : ∀ {v:AV},l∉v.refs->v.map (Ck l)=v
 | .at a,h=>by simp only [AV.map];rw [qh h]
 | .agg cs,h=>by simp only [AV.map];rw [aY h]
 | .bF _ _ _,_=>rfl
 | .Ng ps,h=>by
  simp only [AV.map]
  congr 1
  simp only [AV.refs] at h
  induction ps with
  |nil=>rfl
  |cons p r ih=>
   rw [cC,Bb] at h
   rw [Ca,aY (λhh=>h (.inl hh)),ih (λhh=>h (.inr hh))]
theorem EA {l:Nat} : ∀ {b:OB},l∉b.refs->b.map (Ck l)=b
 | .arr _ _ _ _ _,_=>rfl
 | .He _ _ _,_=>rfl
 | .var _ vs,h=>by simp only [OB.map];rw [aY h]
 | .Bo _ _ _ _ _,_=>rfl
 | .Vy _ _,_=>rfl
theorem DN {l:Nat} : ∀ {H:List (Nat×OB)},(∀p∈H,p.1≠l)->aG H l=H
 | [],_=>rfl
 |(k,b)::r,h=>by
  simp only [aG]
  rw [Ai (h (k,b) (by simp)),DN λp hp=>h p (by simp [hp])]
theorem Jd.forget {l:Nat} {st:St} (h:Jd l st):st.forget l=st:=by
 have e1:st.tmps.map (λv=>v.map (Ck l))=st.tmps:=(Eu λv hv=>DZ (h.tmps v hv)).trans (List.map_id _)
 have e2:st.heap.map (λp=>(p.1,p.2.map (Ck l)))=st.heap:=(Eu λp hp=>by rw [EA (h.heap p hp).2];rfl).trans (List.map_id _)
 unfold St.forget St.Lp
 simp only [e1,e2]
 rw [DN λp hp=>(h.heap p hp).1]
theorem Jd.new {l:Nat} {st:St} (h:Jd l st) (b:OB) (v:AV):(st.new l b).put (some l) v=Jy l v b st:=by
 unfold St.new
 rw [h.forget]
 rfl
theorem tV {α:Type} : ∀ {xs:List α} {d:Nat} {v x:α},x∈Td xs d v->x∈xs\/x=v
 | [],_,_,_,h=>by cases h
 |y::r,0,v,x,h=>by
  rcases Bg.1 h with h|h
  ·exact .inr h
  ·exact .inl (Ao _ h)
 |y::r,d+1,v,x,h=>by
  rcases Bg.1 h with h|h
  ·exact .inl (by rw [h];simp)
  ·exact (tV h).imp (Ao _) id
theorem FM: ∀ {H:List (Nat×OB)} {d:Nat} {b:OB} {p:Nat×OB},p∈Oz H d b->p∈H\/p=(d,b)
 | [],d,b,p,h=> .inr (by simpa [Oz] using h)
 |(k,c)::r,d,b,p,h=>by
  simp only [Oz] at h
  split at h
  ·rcases Bg.1 h with h|h
   ·exact .inr h
   ·exact .inl h
  ·rcases Bg.1 h with h|h
   ·exact .inl (by rw [h];simp)
   ·exact (FM h).imp (Ao _) id
theorem Ad3 {d:Nat} {v:AV} {b:OB} {st:St} {x:Operand} (h:x≠ .tmp d):(Jy d v b st).ev x=st.ev x:=by
 cases x with
 |tmp t=>exact er _ _ _ _ _ (λe=>h (by rw [e]))
 |_=>rfl
theorem OV {d l:Nat} {v:AV} {b:OB} {st:St} (h:d≠l):(Jy d v b st).at l=st.at l:=xx _ _ _ _ h
theorem XD {d e:Nat} {v u:AV} {b:OB} {st:St} (h:d≠e):(Jy d v b st).put (some e) u=Jy d v b (st.put (some e) u):=by
 unfold Jy St.put
 simp only
 rw [pN _ _ _ _ _ h]
theorem RR {d l:Nat} {v:AV} {b c:OB} {st:St} (h:d≠l):(Jy d v b st).Kp l c=Jy d v b (st.Kp l c):=by
 unfold Jy St.Kp
 simp only
 rw [yi _ _ _ _ _ h]
theorem x7 {d e:Nat} {v u:AV} {b c:OB} {st:St} (h:d≠e):Jy e u c (Jy d v b st)=Jy d v b (Jy e u c st):=by
 unfold Jy
 rw [pN _ _ _ _ _ h,xC _ _ _ _ _ h]
theorem Jd.put {d:Nat} {st:St} {e:Nat} {u:AV} (h:Jd d st) (hde:e≠d) (hu:d∉u.refs):Jd d (st.put (some e) u):=
 ⟨by show (List.getD (Td st.tmps e u) d .undef).refs= [];rw [er _ _ _ _ _ hde];exact h.own,λv hv=>(tV hv).elim (h.tmps v) λe=>by rw [e];exact hu,h.heap⟩
theorem Jd.plus {d e:Nat} {u:AV} {c:OB} {st:St} (h:Jd d st) (hde:d≠e) (hu:d∉u.refs) (hc:d∉c.refs):Jd d (Jy e u c st):=
 ⟨by show (List.getD (Td st.tmps e u) d .undef).refs= [];rw [er _ _ _ _ _ (Hs hde)];exact h.own,λv hv=>(tV hv).elim (h.tmps v) λe=>by rw [e];exact hu,λp hp=>(FM hp).elim (h.heap p) λe'=>by rw [e'];exact ⟨Hs hde,hc⟩⟩
theorem Jd.Aiy {d e:Nat} {u:AV} {c:OB} {st:St} (h:Jd d (Jy e u c st)): ∀p∈st.heap,p.1≠d/\d∉p.2.refs:= λp hp=>h.heap p (by
 show p∈Oz st.heap e c
 generalize st.heap=H at hp
 induction H with
 |nil=>cases hp
 |cons q r ih=>
  obtain ⟨k,a⟩:=q
  simp only [Oz]
  split
  ·exact Ao _ hp
  ·rcases Bg.1 hp with hp|hp
   ·rw [hp];simp
   ·exact Ao _ (ih hp))
theorem rS {st st':St} : ∀(τ:Ty) (cs:List AC),cs.all (·.settled)=true->Fb st' τ cs=Fb st τ cs:=by
 intro τ
 induction τ with
 |unit=>intro cs _;cases cs<;>rfl
 |pair a r iA iw=>
  intro cs h
  simp only [Fb]
  rw [Az] at h
  rw [iA _ (Az.2 λc hc=>h c (Fy hc)),iw _ (Az.2 λc hc=>h c (dV hc))]
 |_=>
  intro cs h
  rcases cs with _|⟨c,_|⟨c',cs⟩⟩
  ·rfl
  ·simp only [Jf,List.all_nil,Bool.and_true] at h
   simp only [Fb]
   exact bj h
  ·rfl
theorem gF {st st':St} {τ:Ty} {v:AV} (h:v.settled=true):Fv st' τ v=Fv st τ v:=by
 cases v with
 | «at»a=>
  have ha:a.settled=true:=h
  cases a<;>simp only [AC.settled,Cz] at ha
  all_goals
   simp only [Fv]
   rw [Rd rfl,Rd rfl]
   rw [bj (st:=st) (st':=st') rfl]
 |agg cs=>simp only [Fv];rw [rS _ _ h]
 |bF _ _ _=>rfl
 |Ng _=>rfl
theorem ke {st st':St} : ∀(τ:Ty) (vs:List AV),vs.all (·.settled)=true->Dw st' τ vs=Dw st τ vs
 | .pair a r,v::vs,h=>by
  rw [Jf,Af] at h
  simp only [Dw]
  rw [gF (st:=st) (st':=st') h.1,ke r vs h.2]
 | .pair _ _,[],_=>rfl
 | .unit,[],_=>rfl
 | .unit,_::_,_=>rfl
 | .int _,vs,_=>by cases vs<;>rfl
 | .bool,vs,_=>by cases vs<;>rfl
 | .str,vs,_=>by cases vs<;>rfl
 | .slice _,vs,_=>by cases vs<;>rfl
 | .oslice _,vs,_=>by cases vs<;>rfl
 | .ptr _,vs,_=>by cases vs<;>rfl
 | .optr _,vs,_=>by cases vs<;>rfl
 | .smap _,vs,_=>by cases vs<;>rfl
 | .clo _ _,vs,_=>by cases vs<;>rfl
def Wu:AV->Bool
 | .at (.data _ _ _)=>true
 |_=>false
def kc (o:Oper):List Operand:=match o.op with
 | .move x=> [x]
 | .load _ x=> [x]
 | .call {callee:= .value (.func _),args, .. } =>args.toList
 | .insert _ m k x=> [m,k,x]
 | .buildSlice _ _ parts=>parts.toList.map (·.2)
 |_=> []
def jx (d:Nat):Operand->Bool
 | .tmp t=>!Nat.beq t d
 |_=>true
theorem TM {d:Nat} {x:Operand} (h:jx d x=true):x≠ .tmp d:= λe=>by
 subst e
 simp [jx] at h
def Wx (Γ:Env) (st:St) (o:Oper):Bool:=match o.guard with
 |some _=>false
 |none=>match o.op with
  | .move _=>true
  | .load _ x=>(match st.ev x with
   | .at (.Hu _ _)=>true
   |_=>false)
  | .call {callee:= .value (.func f),args, .. } =>(match Γ f with
   |some (.q _)=>true
   |_=>false)&&args.toList.all λx=>(st.ev x).settled
  | .insert _ m k x=>(match st.ev m with
   | .at (.Lc _)=>true
   |_=>false)&&Wu (st.ev k)&&(st.ev x).settled
  | .buildSlice _ _ parts=>(parts.toList.all λp=>Wu (st.ev p.2))&&(match o.dst with
   |some e=>pv e st
   |none=>false)
  |_=>false
theorem Jd.ev {d:Nat} {st:St} (h:Jd d st) (x:Operand):d∉(st.ev x).refs:=by
 cases x with
 |tmp t=>
  simp only [St.ev,St.get]
  rw [Aj]
  by_cases hl:t<st.tmps.length
  ·rw [Ac hl];exact h.tmps _ (Ak hl)
  ·rw [Dm (Nat.le_of_not_lt hl)];simp [AV.refs,AC.refs]
 |const c=>
  simp only [St.ev]
  unfold np
  split<;>simp [AV.refs,AC.refs]
 |func f=>simp [St.ev,AV.refs,AC.refs]
 |_=>simp [St.ev,AV.refs,AC.refs]
theorem EJ: ∀ {H:List (Nat×OB)} {l:Nat} {b:OB},Aw H l=some b->(l,b)∈H
 |(k,c)::r,l,b,h=>by
  simp only [Aw] at h
  split at h
  ·rename_i e;subst e;cases h;simp
  ·exact Ao _ (EJ h)
section
variable {T:Tab} {Γ:Env} {ops:Array Oper} {d:Nat} {v:AV} {b:OB} {t:St}
theorem xY {e:Option Tmp} (h:e≠some d) (hn:Jd d t) {y:AV} (hy:d∉y.refs):(Jy d v b t).put e y=Jy d v b (t.put e y)/\Jd d (t.put e y):=by
 cases e with
 |none=>exact ⟨rfl,hn⟩
 |some k=>exact ⟨XD (λe=>h (by rw [e])),hn.put (λe=>h (by rw [e])) hy⟩
theorem jE {o:Oper} (hg:o.guard=none) (ez:o.dst≠some d) (hn:Jd d t) {q:Option AV} (h1:evalOp T Γ (Jy d v b t) o=q.map λy=>(y,Jy d v b t)) (h2:evalOp T Γ t o=q.map λy=>(y,t)) (hq: ∀y,q=some y->d∉y.refs) {s':St}
  (he:Ey T Γ ops (Jy d v b t) o=some s'): ∃t',Ey T Γ ops t o=some t'/\s'=Jy d v b t'/\Jd d t':=by
 unfold Ey at he⊢
 rw [hg] at he⊢
 simp only at he⊢
 rw [h1] at he
 cases q with
 |none=>cases he
 |some y=>
  obtain ⟨p1,p2⟩:=xY (v:=v) (b:=b) ez hn (hq y rfl)
  refine ⟨_,by rw [h2];rfl,?_,p2⟩
  simp only [Al,Aa] at he
  rw [<-he,p1]
theorem Zu {l:List Operand} (hu:l.all (jx d)=true): ∀x∈l,(Jy d v b t).ev x=t.ev x:= λx hx=>Ad3 (TM (Az.1 hu x hx))
theorem LM {dst:Option Tmp} {x:Operand} {ty:TypeId} {pos:String} {after:Array Edge} (hn:Jd d t) (hx:(Jy d v b t).ev x=t.ev x) (ez:dst≠some d) {s':St}
  (he:Ey T Γ ops (Jy d v b t) {dst:=dst,op:= .move x,type:=ty,pos:=pos,after:=after,guard:=none} =some s'):
  ∃t',Ey T Γ ops t {dst:=dst,op:= .move x,type:=ty,pos:=pos,after:=after,guard:=none} =some t'/\s'=Jy d v b t'/\Jd d t':=
 jE rfl ez hn (q:=some (t.ev x)) (by simp only [evalOp,Fc,hx]) (by simp only [evalOp,Fc]) (λy hy=>by cases hy;exact hn.ev x) he
def loadVar (T:Tab) (o:Option OB) (t0:TypeId) (i:Nat):Option AV:=match T.ty t0 with
 |some τ=>(match o with
  |some (.var _ vs)=>if τ.Aq then (if i+τ.size<=vs.length then some (.agg ((vs.drop i).take τ.size)) else none) else vs[i]?.map .at
  |_=>none)
 |none=>none
theorem l8 {st:St} {t0:TypeId} {l i:Nat} :Qu T st t0 (.at (.Hu l i))=loadVar T (st.at l) t0 i:=by
 unfold Qu loadVar
 cases T.ty t0<;>rfl
theorem LH {dst:Option Tmp} {t0:TypeId} {x:Operand} {ty:TypeId} {pos:String} {after:Array Edge} (hn:Jd d t) (hx:(Jy d v b t).ev x=t.ev x) (ez:dst≠some d) {l i:Nat} (hp:t.ev x= .at (.Hu l i)) {s':St}
  (he:Ey T Γ ops (Jy d v b t) {dst:=dst,op:= .load t0 x,type:=ty,pos:=pos,after:=after,guard:=none} =some s'):
  ∃t',Ey T Γ ops t {dst:=dst,op:= .load t0 x,type:=ty,pos:=pos,after:=after,guard:=none} =some t'/\s'=Jy d v b t'/\Jd d t':=by
 have hld:d≠l:= λe=>by
  have:=hn.ev x
  rw [hp,e] at this
  exact this (by simp [AV.refs,AC.refs])
 refine jE rfl ez hn (q:=loadVar T (t.at l) t0 i) ?_ ?_ (λy hy=>?_) he
 ·simp only [evalOp,Fc,hx,hp]
  rw [l8,OV hld]
 ·simp only [evalOp,Fc,hp]
  rw [l8]
 ·unfold loadVar at hy
  split at hy
  ·split at hy
   ·rename_i vs hb
    have hr:d∉vs.flatMap AC.refs:=(hn.heap _ (EJ hb)).2
    have kU: ∀c∈vs,d∉c.refs:= λc hc hd=>hr (Hz.2 ⟨c,hc,hd⟩)
    split at hy
    ·split at hy
     ·cases hy
      intro hd
      obtain ⟨c,hc,hd⟩:=Hz.1 hd
      exact kU c (dV (Fy hc)) hd
     ·cases hy
    ·cases hv:vs[i]? with
     |none=>rw [hv] at hy;cases hy
     |some c=>
      rw [hv] at hy
      cases hy
      exact kU c (Cb hv)
   ·cases hy
  ·cases hy
theorem RU {l:List Operand} (hu:l.all (jx d)=true):l.map (Jy d v b t).ev=l.map t.ev:=Eu λx hx=>Zu hu x hx
theorem JP {dst:Option Tmp} {f:FuncId} {args:Array Operand} {tys:Array TypeId} {ty:TypeId} {pos:String} {after:Array Edge} {sp:Spec} (Po:Γ f=some (.q sp)) (hn:Jd d t) (hx:args.toList.map (Jy d v b t).ev=args.toList.map t.ev) (ez:dst≠some d)
  (hs:(args.toList.map t.ev).all (·.settled)=true) {s':St} (he:Ey T Γ ops (Jy d v b t) {dst:=dst,op:= .call {callee:= .value (.func f),args:=args,argTypes:=tys},type:=ty,pos:=pos,after:=after,guard:=none} =some s'):
  ∃t',Ey T Γ ops t {dst:=dst,op:= .call {callee:= .value (.func f),args:=args,argTypes:=tys},type:=ty,pos:=pos,after:=after,guard:=none} =some t'/\s'=Jy d v b t'/\Jd d t':=by
 have QB:fU sp (args.toList.map t.ev)=false:=by unfold fU;rw [hs];simp
 have KH: ∀st:St,Pj Γ st f (args.toList.map t.ev)=(match Dw t sp.arg (args.toList.map t.ev) with
   |none=>none
   |some (_,x)=>(sp.fn x).map λy=>if sp.Ht then .bF (sp.fresh||sp.res.flat) sp.res y else .at (.data (sp.fresh||sp.res.flat) sp.res y)):= λst=>by
  unfold Pj
  rw [Po]
  simp only
  rw [hs,ke (st:=t) _ _ hs]
  simp only [Bool.or_true,Qa]
  cases Dw t sp.arg (args.toList.map t.ev)<;>rfl
 refine jE rfl ez hn (q:=Pj Γ t f (args.toList.map t.ev)) ?_ ?_ (λy hy=>?_) he
 ·simp only [evalOp,Fc,Po,hx,QB]
  rw [KH,KH t]
  simp
 ·simp only [evalOp,Fc,Po,QB]
  simp
 ·rw [KH t] at hy
  split at hy
  ·cases hy
  ·rename_i x _
   cases hf:sp.fn x with
   |none=>rw [hf] at hy;cases hy
   |some z=>
    rw [hf] at hy
    simp only [Al,Aa] at hy
    rw [<-hy]
    split<;>simp [AV.refs,AC.refs]
def o1 (T:Tab) (o:Option OB) (t0:TypeId) (s:ByteArray) (vw:(v:Ty)->Option (Bool×v.den)):Option OB:=match T.mapOf t0 with
 |some v=>(match o,vw v with
  |some (.Vy v' f),some (_,y)=>if h:v'=v/\v.flat=true/\v.Aq=false then some (.Vy v (jZ (h.1▸f:ByteArray->Option v.den) s y)) else none
  |_,_=>none)
 |none=>none
theorem l9 {st:St} {t0:TypeId} {l:Nat} {fr:Bool} {s:ByteArray} {x:AV} :Jw T st t0 (.at (.Lc l)) (.at (.data fr .str s)) x=(o1 T (st.at l) t0 s λv=>Fv st v x).map λc=>st.Kp l c:=by
 unfold Jw o1
 cases T.mapOf t0 with
 |none=>rfl
 |some v0=>
  simp only
  cases st.at l with
  |none=>rfl
  |some c=>
   cases c with
   |Vy v' f=>
    cases Fv st v0 x with
    |none=>rfl
    |some p=>
     simp only
     split<;>rfl
   |_=>rfl
theorem FK {o:Option OB} {t0:TypeId} {s:ByteArray} {vw:(v:Ty)->Option (Bool×v.den)} {c:OB} (h:o1 T o t0 s vw=some c):c.refs= []:=by
 unfold o1 at h
 split at h
 ·split at h
  ·split at h
   ·cases h;rfl
   ·cases h
  ·cases h
 ·cases h
theorem sW {st:St} {t0:TypeId} {m k x:AV} {s':St} (h:Jw T st t0 m k x=some s'): ∃l fr s,m= .at (.Lc l)/\k= .at (.data fr .str s):=by
 unfold Jw at h
 split at h
 ·exact ⟨_,_,_,rfl,rfl⟩
 ·cases h
theorem FN: ∀ {H:List (Nat×OB)} {l:Nat} {c:OB} {p:Nat×OB},p∈aB H l c->p∈H\/(p.2=c/\p.1=l/\ ∃c',(l,c')∈H)
 |(k,a)::r,l,c,p,h=>by
  simp only [aB] at h
  split at h
  ·rename_i e
   rcases Bg.1 h with h|h
   ·subst h;exact .inr ⟨rfl,e,a,by rw [e];simp⟩
   ·exact .inl (Ao _ h)
  ·rcases Bg.1 h with h|h
   ·exact .inl (by rw [h];simp)
   ·exact (FN h).imp (Ao _) λ⟨h1,h2,c',h3⟩=>⟨h1,h2,c',Ao _ h3⟩
theorem Jd.Kp {st:St} {l:Nat} {c:OB} (h:Jd d st) (hc:d∉c.refs):Jd d (st.Kp l c):=
 ⟨h.own,h.tmps,λp hp=>(FN hp).elim (h.heap p) λ⟨h1,h2,c',h3⟩=>⟨by rw [h2];exact (h.heap _ h3).1,by rw [h1];exact hc⟩⟩
theorem zc {dst:Option Tmp} {t0:TypeId} {m k x:Operand} {ty:TypeId} {pos:String} {after:Array Edge} (hn:Jd d t) (hm:(Jy d v b t).ev m=t.ev m) (hk:(Jy d v b t).ev k=t.ev k) (hx:(Jy d v b t).ev x=t.ev x) (ez:dst≠some d)
  (hs:(t.ev x).settled=true) {s':St} (he:Ey T Γ ops (Jy d v b t) {dst:=dst,op:= .insert t0 m k x,type:=ty,pos:=pos,after:=after,guard:=none} =some s'):
  ∃t',Ey T Γ ops t {dst:=dst,op:= .insert t0 m k x,type:=ty,pos:=pos,after:=after,guard:=none} =some t'/\s'=Jy d v b t'/\Jd d t':=by
 unfold Ey at he⊢
 simp only [evalOp,hm,hk,hx] at he⊢
 cases PZ:Jw T (Jy d v b t) t0 (t.ev m) (t.ev k) (t.ev x) with
 |none=>rw [PZ] at he;cases he
 |some s1=>
  rw [PZ] at he
  simp only [Al,Aa] at he
  obtain ⟨l,fr,s,e1,e2⟩:=sW PZ
  have hld:d≠l:= λe=>by
   have:=hn.ev m
   rw [e1,e] at this
   exact this (by simp [AV.refs,AC.refs])
  rw [e1,e2,l9,OV hld] at PZ
  have hvw:(λv0=>Fv (Jy d v b t) v0 (t.ev x))= λv0=>Fv t v0 (t.ev x):=funext λv0=>gF hs
  rw [hvw] at PZ
  rw [e1,e2,l9]
  cases ho:o1 T (t.at l) t0 s λv0=>Fv t v0 (t.ev x) with
  |none=>rw [ho] at PZ;cases PZ
  |some c=>
   rw [ho] at PZ
   simp only [Al,Aa] at PZ
   have hc:=FK ho
   have s8:Jd d (t.Kp l c):=hn.Kp (by rw [hc];simp)
   obtain ⟨p1,p2⟩:=xY (v:=v) (b:=b) (y:= .undef) ez s8 (by simp [AV.refs,AC.refs])
   refine ⟨_,rfl,?_,p2⟩
   rw [<-he,<-PZ,RR hld,p1]
theorem Jd.back {e:Nat} (h:Jd e (Jy d v b t)) (hde:e≠d) (hn:Jd d t):Jd e t:=by
 have hg: ∀k,k≠d->(Jy d v b t).get k=t.get k:= λk hk=>er _ _ _ _ _ (Hs hk)
 refine ⟨by rw [<-hg e hde];exact h.own,λu hu hd=>?_,h.Aiy⟩
 obtain ⟨k,hk,rfl⟩:=Bf.1 hu
 have e1:t.get k=t.tmps[k]:=by unfold St.get;rw [Aj,Ac hk];rfl
 by_cases hkd:k=d
 ·subst hkd
  have:=hn.own
  rw [e1] at this
  rw [this] at hd
  cases hd
 ·have h1:=h.ev (.tmp k)
  have h2:(Jy d v b t).ev (.tmp k)=t.tmps[k]:=by show (Jy d v b t).get k=_;rw [hg k hkd,e1]
  rw [h2] at h1
  exact h1 hd
def mI (e:Ty):Nat->List (Nat×AV)->Option (Bool×Bool×List e.den)
 |_,[]=>some (true,true,[])
 |i,(j,x)::r=>if i=j then match Fv ⟨[],[]⟩ e x with
  |some (fr,y)=>match mI e (i+1) r with
   |some (Wh,tr',ys)=>some (fr&&Wh,Ts ⟨[],[]⟩ x&&e.tree&&tr',y::ys)
   |none=>none
  |none=>none
  else none
theorem eb {st:St} {e:Ty} : ∀(l:List (Nat×Operand)) (i:Nat),(l.all λp=>Wu (st.ev p.2))=true->Ly e i l st=(mI e i (l.map λp=>(p.1,st.ev p.2))).map λp=>(p.1,p.2.1,p.2.2,st)
 | [],i,_=>rfl
 |(j,x)::r,i,h=>by
  rw [Jf,Af] at h
  have hx:Wu (st.ev x)=true:=h.1
  simp only [Ly,mI,Ca]
  split
  ·generalize hxv:st.ev x=xv at hx
   unfold Wu at hx
   split at hx
   ·rename_i fr τ z
    have Aig:settle st (.at (.data fr τ z))=some (.at (.data fr τ z),st):=rfl
    rw [Aig]
    simp only
    rw [gF (st:=⟨[],[]⟩) (st':=st) (v:= .at (.data fr τ z)) rfl]
    cases Fv ⟨[],[]⟩ e (.at (.data fr τ z)) with
    |none=>rfl
    |some p=>
     simp only
     rw [eb r (i+1) h.2]
     cases mI e (i+1) (r.map λp=>(p.1,st.ev p.2)) with
     |none=>rfl
     |some q=>rfl
   ·cases hx
  ·rfl
def rowOf (T:Tab) (t0:TypeId) (len:Nat) (parts:List (Nat×AV)) (dst:Nat):Option (AV×OB):=match eu T t0 with
 |some _=>none
 |none=>match T.elem t0 with
  |none=>none
  |some te=>match T.ty te with
   |none=>none
   |some e=>if parts.length=len/\len<=64/\e.size<=64/\dst<Bl then (mI e 0 parts).map λp=>(.at (.own dst 0 len), .arr ((T.vu||e.flat)&&p.1) (T.CB&&p.2.1) e te p.2.2) else none
theorem iP {st:St} {t0:TypeId} {len dst:Nat} {parts:Array (Nat×Operand)} (h:(parts.toList.all λp=>Wu (st.ev p.2))=true):
  Js T st dst t0 len parts=(rowOf T t0 len (parts.toList.map λp=>(p.1,st.ev p.2)) dst).map λr=>(r.1,st.new dst r.2):=by
 unfold Js rowOf
 cases eu T t0 with
 |some p=>
  obtain ⟨te,e⟩:=p
  simp only [Option.map_none]
  split
  ·rename_i x hp
   rw [hp,Jf,Af] at h
   have hx:Wu (st.ev x)=true:=h.1
   unfold Wu at hx
   split at hx
   ·rename_i hv;simp only [hv]
   ·cases hx
  ·rfl
 |none=>
  simp only
  unfold Na
  cases T.elem t0 with
  |none=>rfl
  |some te=>
   simp only
   cases T.ty te with
   |none=>rfl
   |some e=>
    simp only [Gf,Xs]
    split
    ·rw [eb _ 0 h]
     cases mI e 0 (parts.toList.map λp=>(p.1,st.ev p.2))<;>rfl
    ·rfl
theorem qL {t0:TypeId} {len dst:Nat} {parts:List (Nat×AV)} {r:AV×OB} (h:rowOf T t0 len parts dst=some r):ss dst r.1 r.2:=by
 unfold rowOf at h
 split at h
 ·cases h
 ·split at h
  ·cases h
  ·split at h
   ·cases h
   ·split at h
    ·rename_i e _ _
     cases hp:mI e 0 parts with
     |none=>rw [hp] at h;cases h
     |some p=>
      rw [hp] at h
      simp only [Al,Aa] at h
      subst h
      exact ⟨λl hl=>by simpa [AV.refs,AC.refs] using hl,rfl,λl hl=>by simp only [AV.map,Ck];rw [Ai (Hs hl)],λl=>rfl⟩
    ·cases h
theorem DD {e:Nat} {t0:TypeId} {len:Nat} {parts:Array (Nat×Operand)} {ty:TypeId} {pos:String} {after:Array Edge} (_hl:ss d v b) (hn:Jd d t) (hx: ∀p∈parts.toList,(Jy d v b t).ev p.2=t.ev p.2) (ez:e≠d)
  (hp:(parts.toList.all λp=>Wu (t.ev p.2))=true) (Jr:Jd e (Jy d v b t)) {s':St} (he:Ey T Γ ops (Jy d v b t) {dst:=some e,op:= .buildSlice t0 len parts,type:=ty,pos:=pos,after:=after,guard:=none} =some s'):
  ∃t',Ey T Γ ops t {dst:=some e,op:= .buildSlice t0 len parts,type:=ty,pos:=pos,after:=after,guard:=none} =some t'/\s'=Jy d v b t'/\Jd d t':=by
 have Ai8:=Jr.back ez hn
 have QC:(parts.toList.all λp=>Wu ((Jy d v b t).ev p.2))=true:=Az.2 λp vT=>by rw [hx p vT];exact Az.1 hp p vT
 have hm:(parts.toList.map λp=>(p.1,(Jy d v b t).ev p.2))=parts.toList.map λp=>(p.1,t.ev p.2):=Eu λp vT=>by rw [hx p vT]
 unfold Ey at he⊢
 simp only [evalOp] at he⊢
 rw [iP QC,hm] at he
 rw [iP hp]
 cases hr:rowOf T t0 len (parts.toList.map λp=>(p.1,t.ev p.2)) e with
 |none=>rw [hr] at he;cases he
 |some r=>
  rw [hr] at he
  have hL:=qL hr
  simp only [Al,Aa] at he
  rw [Jr.new] at he
  refine ⟨Jy e r.1 r.2 t,by simp only [Al];rw [Ai8.new],?_,hn.plus (Hs ez) (λh=>ez (hL.v1 _ h).symm) (by rw [hL.b1];simp)⟩
  rw [<-he,x7 (Hs ez)]
def evC:Operand->AV
 | .const c=>np c
 |_=> .undef
theorem Ahb {st:St} {x:Operand} (h:Wu (evC x)=true):st.ev x=evC x:=by
 cases x<;>first|rfl|cases h
def fp (T:Tab) (o:Oper):Option (Nat×AV×OB):=match o.guard with
 |some _=>none
 |none=>match o.dst with
  |none=>none
  |some d=>match o.op with
   | .buildSlice t0 len parts=>if (parts.toList.all λp=>Wu (evC p.2))=true then (rowOf T t0 len (parts.toList.map λp=>(p.1,evC p.2)) d).map λr=>(d,r.1,r.2) else none
   | .makeMap t0 none=>match T.mapOf t0 with
    |some τ=>if d<Bl then some (d, .at (.Lc d), .Vy τ λ_=>none) else none
    |none=>none
   |_=>none
theorem fq {o:Oper} {r:Nat×AV×OB} (h:fp T o=some r):o.dst=some r.1/\ss r.1 r.2.1 r.2.2/\ ∀st:St,Jd r.1 st->Ey T Γ ops st o=some (Jy r.1 r.2.1 r.2.2 st):=by
 obtain ⟨dst,op,ty,pos,after,guard⟩:=o
 unfold fp at h
 cases guard with
 |some g=>cases h
 |none=>
  cases dst with
  |none=>cases h
  |some d=>
   cases op with
   |buildSlice t0 len parts=>
    simp only at h
    split at h
    ·rename_i hp
     cases hr:rowOf T t0 len (parts.toList.map λp=>(p.1,evC p.2)) d with
     |none=>rw [hr] at h;cases h
     |some q=>
      rw [hr] at h
      simp only [Al,Aa] at h
      subst h
      refine ⟨rfl,qL hr,λst Pn=>?_⟩
      have KH: ∀p∈parts.toList,st.ev p.2=evC p.2:= λp vT=>Ahb (Az.1 hp p vT)
      have hm:(parts.toList.map λp=>(p.1,st.ev p.2))=parts.toList.map λp=>(p.1,evC p.2):=Eu λp vT=>by rw [KH p vT]
      have QC:(parts.toList.all λp=>Wu (st.ev p.2))=true:=Az.2 λp vT=>by rw [KH p vT];exact Az.1 hp p vT
      unfold Ey
      simp only [evalOp]
      rw [iP QC,hm,hr]
      simp only [Al]
      rw [Pn.new]
    ·cases h
   |makeMap t0 hint=>
    cases hint with
    |some x=>cases h
    |none=>
     simp only at h
     split at h
     ·rename_i τ Ud
      split at h
      ·rename_i hd
       cases h
       refine ⟨rfl,⟨λl hl=>by simpa [AV.refs,AC.refs] using hl,rfl,λl hl=>by simp only [AV.map,Ck];rw [Ai (Hs hl)],λl=>rfl⟩,λst Pn=>?_⟩
       unfold Ey
       simp only [evalOp,Vf,Ud,Ab hd,Al]
       rw [Pn.new]
      ·cases h
     ·cases h
   |_=>cases h
theorem AE {l:List Operand} (h: ∀x∈l,(Jy d v b t).ev x=t.ev x):(l.all λx=>((Jy d v b t).ev x).settled)=(l.map t.ev).all (·.settled):=by
 rw [List.all_map]
 induction l with
 |nil=>rfl
 |cons x r ih=>
  simp only [Jf,Function.comp]
  rw [h x (by simp),ih λy hy=>h y (by simp [hy])]
theorem AF {o:Oper} (hl:ss d v b) (hn:Jd d t) (hs:Wx Γ (Jy d v b t) o=true) (hu:(kc o).all (jx d)=true) (ez:o.dst≠some d) {s':St} (he:Ey T Γ ops (Jy d v b t) o=some s'):
  ∃t',Ey T Γ ops t o=some t'/\s'=Jy d v b t'/\Jd d t'/\Wx Γ t o=true:=by
 obtain ⟨dst,op,ty,pos,after,guard⟩:=o
 unfold Wx at hs
 cases guard with
 |some g=>cases hs
 |none=>
  simp only at hs
  split at hs
  ·rename_i x
   have hx:=Zu (v:=v) (b:=b) (t:=t) hu x (by simp [kc])
   obtain ⟨t',h1,h2,h3⟩:=LM hn hx ez he
   exact ⟨t',h1,h2,h3,rfl⟩
  ·rename_i t0 x
   have hx:=Zu (v:=v) (b:=b) (t:=t) hu x (by simp [kc])
   rw [hx] at hs
   split at hs
   ·rename_i l i hp
    obtain ⟨t',h1,h2,h3⟩:=LH hn hx ez hp he
    exact ⟨t',h1,h2,h3,by simp only [Wx,hp]⟩
   ·cases hs
  ·rename_i f args tys
   rw [Af] at hs
   obtain ⟨jk,rv⟩:=hs
   split at jk
   ·rename_i sp Po
    have KH:=Zu (v:=v) (b:=b) (t:=t) (l:=args.toList) hu
    rw [AE KH] at rv
    obtain ⟨t',h1,h2,h3⟩:=JP Po hn (RU hu) ez rv he
    refine ⟨t',h1,h2,h3,?_⟩
    simp only [Wx,Po,Nr]
    rw [List.all_map] at rv
    exact rv
   ·cases jk
  ·rename_i t0 m k x
   have hm:=Zu (v:=v) (b:=b) (t:=t) hu m (by simp [kc])
   have hk:=Zu (v:=v) (b:=b) (t:=t) hu k (by simp [kc])
   have hx:=Zu (v:=v) (b:=b) (t:=t) hu x (by simp [kc])
   rw [hm,hk,hx] at hs
   have hs0:=hs
   rw [Af] at hs
   obtain ⟨t',h1,h2,h3⟩:=zc hn hm hk hx ez hs.2 he
   exact ⟨t',h1,h2,h3,hs0⟩
  ·rename_i t0 len parts
   rw [Af] at hs
   obtain ⟨jk,rv⟩:=hs
   cases dst with
   |none=>cases rv
   |some e=>
    simp only at rv
    have hed:e≠d:= λh=>ez (by rw [h])
    have fM:(parts.toList.map (λp=>p.2)).all (jx d)=true:=hu
    have KH:=Zu (v:=v) (b:=b) (t:=t) fM
    have hx: ∀p∈parts.toList,(Jy d v b t).ev p.2=t.ev p.2:= λp hp=>KH p.2 (Bi.2 ⟨p,hp,rfl⟩)
    have hp:(parts.toList.all λp=>Wu (t.ev p.2))=true:=Az.2 λp hp=>by rw [<-hx p hp];exact Az.1 jk p hp
    have Jr:=u5 rv
    obtain ⟨t',h1,h2,h3⟩:=DD hl hn hx hed hp Jr he
    refine ⟨t',h1,h2,h3,?_⟩
    simp only [Wx,hp,Nr]
    exact TK (Jr.back hed hn)
  ·cases hs
def yy:List (Nat×AV×OB)->St->St->Prop
 | [],s,t=>s=t
 |q::Q,s,t=>Jd q.1 t/\yy Q s (Jy q.1 q.2.1 q.2.2 t)
theorem xT {o:Oper} : ∀(Q:List (Nat×AV×OB)) (s t s':St),yy Q s t->(∀q∈Q,ss q.1 q.2.1 q.2.2/\(kc o).all (jx q.1)=true/\o.dst≠some q.1)->Wx Γ s o=true->Ey T Γ ops s o=some s'->
  ∃t',Ey T Γ ops t o=some t'/\yy Q s' t'/\Wx Γ t o=true
 | [],s,t,s',h,_,hs,he=>by
  have h:s=t:=h
  subst h
  exact ⟨s',he,rfl,hs⟩
 |q::Q,s,t,s',⟨h1,h2⟩,hq,hs,he=>by
  obtain ⟨u',e1,e2,e3⟩:=xT Q s _ s' h2 (λp hp=>hq p (Ao _ hp)) hs he
  obtain ⟨l1,l2,l3⟩:=hq q (by simp)
  obtain ⟨t',f1,f2,f3,f4⟩:=AF l1 h1 e3 l2 l3 e1
  exact ⟨t',f1,⟨f3,by rw [<-f2];exact e2⟩,f4⟩
theorem xU {q:Nat×AV×OB} : ∀(Q1:List (Nat×AV×OB)) {Q2:List (Nat×AV×OB)} {s t:St},yy (Q1++q::Q2) s t->(∀p∈Q1++q::Q2,ss p.1 p.2.1 p.2.2)->(∀p∈Q1,p.1≠q.1)->
  Jd q.1 t/\yy (Q1++Q2) s (Jy q.1 q.2.1 q.2.2 t)
 | [],Q2,s,t,h,_,_=>h
 |p::Q1,Q2,s,t,⟨h1,h2⟩,hL,Jr=>by
  have hpq:=Jr p (by simp)
  have hLp:=hL p (by simp)
  have hLq:=hL q (by simp)
  obtain ⟨g1,g2⟩:=xU Q1 h2 (λr hr=>hL r (Ao _ hr)) λr hr=>Jr r (Ao _ hr)
  refine ⟨g1.back (Hs hpq) h1,h1.plus hpq (λh=>hpq (hLq.v1 _ h)) (by rw [hLq.b1];simp),?_⟩
  show yy (Q1++Q2) s (Jy p.1 p.2.1 p.2.2 (Jy q.1 q.2.1 q.2.2 t))
  rw [x7 (Hs hpq)]
  exact g2
def mT (ops:Array Oper):Nat->Nat->Nat->Bool
 |0,_,_=>false
 |f+1,i,a=>Region.waitsFor .any ops i a||(List.range ops.size).any λk=>Region.waitsFor .any ops i k&&mT ops f k a
theorem lV {Ah:Array Bool} (hc:Ul ops Ah) {a:Nat} : ∀(f i:Nat),(∀x,Region.waitsFor .any ops i x=true->Ah.getD x false=true)->mT ops f i a=true->Ah.getD a false=true
 |0,_,_,h=>by cases h
 |f+1,i,hi,h=>by
  simp only [mT,Mi,Fh,Af] at h
  rcases h with h|⟨k,_,h1,h2⟩
  ·exact hi a h
  ·exact lV hc f k (λx hx=>hc k x (hi k h1) hx) h2
def LQ (P:List (Nat×Nat×AV×OB)) (Γ:Env) (ops:Array Oper) (st:St) (o:Oper) (i:Nat):Bool:=
 (P.all λa=>mT ops 5 i a.1)||(Wx Γ st o&&P.all λa=>mT ops 5 i a.1||((kc o).all (jx a.2.1)&&(match o.dst with
  |some e=>!Nat.beq e a.2.1
  |none=>true)))
def Ah4 (T:Tab) (Γ:Env) (ops:Array Oper) (P:List (Nat×Nat×AV×OB)) (K:St->Prop):Nat->Array Bool->St->Prop
 |0,Ah,st=>Region.ready .any ops Ah= []/\K st
 |f+1,Ah,st=>Region.ready .any ops Ah≠ []/\ ∀i∈Region.ready .any ops Ah,∃o st',ops[i]?=some o/\LQ P Γ ops st o i=true/\Ey T Γ ops st o=some st'/\Ah4 T Γ ops P K f (Ah.setIfInBounds i true) st'
structure WH (lc la:Array Bool) (Q:List Nat):Prop where
 size:la.size=lc.size
 off: ∀k∈Q,k<la.size/\la.getD k false=false/\lc.getD k false=true
 same: ∀k,k∉Q->la.getD k false=lc.getD k false
theorem WH.ready {lc la:Array Bool} {Q:List Nat} (h:WH lc la Q) {i:Nat} (hi:i∈Region.ready .any ops la) (hn:i∉Q):i∈Region.ready .any ops lc:=by
 obtain ⟨h1,o,ho,Jt⟩:=mem_ready.1 hi
 have Li:i<la.size:=by
  rcases Nat.lt_or_ge i la.size with h'|h'
  ·exact h'
  ·simp [Array.getElem?_eq_none h'] at h1
 have h2:=getD_both h1
 rw [h.same i hn] at h2
 refine mem_ready.2 ⟨getD_in (by rw [<-h.size];exact Li) h2,o,ho,λe he hb=>?_⟩
 have h3:=Jt e he hb
 by_cases hq:e.on∈Q
 ·exact (h.off _ hq).2.2
 ·rw [<-h.same _ hq];exact h3
theorem WH.nil {lc la:Array Bool} (h:WH lc la []):la=lc:=by
 refine Array.ext h.size λk h1 h2=>?_
 have:=h.same k (by simp)
 simpa [h1,h2] using this
theorem WH.one {lc la:Array Bool} {Q Q':List Nat} {i:Nat} (h:WH lc la Q) (hi:i∈Q) (hs: ∀k,k∈Q'↔k∈Q/\k≠i):WH lc (la.setIfInBounds i true) Q':=by
 refine ⟨by simp [h.size],λk hk=>?_,λk hk=>?_⟩
 ·obtain ⟨h1,h2⟩:=(hs k).1 hk
  obtain ⟨g1,g2,g3⟩:=h.off k h1
  exact ⟨by simpa using g1,by rw [getD_set_ne false (Hs h2)];exact g2,g3⟩
 ·by_cases e:i=k
  ·subst e
   obtain ⟨g1,g2,g3⟩:=h.off i hi
   rw [g3]
   simp [g1]
  ·rw [getD_set_ne false e]
   exact h.same k λhq=>hk ((hs k).2 ⟨hq,Hs e⟩)
theorem WH.both {lc la:Array Bool} {Q:List Nat} {i:Nat} (h:WH lc la Q) (hi:i∉Q):WH (lc.setIfInBounds i true) (la.setIfInBounds i true) Q:=by
 refine ⟨by simp [h.size],λk hk=>?_,λk hk=>?_⟩
 ·obtain ⟨g1,g2,g3⟩:=h.off k hk
  have Jr:i≠k:= λe=>hi (by rw [e];exact hk)
  exact ⟨by simpa using g1,by rw [getD_set_ne false Jr];exact g2,by rw [getD_set_ne false Jr];exact g3⟩
 ·by_cases e:i=k
  ·subst e
   have hs:=h.same i hi
   have hz:=h.size
   by_cases hl:i<la.size
   ·simp [hl,hz▸hl]
   ·have Mc: ¬i<lc.size:=by omega
    simp [hl,Mc]
  ·rw [getD_set_ne false e,getD_set_ne false e];exact h.same k hk
theorem LO {dst:Option Tmp} {d:Nat} (h:(match dst with
  |some e=>!Nat.beq e d
  |none=>true)=true):dst≠some d:= λe=>by
 subst e
 simp at h
theorem RS {P:List (Nat×Nat×AV×OB)} {K:St->Prop} (hP: ∀a∈P,∃o,ops[a.1]?=some o/\fp T o=some a.2):
  ∀(n f:Nat) (Q:List (Nat×Nat×AV×OB)) (lc la:Array Bool) (s t:St),n=f+Q.length->Ah4 T Γ ops P K f lc s->yy (Q.map (·.2)) s t->WH lc la (Q.map (·.1))->(∀a∈Q,a∈P)->
   (Q.Pairwise λa c=>a.2.1≠c.2.1/\a.1≠c.1)->Ul ops la->(∀a∈Q,∀x,Region.waitsFor .any ops a.1 x=true->la.getD x false=true)->anyS T Γ ops K n la t:=by
 intro n
 induction n with
 |zero=>
  intro f Q lc la s t hn hC hp hb hQ hpw Qj hw
  have hf:f=0:=by omega
  have hq:Q= []:=Ci (by omega)
  subst hf hq
  have hp:s=t:=hp
  subst hp
  rw [hb.nil]
  exact hC
 |succ n ih=>
  intro f Q lc la s t hn hC hp hb hQ hpw Qj hw
  refine ⟨?_,λi hi=>?_⟩
  ·cases Q with
   |nil=>
    rw [hb.nil]
    cases f with
    |zero=>simp at hn
    |succ f=>exact hC.1
   |cons a Q=>
    obtain ⟨o,ho,_⟩:=hP a (hQ a (by simp))
    obtain ⟨g1,g2,_⟩:=hb.off a.1 (by simp)
    have:a.1∈Region.ready .any ops la:=mem_ready.2 ⟨getD_in g1 g2,o,ho,λe he hbd=>hw a (by simp) e.on (by
     unfold Region.waitsFor
     rw [ho]
     exact Array.any_eq_true'.2 ⟨e,he,by simp [hbd]⟩)⟩
    intro e
    rw [e] at this
    cases this
  ·by_cases hiQ:i∈Q.map (·.1)
   ·obtain ⟨a,ha,rfl⟩:=Bi.1 hiQ
    obtain ⟨Q1,Q2,rfl⟩:=List.append_of_mem ha
    obtain ⟨o,ho,hal⟩:=hP a (hQ a ha)
    obtain ⟨_,_,Pn⟩:=fq (Γ:=Γ) (ops:=ops) hal
    have YR:=List.pairwise_append.1 hpw
    have Amn:=List.pairwise_cons.1 YR.2.1
    rw [Mk,Ca] at hp
    have hL: ∀p∈Q1.map (·.2)++a.2::Q2.map (·.2),ss p.1 p.2.1 p.2.2:= λp vT=>by
     have:p∈(Q1++a::Q2).map (·.2):=by rw [Mk,Ca];exact vT
     obtain ⟨c,hc,rfl⟩:=Bi.1 this
     obtain ⟨o',_,Arc⟩:=hP c (hQ c hc)
     exact (fq (Γ:=Γ) (ops:=ops) Arc).2.1
    obtain ⟨p1,p2⟩:=xU _ hp hL λp vT=>by
     obtain ⟨c,hc,rfl⟩:=Bi.1 vT
     exact (YR.2.2 c hc a (by simp)).1
    refine ⟨o,_,ho,Pn t p1,ih f (Q1++Q2) lc _ s _ ?_ hC (by rw [Mk];exact p2) (hb.one hiQ λk=>?_) (λc hc=>hQ c ?_) ?_ (Qj.set hi) λc hc x hx=>getD_set_true (hw c ?_ x hx)⟩
    ·simp only [As,Ay] at hn⊢;omega
    ·simp only [Mk,Ca,Bb,Bg]
     constructor
     ·intro h
      rcases h with h|h
      ·obtain ⟨c,hc,rfl⟩:=Bi.1 h
       exact ⟨.inl h,(YR.2.2 c hc a (by simp)).2⟩
      ·obtain ⟨c,hc,rfl⟩:=Bi.1 h
       exact ⟨.inr (.inr h),Hs (Amn.1 c hc).2⟩
     ·rintro ⟨h|h|h,Jr⟩
      ·exact .inl h
      ·exact absurd h Jr
      ·exact .inr h
    ·rcases Bb.1 hc with hc|hc
     ·exact Bk _ hc
     ·exact Cg _ (Ao _ hc)
    ·exact List.pairwise_append.2 ⟨YR.1,Amn.2,λc hc e he=>YR.2.2 c hc e (Ao _ he)⟩
    ·rcases Bb.1 hc with hc|hc
     ·exact Bk _ hc
     ·exact Cg _ (Ao _ hc)
   ·have hic:=hb.ready hi hiQ
    cases f with
    |zero=>
     rw [hC.1] at hic
     cases hic
    |succ f=>
     obtain ⟨o,s',ho,dX,he,gS⟩:=hC.2 i hic
     have Adw: ∀a∈Q,mT ops 5 i a.1=false:= λa ha=>by
      cases hwt:mT ops 5 i a.1 with
      |false=>rfl
      |true=>
       have h1:=lV Qj _ i (λx hx=>cX hi hx) hwt
       rw [(hb.off a.1 (Bi.2 ⟨a,ha,rfl⟩)).2.1] at h1
       cases h1
     have key: ∃t',Ey T Γ ops t o=some t'/\yy (Q.map (·.2)) s' t':=by
      unfold LQ at dX
      rw [Mi,Af] at dX
      rcases dX with dX|⟨h1,h2⟩
      ·cases Q with
       |nil=>
        have hp:s=t:=hp
        subst hp
        exact ⟨s',he,rfl⟩
       |cons a Q=>
        have:=Az.1 dX a (hQ a (by simp))
        rw [Adw a (by simp)] at this
        cases this
      ·obtain ⟨t',g1,g2,_⟩:=xT (T:=T) (ops:=ops) _ s t s' hp (λq hq=>by
        obtain ⟨a,ha,rfl⟩:=Bi.1 hq
        obtain ⟨o',_,hal⟩:=hP a (hQ a ha)
        have h3:=Az.1 h2 a (hQ a ha)
        rw [Adw a ha,Xh,Af] at h3
        exact ⟨(fq (Γ:=Γ) (ops:=ops) hal).2.1,h3.1,LO h3.2⟩) h1 he
       exact ⟨t',g1,g2⟩
     obtain ⟨t',g1,g2⟩:=key
     exact ⟨o,t',ho,g1,ih f Q _ _ s' t' (by omega) gS g2 (hb.both hiQ) hQ hpw (Qj.set hi) λc hc x hx=>getD_set_true (hw c hc x hx)⟩
def Zt (T:Tab) (ops:Array Oper) (Ah:Array Bool):List (Nat×Nat×AV×OB):=(Region.ready .any ops Ah).filterMap λi=>((ops[i]?).bind (fp T)).map λr=>(i,r)
theorem yE {Ah:Array Bool} {a:Nat×Nat×AV×OB} (h:a∈Zt T ops Ah):a.1∈Region.ready .any ops Ah/\ ∃o,ops[a.1]?=some o/\fp T o=some a.2:=by
 unfold Zt at h
 obtain ⟨i,hi,he⟩:=List.mem_filterMap.1 h
 cases ho:ops[i]? with
 |none=>rw [ho] at he;cases he
 |some o=>
  rw [ho] at he
  simp only [Fl,Option.map_eq_some_iff] at he
  obtain ⟨r,h1,rfl⟩:=he
  exact ⟨hi,o,ho,h1⟩
theorem Ad7 {Ah:Array Bool} {Q:List Nat} (h: ∀i∈Q,i∈Region.ready .any ops Ah):WH (El Q Ah) Ah Q:=by
 have hr: ∀i∈Q,i<Ah.size/\Ah.getD i false=false:= λi hi=>by
  have h1:=(mem_ready.1 (h i hi)).1
  refine ⟨?_,getD_both h1⟩
  rcases Nat.lt_or_ge i Ah.size with h'|h'
  ·exact h'
  ·simp [Array.getElem?_eq_none h'] at h1
 exact ⟨(Wo Q Ah).symm,λk hk=>⟨(hr k hk).1,(hr k hk).2,fQ Q Ah k hk (hr k hk).1⟩,λk hk=>(dD Q Ah k hk).symm⟩
theorem GR: ∀(Q:List (Nat×Nat×AV×OB)) (t s:St),(∀a∈Q,∃o,ops[a.1]?=some o/\fp T o=some a.2)->(∀a∈Q,Jd a.2.1 t)->(Q.Pairwise λa c=>a.2.1≠c.2.1)->Nj T Γ ops (Q.map (·.1)) t=some s->yy (Q.map (·.2)) s t
 | [],t,s,_,_,_,h=>by
  have h:some t=some s:=h
  exact (Bc h).symm
 |a::Q,t,s,hQ,hn,hp,h=>by
  obtain ⟨o,ho,hal⟩:=hQ a (by simp)
  obtain ⟨_,hL,Pn⟩:=fq (Γ:=Γ) (ops:=ops) hal
  obtain ⟨xA,QD⟩:=List.pairwise_cons.1 hp
  simp only [Ca,Nj,ho] at h
  rw [Pn t (hn a (by simp))] at h
  refine ⟨hn a (by simp),GR Q _ s (λc hc=>hQ c (Ao _ hc)) (λc hc=>?_) QD h⟩
  exact (hn c (Ao _ hc)).plus (Hs (xA c hc)) (λh=>xA c hc (hL.v1 _ h).symm) (by rw [hL.b1];simp)
end
end Go.Proofs.YtkkdpknjohcekaaGreat
