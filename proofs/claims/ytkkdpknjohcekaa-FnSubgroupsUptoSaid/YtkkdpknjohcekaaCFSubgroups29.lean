/-
  Part 30 of the proof that the statement FnSubgroups holds.
-/
import Derived.Test.YtkkdpknjohcekaaCFSubgroups28
namespace Go.Proofs.Ytkkdpknjohcekaa
open Go.RowKit
def Iw (d:Nat) (v:AV) (b:OB) (st:St):St:= {tmps:=Sn st.tmps d v,heap:=Nz st.heap d b}
def pM (d:Nat) (st:St):Bool:=(st.get d).refs.isEmpty&&((st.tmps.all λv=>!v.refs.contains d)&&st.heap.all λp=>!Nat.beq p.1 d&&!p.2.refs.contains d)
structure Ib (d:Nat) (st:St):Prop where
 own:(st.get d).refs= []
 tmps: ∀v∈st.tmps,d∉v.refs
 heap: ∀p∈st.heap,p.1≠d/\d∉p.2.refs
theorem ue {d:Nat} {st:St} (h:pM d st=true):Ib d st:=by
 unfold pM at h
 rw [Ai,Ai,Bf,Bf] at h
 obtain ⟨h0,h⟩:=h
 refine ⟨List.isEmpty_iff.1 h0,λv hv=>?_,λp hp=>?_⟩
 ·have:=h.1 v hv
  intro hd
  rw [Je.2 hd] at this
  cases this
 ·have:=h.2 p hp
  rw [Ai] at this
  refine ⟨λe=>?_,λhd=>?_⟩
  ·have h1:=this.1
   rw [e,Nat.beq_refl] at h1
   cases h1
  ·have h1:=this.2
   rw [Je.2 hd] at h1
   cases h1
theorem UP {d:Nat} {st:St} (h:Ib d st):pM d st=true:=by
 unfold pM
 rw [Ai,Ai,Bf,Bf]
 refine ⟨by rw [h.own];rfl,λv hv=>?_,λp hp=>?_⟩
 ·rw [Ew,<-Fa,Je];exact h.tmps v hv
 ·rw [Ai]
  refine ⟨?_,?_⟩
  ·rw [Ew,<-Fa]
   exact λe=>(h.heap p hp).1 (Jf e)
  ·rw [Ew,<-Fa,Je];exact (h.heap p hp).2
structure sx (d:Nat) (v:AV) (b:OB):Prop where
 v1: ∀l,l∈v.refs->l=d
 b1:b.refs= []
 v2: ∀l,l≠d->v.map (Cu l)=v
 b2: ∀l,b.map (Cu l)=b
theorem ek {α:Type} : ∀(xs:List α) (d t:Nat) (v x:α),d≠t->(Sn xs d v).getD t x=xs.getD t x
 | [],_,_,_,_,_=>rfl
 |y::r,0,0,_,_,h=>absurd rfl h
 |y::r,0,t+1,_,_,_=>by simp [Sn]
 |y::r,d+1,0,_,_,_=>by simp [Sn]
 |y::r,d+1,t+1,v,x,h=>by simpa [Sn] using ek r d t v x (by omega)
theorem qd {α:Type} : ∀(xs:List α) (d e:Nat) (v w:α),d≠e->Sn (Sn xs d v) e w=Sn (Sn xs e w) d v
 | [],_,_,_,_,_=>rfl
 |y::r,0,0,_,_,h=>absurd rfl h
 |y::r,0,e+1,_,_,_=>rfl
 |y::r,d+1,0,_,_,_=>rfl
 |y::r,d+1,e+1,v,w,h=>by simp only [Sn];rw [qd r d e v w (by omega)]
theorem xu: ∀(H:List (Nat×OB)) (d l:Nat) (b:OB),d≠l->Aw (Nz H d b) l=Aw H l
 | [],d,l,b,h=>by simp [Nz,Aw,h]
 |(k,c)::r,d,l,b,h=>by
  simp only [Nz]
  split
  ·simp only [Aw];rw [Ak h]
  ·simp only [Aw]
   split
   ·rfl
   ·exact xu r d l b h
theorem xB: ∀(H:List (Nat×OB)) (d e:Nat) (b c:OB),d≠e->Nz (Nz H d b) e c=Nz (Nz H e c) d b
 | [],d,e,b,c,h=>by
  simp only [Nz]
  by_cases h1:e<d
  ·rw [Ab h1,Ak (by omega)]
  ·rw [Ak h1,Ab (by omega)]
 |(k,a)::r,d,e,b,c,h=>by
  simp only [Nz]
  by_cases h1:d<k<;>by_cases h2:e<k
  ·rw [Ab h1,Ab h2]
   simp only [Nz]
   by_cases h3:e<d
   ·rw [Ab h3,Ak (by omega),Ab h1]
   ·rw [Ak h3,Ab h2,Ab (by omega)]
  ·rw [Ab h1,Ak h2]
   simp only [Nz]
   rw [Ak (by omega),Ak h2,Ab h1]
  ·rw [Ak h1,Ab h2]
   simp only [Nz]
   rw [Ab h2,Ak (by omega),Ak h1]
  ·rw [Ak h1,Ak h2]
   simp only [Nz]
   rw [Ak h1,Ak h2,xB r d e b c h]
theorem yq: ∀(H:List (Nat×OB)) (d l:Nat) (b c:OB),d≠l->ay (Nz H d b) l c=Nz (ay H l c) d b
 | [],d,l,b,c,h=>by simp [Nz,ay,h]
 |(k,a)::r,d,l,b,c,h=>by
  simp only [Nz,ay]
  by_cases h1:d<k<;>by_cases h2:k=l
  ·rw [Ab h1,Ab h2]
   simp only [ay,Nz]
   rw [Ak h,Ab h2,Ab h1]
  ·rw [Ab h1,Ak h2]
   simp only [ay,Nz]
   rw [Ak h,Ak h2,Ab h1]
  ·rw [Ak h1,Ab h2]
   simp only [ay,Nz]
   rw [Ab h2,Ak h1]
  ·rw [Ak h1,Ak h2]
   simp only [ay,Nz]
   rw [Ak h2,Ak h1,yq r d l b c h]
theorem qI {l:Nat} : ∀ {c:AC},l∉c.refs->Cu l c=c:=by
 intro c h
 cases c<;>simp only [Cu]<;>simp only [AC.refs,Ae] at h
 case clo f Ek=>rw [Ak (by simpa using h)]
 all_goals (first|rfl|rw [Ak (Gb h)])
theorem aU {l:Nat} : ∀ {cs:List AC},l∉cs.flatMap AC.refs->cs.map (Cu l)=cs
 | [],_=>rfl
 |c::r,h=>by
  rw [Vr,Az] at h
  rw [Ca,qI (λhh=>h (.inl hh)),aU (λhh=>h (.inr hh))]
theorem EY {l:Nat} : ∀ {v:AV},l∉v.refs->v.map (Cu l)=v
 | .at a,h=>by simp only [AV.map];rw [qI h]
 | .agg cs,h=>by simp only [AV.map];rw [aU h]
 | .bp _ _ _,_=>rfl
 | .Mn ps,h=>by
  simp only [AV.map]
  congr 1
  simp only [AV.refs] at h
  induction ps with
  |nil=>rfl
  |cons p r ih=>
   rw [Vr,Az] at h
   rw [Ca,aU (λhh=>h (.inl hh)),ih (λhh=>h (.inr hh))]
theorem EZ {l:Nat} : ∀ {b:OB},l∉b.refs->b.map (Cu l)=b
 | .arr _ _ _ _ _,_=>rfl
 | .Gx _ _ _,_=>rfl
 | .var _ vs,h=>by simp only [OB.map];rw [aU h]
 | .Bo _ _ _ _ _,_=>rfl
 | .Vq _ _,_=>rfl
theorem EJ {l:Nat} : ∀ {H:List (Nat×OB)},(∀p∈H,p.1≠l)->aF H l=H
 | [],_=>rfl
 |(k,b)::r,h=>by
  simp only [aF]
  rw [Ak (h (k,b) (by simp)),EJ λp hp=>h p (by simp [hp])]
theorem Ib.forget {l:Nat} {st:St} (h:Ib l st):st.forget l=st:=by
 have e1:st.tmps.map (λv=>v.map (Cu l))=st.tmps:=(Gj λv hv=>EY (h.tmps v hv)).trans (List.map_id _)
 have e2:st.heap.map (λp=>(p.1,p.2.map (Cu l)))=st.heap:=(Gj λp hp=>by rw [EZ (h.heap p hp).2];rfl).trans (List.map_id _)
 unfold St.forget St.Kv
 simp only [e1,e2]
 rw [EJ λp hp=>(h.heap p hp).1]
theorem Ib.new {l:Nat} {st:St} (h:Ib l st) (b:OB) (v:AV):(st.new l b).put (some l) v=Iw l v b st:=by
 unfold St.new
 rw [h.forget]
 rfl
theorem u9 {α:Type} : ∀ {xs:List α} {d:Nat} {v x:α},x∈Sn xs d v->x∈xs\/x=v
 | [],_,_,_,h=>by cases h
 |y::r,0,v,x,h=>by
  rcases Bc.1 h with h|h
  ·exact .inr h
  ·exact .inl (Ar _ h)
 |y::r,d+1,v,x,h=>by
  rcases Bc.1 h with h|h
  ·exact .inl (by rw [h];simp)
  ·exact (u9 h).imp (Ar _) id
theorem GX: ∀ {H:List (Nat×OB)} {d:Nat} {b:OB} {p:Nat×OB},p∈Nz H d b->p∈H\/p=(d,b)
 | [],d,b,p,h=> .inr (by simpa [Nz] using h)
 |(k,c)::r,d,b,p,h=>by
  simp only [Nz] at h
  split at h
  ·rcases Bc.1 h with h|h
   ·exact .inr h
   ·exact .inl h
  ·rcases Bc.1 h with h|h
   ·exact .inl (by rw [h];simp)
   ·exact (GX h).imp (Ar _) id
theorem Ae0 {d:Nat} {v:AV} {b:OB} {st:St} {x:Operand} (h:x≠ .tmp d):(Iw d v b st).ev x=st.ev x:=by
 cases x with
 |tmp t=>exact ek _ _ _ _ _ (λe=>h (by rw [e]))
 |_=>rfl
theorem QC {d l:Nat} {v:AV} {b:OB} {st:St} (h:d≠l):(Iw d v b st).at l=st.at l:=xu _ _ _ _ h
theorem YH {d e:Nat} {v u:AV} {b:OB} {st:St} (h:d≠e):(Iw d v b st).put (some e) u=Iw d v b (st.put (some e) u):=by
 unfold Iw St.put
 simp only
 rw [qd _ _ _ _ _ h]
theorem SX {d l:Nat} {v:AV} {b c:OB} {st:St} (h:d≠l):(Iw d v b st).Jr l c=Iw d v b (st.Jr l c):=by
 unfold Iw St.Jr
 simp only
 rw [yq _ _ _ _ _ h]
theorem x8 {d e:Nat} {v u:AV} {b c:OB} {st:St} (h:d≠e):Iw e u c (Iw d v b st)=Iw d v b (Iw e u c st):=by
 unfold Iw
 rw [qd _ _ _ _ _ h,xB _ _ _ _ _ h]
theorem Ib.put {d:Nat} {st:St} {e:Nat} {u:AV} (h:Ib d st) (LP:e≠d) (hu:d∉u.refs):Ib d (st.put (some e) u):=
 ⟨by show (List.getD (Sn st.tmps e u) d .undef).refs= [];rw [ek _ _ _ _ _ LP];exact h.own,λv hv=>(u9 hv).elim (h.tmps v) λe=>by rw [e];exact hu,h.heap⟩
theorem Ib.plus {d e:Nat} {u:AV} {c:OB} {st:St} (h:Ib d st) (LP:d≠e) (hu:d∉u.refs) (hc:d∉c.refs):Ib d (Iw e u c st):=
 ⟨by show (List.getD (Sn st.tmps e u) d .undef).refs= [];rw [ek _ _ _ _ _ (Gb LP)];exact h.own,λv hv=>(u9 hv).elim (h.tmps v) λe=>by rw [e];exact hu,λp hp=>(GX hp).elim (h.heap p) λe'=>by rw [e'];exact ⟨Gb LP,hc⟩⟩
theorem Ib.Aki {d e:Nat} {u:AV} {c:OB} {st:St} (h:Ib d (Iw e u c st)): ∀p∈st.heap,p.1≠d/\d∉p.2.refs:= λp hp=>h.heap p (by
 show p∈Nz st.heap e c
 generalize st.heap=H at hp
 induction H with
 |nil=>cases hp
 |cons q r ih=>
  obtain ⟨k,a⟩:=q
  simp only [Nz]
  split
  ·exact Ar _ hp
  ·rcases Bc.1 hp with hp|hp
   ·rw [hp];simp
   ·exact Ar _ (ih hp))
theorem sf {st st':St} : ∀(τ:Ty) (cs:List AC),cs.all (·.settled)=true->Fh st' τ cs=Fh st τ cs:=by
 intro τ
 induction τ with
 |unit=>intro cs _;cases cs<;>rfl
 |pair a r iq ie=>
  intro cs h
  simp only [Fh]
  rw [Bf] at h
  rw [iq _ (Bf.2 λc hc=>h c (Er hc)),ie _ (Bf.2 λc hc=>h c (dM hc))]
 |_=>
  intro cs h
  rcases cs with _|⟨c,_|⟨c',cs⟩⟩
  ·rfl
  ·simp only [Jb,List.all_nil,Bool.and_true] at h
   simp only [Fh]
   exact aZ h
  ·rfl
theorem gu {st st':St} {τ:Ty} {v:AV} (h:v.settled=true):Fv st' τ v=Fv st τ v:=by
 cases v with
 | «at»a=>
  have ha:a.settled=true:=h
  cases a<;>simp only [AC.settled,Df] at ha
  all_goals
   simp only [Fv]
   rw [Qe rfl,Qe rfl]
   rw [aZ (st:=st) (st':=st') rfl]
 |agg cs=>simp only [Fv];rw [sf _ _ h]
 |bp _ _ _=>rfl
 |Mn _=>rfl
theorem jZ {st st':St} : ∀(τ:Ty) (vs:List AV),vs.all (·.settled)=true->Ec st' τ vs=Ec st τ vs
 | .pair a r,v::vs,h=>by
  rw [Jb,Ai] at h
  simp only [Ec]
  rw [gu (st:=st) (st':=st') h.1,jZ r vs h.2]
 | .pair _ _,[],_=>rfl
 | .unit,[],_=>rfl
 | .unit,_::_,_=>rfl
 | .int _,vs,_=>by cases vs<;>rfl
 | .bool,vs,_=>by cases vs<;>rfl
 | .str,vs,_=>by cases vs<;>rfl
 | .slice _,vs,_=>by cases vs<;>rfl
 | .oslice _,vs,_=>by cases vs<;>rfl
 | .ptr _,vs,_=>by cases vs<;>rfl
 | .optr _,vs,_=>by cases vs<;>rfl
 | .smap _,vs,_=>by cases vs<;>rfl
 | .clo _ _,vs,_=>by cases vs<;>rfl
def Wn:AV->Bool
 | .at (.data _ _ _)=>true
 |_=>false
def jX (o:Oper):List Operand:=match o.op with
 | .move x=> [x]
 | .load _ x=> [x]
 | .call {callee:= .value (.func _),args, .. } =>args.toList
 | .insert _ m k x=> [m,k,x]
 | .buildSlice _ _ parts=>parts.toList.map (·.2)
 |_=> []
def jo (d:Nat):Operand->Bool
 | .tmp t=>!Nat.beq t d
 |_=>true
theorem UQ {d:Nat} {x:Operand} (h:jo d x=true):x≠ .tmp d:= λe=>by
 subst e
 simp [jo] at h
def Wr (Γ:Env) (st:St) (o:Oper):Bool:=match o.guard with
 |some _=>false
 |none=>match o.op with
  | .move _=>true
  | .load _ x=>(match st.ev x with
   | .at (.He _ _)=>true
   |_=>false)
  | .call {callee:= .value (.func f),args, .. } =>(match Γ f with
   |some (.q _)=>true
   |_=>false)&&args.toList.all λx=>(st.ev x).settled
  | .insert _ m k x=>(match st.ev m with
   | .at (.Kh _)=>true
   |_=>false)&&Wn (st.ev k)&&(st.ev x).settled
  | .buildSlice _ _ parts=>(parts.toList.all λp=>Wn (st.ev p.2))&&(match o.dst with
   |some e=>pM e st
   |none=>false)
  |_=>false
theorem Ib.ev {d:Nat} {st:St} (h:Ib d st) (x:Operand):d∉(st.ev x).refs:=by
 cases x with
 |tmp t=>
  simp only [St.ev,St.get]
  rw [Al]
  by_cases hl:t<st.tmps.length
  ·rw [Ad hl];exact h.tmps _ (An hl)
  ·rw [Ee (Nat.le_of_not_lt hl)];simp [AV.refs,AC.refs]
 |const c=>
  simp only [St.ev]
  unfold nz
  split<;>simp [AV.refs,AC.refs]
 |func f=>simp [St.ev,AV.refs,AC.refs]
 |_=>simp [St.ev,AV.refs,AC.refs]
theorem FK: ∀ {H:List (Nat×OB)} {l:Nat} {b:OB},Aw H l=some b->(l,b)∈H
 |(k,c)::r,l,b,h=>by
  simp only [Aw] at h
  split at h
  ·rename_i e;subst e;cases h;simp
  ·exact Ar _ (FK h)
section
variable {T:Tab} {Γ:Env} {ops:Array Oper} {d:Nat} {v:AV} {b:OB} {t:St}
theorem ye {e:Option Tmp} (h:e≠some d) (hn:Ib d t) {y:AV} (hy:d∉y.refs):(Iw d v b t).put e y=Iw d v b (t.put e y)/\Ib d (t.put e y):=by
 cases e with
 |none=>exact ⟨rfl,hn⟩
 |some k=>exact ⟨YH (λe=>h (by rw [e])),hn.put (λe=>h (by rw [e])) hy⟩
theorem jy {o:Oper} (hg:o.guard=none) (eu:o.dst≠some d) (hn:Ib d t) {q:Option AV} (h1:evalOp T Γ (Iw d v b t) o=q.map λy=>(y,Iw d v b t)) (h2:evalOp T Γ t o=q.map λy=>(y,t)) (hq: ∀y,q=some y->d∉y.refs) {s':St}
  (he:Ff T Γ ops (Iw d v b t) o=some s'): ∃t',Ff T Γ ops t o=some t'/\s'=Iw d v b t'/\Ib d t':=by
 unfold Ff at he⊢
 rw [hg] at he⊢
 simp only at he⊢
 rw [h1] at he
 cases q with
 |none=>cases he
 |some y=>
  obtain ⟨p1,p2⟩:=ye (v:=v) (b:=b) eu hn (hq y rfl)
  refine ⟨_,by rw [h2];rfl,?_,p2⟩
  simp only [Am,Aa] at he
  rw [<-he,p1]
theorem Zr {l:List Operand} (hu:l.all (jo d)=true): ∀x∈l,(Iw d v b t).ev x=t.ev x:= λx hx=>Ae0 (UQ (Bf.1 hu x hx))
theorem MP {dst:Option Tmp} {x:Operand} {ty:TypeId} {pos:String} {after:Array Edge} (hn:Ib d t) (hx:(Iw d v b t).ev x=t.ev x) (eu:dst≠some d) {s':St}
  (he:Ff T Γ ops (Iw d v b t) {dst:=dst,op:= .move x,type:=ty,pos:=pos,after:=after,guard:=none} =some s'):
  ∃t',Ff T Γ ops t {dst:=dst,op:= .move x,type:=ty,pos:=pos,after:=after,guard:=none} =some t'/\s'=Iw d v b t'/\Ib d t':=
 jy rfl eu hn (q:=some (t.ev x)) (by simp only [evalOp,Fl,hx]) (by simp only [evalOp,Fl]) (λy hy=>by cases hy;exact hn.ev x) he
def loadVar (T:Tab) (o:Option OB) (t0:TypeId) (i:Nat):Option AV:=match T.ty t0 with
 |some τ=>(match o with
  |some (.var _ vs)=>if τ.Ap then (if i+τ.size<=vs.length then some (.agg ((vs.drop i).take τ.size)) else none) else vs[i]?.map .at
  |_=>none)
 |none=>none
theorem l9 {st:St} {t0:TypeId} {l i:Nat} :Px T st t0 (.at (.He l i))=loadVar T (st.at l) t0 i:=by
 unfold Px loadVar
 cases T.ty t0<;>rfl
theorem MM {dst:Option Tmp} {t0:TypeId} {x:Operand} {ty:TypeId} {pos:String} {after:Array Edge} (hn:Ib d t) (hx:(Iw d v b t).ev x=t.ev x) (eu:dst≠some d) {l i:Nat} (hp:t.ev x= .at (.He l i)) {s':St}
  (he:Ff T Γ ops (Iw d v b t) {dst:=dst,op:= .load t0 x,type:=ty,pos:=pos,after:=after,guard:=none} =some s'):
  ∃t',Ff T Γ ops t {dst:=dst,op:= .load t0 x,type:=ty,pos:=pos,after:=after,guard:=none} =some t'/\s'=Iw d v b t'/\Ib d t':=by
 have hld:d≠l:= λe=>by
  have:=hn.ev x
  rw [hp,e] at this
  exact this (by simp [AV.refs,AC.refs])
 refine jy rfl eu hn (q:=loadVar T (t.at l) t0 i) ?_ ?_ (λy hy=>?_) he
 ·simp only [evalOp,Fl,hx,hp]
  rw [l9,QC hld]
 ·simp only [evalOp,Fl,hp]
  rw [l9]
 ·unfold loadVar at hy
  split at hy
  ·split at hy
   ·rename_i vs hb
    have hr:d∉vs.flatMap AC.refs:=(hn.heap _ (FK hb)).2
    have dQ: ∀c∈vs,d∉c.refs:= λc hc hd=>hr (Fz.2 ⟨c,hc,hd⟩)
    split at hy
    ·split at hy
     ·cases hy
      intro hd
      obtain ⟨c,hc,hd⟩:=Fz.1 hd
      exact dQ c (dM (Er hc)) hd
     ·cases hy
    ·cases hv:vs[i]? with
     |none=>rw [hv] at hy;cases hy
     |some c=>
      rw [hv] at hy
      cases hy
      exact dQ c (Cp hv)
   ·cases hy
  ·cases hy
theorem TA {l:List Operand} (hu:l.all (jo d)=true):l.map (Iw d v b t).ev=l.map t.ev:=Gj λx hx=>Zr hu x hx
theorem KT {dst:Option Tmp} {f:FuncId} {args:Array Operand} {tys:Array TypeId} {ty:TypeId} {pos:String} {after:Array Edge} {sp:Spec} (Om:Γ f=some (.q sp)) (hn:Ib d t) (hx:args.toList.map (Iw d v b t).ev=args.toList.map t.ev) (eu:dst≠some d)
  (hs:(args.toList.map t.ev).all (·.settled)=true) {s':St} (he:Ff T Γ ops (Iw d v b t) {dst:=dst,op:= .call {callee:= .value (.func f),args:=args,argTypes:=tys},type:=ty,pos:=pos,after:=after,guard:=none} =some s'):
  ∃t',Ff T Γ ops t {dst:=dst,op:= .call {callee:= .value (.func f),args:=args,argTypes:=tys},type:=ty,pos:=pos,after:=after,guard:=none} =some t'/\s'=Iw d v b t'/\Ib d t':=by
 have RH:fI sp (args.toList.map t.ev)=false:=by unfold fI;rw [hs];simp
 have LQ: ∀st:St,Ok Γ st f (args.toList.map t.ev)=(match Ec t sp.arg (args.toList.map t.ev) with
   |none=>none
   |some (_,x)=>(sp.fn x).map λy=>if sp.Gl then .bp (sp.fresh||sp.res.flat) sp.res y else .at (.data (sp.fresh||sp.res.flat) sp.res y)):= λst=>by
  unfold Ok
  rw [Om]
  simp only
  rw [hs,jZ (st:=t) _ _ hs]
  simp only [Bool.or_true,Ny]
  cases Ec t sp.arg (args.toList.map t.ev)<;>rfl
 refine jy rfl eu hn (q:=Ok Γ t f (args.toList.map t.ev)) ?_ ?_ (λy hy=>?_) he
 ·simp only [evalOp,Fl,Om,hx,RH]
  rw [LQ,LQ t]
  simp
 ·simp only [evalOp,Fl,Om,RH]
  simp
 ·rw [LQ t] at hy
  split at hy
  ·cases hy
  ·rename_i x _
   cases hf:sp.fn x with
   |none=>rw [hf] at hy;cases hy
   |some z=>
    rw [hf] at hy
    simp only [Am,Aa] at hy
    rw [<-hy]
    split<;>simp [AV.refs,AC.refs]
def oo (T:Tab) (o:Option OB) (t0:TypeId) (s:ByteArray) (vw:(v:Ty)->Option (Bool×v.den)):Option OB:=match T.mapOf t0 with
 |some v=>(match o,vw v with
  |some (.Vq v' f),some (_,y)=>if h:v'=v/\v.flat=true/\v.Ap=false then some (.Vq v (gr (h.1▸f:ByteArray->Option v.den) s y)) else none
  |_,_=>none)
 |none=>none
theorem lb {st:St} {t0:TypeId} {l:Nat} {fr:Bool} {s:ByteArray} {x:AV} :Is T st t0 (.at (.Kh l)) (.at (.data fr .str s)) x=(oo T (st.at l) t0 s λv=>Fv st v x).map λc=>st.Jr l c:=by
 unfold Is oo
 cases T.mapOf t0 with
 |none=>rfl
 |some v0=>
  simp only
  cases st.at l with
  |none=>rfl
  |some c=>
   cases c with
   |Vq v' f=>
    cases Fv st v0 x with
    |none=>rfl
    |some p=>
     simp only
     split<;>rfl
   |_=>rfl
theorem GU {o:Option OB} {t0:TypeId} {s:ByteArray} {vw:(v:Ty)->Option (Bool×v.den)} {c:OB} (h:oo T o t0 s vw=some c):c.refs= []:=by
 unfold oo at h
 split at h
 ·split at h
  ·split at h
   ·cases h;rfl
   ·cases h
  ·cases h
 ·cases h
theorem tf {st:St} {t0:TypeId} {m k x:AV} {s':St} (h:Is T st t0 m k x=some s'): ∃l fr s,m= .at (.Kh l)/\k= .at (.data fr .str s):=by
 unfold Is at h
 split at h
 ·exact ⟨_,_,_,rfl,rfl⟩
 ·cases h
theorem GY: ∀ {H:List (Nat×OB)} {l:Nat} {c:OB} {p:Nat×OB},p∈ay H l c->p∈H\/(p.2=c/\p.1=l/\ ∃c',(l,c')∈H)
 |(k,a)::r,l,c,p,h=>by
  simp only [ay] at h
  split at h
  ·rename_i e
   rcases Bc.1 h with h|h
   ·subst h;exact .inr ⟨rfl,e,a,by rw [e];simp⟩
   ·exact .inl (Ar _ h)
  ·rcases Bc.1 h with h|h
   ·exact .inl (by rw [h];simp)
   ·exact (GY h).imp (Ar _) λ⟨h1,h2,c',h3⟩=>⟨h1,h2,c',Ar _ h3⟩
theorem Ib.Jr {st:St} {l:Nat} {c:OB} (h:Ib d st) (hc:d∉c.refs):Ib d (st.Jr l c):=
 ⟨h.own,h.tmps,λp hp=>(GY hp).elim (h.heap p) λ⟨h1,h2,c',h3⟩=>⟨by rw [h2];exact (h.heap _ h3).1,by rw [h1];exact hc⟩⟩
theorem zw {dst:Option Tmp} {t0:TypeId} {m k x:Operand} {ty:TypeId} {pos:String} {after:Array Edge} (hn:Ib d t) (hm:(Iw d v b t).ev m=t.ev m) (hk:(Iw d v b t).ev k=t.ev k) (hx:(Iw d v b t).ev x=t.ev x) (eu:dst≠some d)
  (hs:(t.ev x).settled=true) {s':St} (he:Ff T Γ ops (Iw d v b t) {dst:=dst,op:= .insert t0 m k x,type:=ty,pos:=pos,after:=after,guard:=none} =some s'):
  ∃t',Ff T Γ ops t {dst:=dst,op:= .insert t0 m k x,type:=ty,pos:=pos,after:=after,guard:=none} =some t'/\s'=Iw d v b t'/\Ib d t':=by
 unfold Ff at he⊢
 simp only [evalOp,hm,hk,hx] at he⊢
 cases hms:Is T (Iw d v b t) t0 (t.ev m) (t.ev k) (t.ev x) with
 |none=>rw [hms] at he;cases he
 |some s1=>
  rw [hms] at he
  simp only [Am,Aa] at he
  obtain ⟨l,fr,s,e1,e2⟩:=tf hms
  have hld:d≠l:= λe=>by
   have:=hn.ev m
   rw [e1,e] at this
   exact this (by simp [AV.refs,AC.refs])
  rw [e1,e2,lb,QC hld] at hms
  have hvw:(λv0=>Fv (Iw d v b t) v0 (t.ev x))= λv0=>Fv t v0 (t.ev x):=funext λv0=>gu hs
  rw [hvw] at hms
  rw [e1,e2,lb]
  cases ho:oo T (t.at l) t0 s λv0=>Fv t v0 (t.ev x) with
  |none=>rw [ho] at hms;cases hms
  |some c=>
   rw [ho] at hms
   simp only [Am,Aa] at hms
   have hc:=GU ho
   have oZ:Ib d (t.Jr l c):=hn.Jr (by rw [hc];simp)
   obtain ⟨p1,p2⟩:=ye (v:=v) (b:=b) (y:= .undef) eu oZ (by simp [AV.refs,AC.refs])
   refine ⟨_,rfl,?_,p2⟩
   rw [<-he,<-hms,SX hld,p1]
theorem Ib.back {e:Nat} (h:Ib e (Iw d v b t)) (LP:e≠d) (hn:Ib d t):Ib e t:=by
 have hg: ∀k,k≠d->(Iw d v b t).get k=t.get k:= λk hk=>ek _ _ _ _ _ (Gb hk)
 refine ⟨by rw [<-hg e LP];exact h.own,λu hu hd=>?_,h.Aki⟩
 obtain ⟨k,hk,rfl⟩:=Bj.1 hu
 have e1:t.get k=t.tmps[k]:=by unfold St.get;rw [Al,Ad hk];rfl
 by_cases hkd:k=d
 ·subst hkd
  have:=hn.own
  rw [e1] at this
  rw [this] at hd
  cases hd
 ·have h1:=h.ev (.tmp k)
  have h2:(Iw d v b t).ev (.tmp k)=t.tmps[k]:=by show (Iw d v b t).get k=_;rw [hg k hkd,e1]
  rw [h2] at h1
  exact h1 hd
def mO (e:Ty):Nat->List (Nat×AV)->Option (Bool×Bool×List e.den)
 |_,[]=>some (true,true,[])
 |i,(j,x)::r=>if i=j then match Fv ⟨[],[]⟩ e x with
  |some (fr,y)=>match mO e (i+1) r with
   |some (Wd,tr',ys)=>some (fr&&Wd,Th ⟨[],[]⟩ x&&e.tree&&tr',y::ys)
   |none=>none
  |none=>none
  else none
theorem dW {st:St} {e:Ty} : ∀(l:List (Nat×Operand)) (i:Nat),(l.all λp=>Wn (st.ev p.2))=true->Ld e i l st=(mO e i (l.map λp=>(p.1,st.ev p.2))).map λp=>(p.1,p.2.1,p.2.2,st)
 | [],i,_=>rfl
 |(j,x)::r,i,h=>by
  rw [Jb,Ai] at h
  have hx:Wn (st.ev x)=true:=h.1
  simp only [Ld,mO,Ca]
  split
  ·generalize hxv:st.ev x=xv at hx
   unfold Wn at hx
   split at hx
   ·rename_i fr τ z
    have Ajw:settle st (.at (.data fr τ z))=some (.at (.data fr τ z),st):=rfl
    rw [Ajw]
    simp only
    rw [gu (st:=⟨[],[]⟩) (st':=st) (v:= .at (.data fr τ z)) rfl]
    cases Fv ⟨[],[]⟩ e (.at (.data fr τ z)) with
    |none=>rfl
    |some p=>
     simp only
     rw [dW r (i+1) h.2]
     cases mO e (i+1) (r.map λp=>(p.1,st.ev p.2)) with
     |none=>rfl
     |some q=>rfl
   ·cases hx
  ·rfl
def rowOf (T:Tab) (t0:TypeId) (len:Nat) (parts:List (Nat×AV)) (dst:Nat):Option (AV×OB):=match eo T t0 with
 |some _=>none
 |none=>match T.elem t0 with
  |none=>none
  |some te=>match T.ty te with
   |none=>none
   |some e=>if parts.length=len/\len<=64/\e.size<=64/\dst<Bp then (mO e 0 parts).map λp=>(.at (.own dst 0 len), .arr ((T.sl||e.flat)&&p.1) (T.yC&&p.2.1) e te p.2.2) else none
theorem iG {st:St} {t0:TypeId} {len dst:Nat} {parts:Array (Nat×Operand)} (h:(parts.toList.all λp=>Wn (st.ev p.2))=true):
  Iq T st dst t0 len parts=(rowOf T t0 len (parts.toList.map λp=>(p.1,st.ev p.2)) dst).map λr=>(r.1,st.new dst r.2):=by
 unfold Iq rowOf
 cases eo T t0 with
 |some p=>
  obtain ⟨te,e⟩:=p
  simp only [Option.map_none]
  split
  ·rename_i x hp
   rw [hp,Jb,Ai] at h
   have hx:Wn (st.ev x)=true:=h.1
   unfold Wn at hx
   split at hx
   ·rename_i hv;simp only [hv]
   ·cases hx
  ·rfl
 |none=>
  simp only
  unfold Mf
  cases T.elem t0 with
  |none=>rfl
  |some te=>
   simp only
   cases T.ty te with
   |none=>rfl
   |some e=>
    simp only [Bs,Xg]
    split
    ·rw [dW _ 0 h]
     cases mO e 0 (parts.toList.map λp=>(p.1,st.ev p.2))<;>rfl
    ·rfl
theorem rm {t0:TypeId} {len dst:Nat} {parts:List (Nat×AV)} {r:AV×OB} (h:rowOf T t0 len parts dst=some r):sx dst r.1 r.2:=by
 unfold rowOf at h
 split at h
 ·cases h
 ·split at h
  ·cases h
  ·split at h
   ·cases h
   ·split at h
    ·rename_i e _ _
     cases hp:mO e 0 parts with
     |none=>rw [hp] at h;cases h
     |some p=>
      rw [hp] at h
      simp only [Am,Aa] at h
      subst h
      exact ⟨λl hl=>by simpa [AV.refs,AC.refs] using hl,rfl,λl hl=>by simp only [AV.map,Cu];rw [Ak (Gb hl)],λl=>rfl⟩
    ·cases h
theorem EC {e:Nat} {t0:TypeId} {len:Nat} {parts:Array (Nat×Operand)} {ty:TypeId} {pos:String} {after:Array Edge} (_hl:sx d v b) (hn:Ib d t) (hx: ∀p∈parts.toList,(Iw d v b t).ev p.2=t.ev p.2) (eu:e≠d)
  (hp:(parts.toList.all λp=>Wn (t.ev p.2))=true) (Ig:Ib e (Iw d v b t)) {s':St} (he:Ff T Γ ops (Iw d v b t) {dst:=some e,op:= .buildSlice t0 len parts,type:=ty,pos:=pos,after:=after,guard:=none} =some s'):
  ∃t',Ff T Γ ops t {dst:=some e,op:= .buildSlice t0 len parts,type:=ty,pos:=pos,after:=after,guard:=none} =some t'/\s'=Iw d v b t'/\Ib d t':=by
 have Ajm:=Ig.back eu hn
 have nW:(parts.toList.all λp=>Wn ((Iw d v b t).ev p.2))=true:=Bf.2 λp zq=>by rw [hx p zq];exact Bf.1 hp p zq
 have hm:(parts.toList.map λp=>(p.1,(Iw d v b t).ev p.2))=parts.toList.map λp=>(p.1,t.ev p.2):=Gj λp zq=>by rw [hx p zq]
 unfold Ff at he⊢
 simp only [evalOp] at he⊢
 rw [iG nW,hm] at he
 rw [iG hp]
 cases hr:rowOf T t0 len (parts.toList.map λp=>(p.1,t.ev p.2)) e with
 |none=>rw [hr] at he;cases he
 |some r=>
  rw [hr] at he
  have hL:=rm hr
  simp only [Am,Aa] at he
  rw [Ig.new] at he
  refine ⟨Iw e r.1 r.2 t,by simp only [Am];rw [Ajm.new],?_,hn.plus (Gb eu) (λh=>eu (hL.v1 _ h).symm) (by rw [hL.b1];simp)⟩
  rw [<-he,x8 (Gb eu)]
def evC:Operand->AV
 | .const c=>nz c
 |_=> .undef
theorem Aiu {st:St} {x:Operand} (h:Wn (evC x)=true):st.ev x=evC x:=by
 cases x<;>first|rfl|cases h
def fe (T:Tab) (o:Oper):Option (Nat×AV×OB):=match o.guard with
 |some _=>none
 |none=>match o.dst with
  |none=>none
  |some d=>match o.op with
   | .buildSlice t0 len parts=>if (parts.toList.all λp=>Wn (evC p.2))=true then (rowOf T t0 len (parts.toList.map λp=>(p.1,evC p.2)) d).map λr=>(d,r.1,r.2) else none
   | .makeMap t0 none=>match T.mapOf t0 with
    |some τ=>if d<Bp then some (d, .at (.Kh d), .Vq τ λ_=>none) else none
    |none=>none
   |_=>none
theorem ff {o:Oper} {r:Nat×AV×OB} (h:fe T o=some r):o.dst=some r.1/\sx r.1 r.2.1 r.2.2/\ ∀st:St,Ib r.1 st->Ff T Γ ops st o=some (Iw r.1 r.2.1 r.2.2 st):=by
 obtain ⟨dst,op,ty,pos,after,guard⟩:=o
 unfold fe at h
 cases guard with
 |some g=>cases h
 |none=>
  cases dst with
  |none=>cases h
  |some d=>
   cases op with
   |buildSlice t0 len parts=>
    simp only at h
    split at h
    ·rename_i hp
     cases hr:rowOf T t0 len (parts.toList.map λp=>(p.1,evC p.2)) d with
     |none=>rw [hr] at h;cases h
     |some q=>
      rw [hr] at h
      simp only [Am,Aa] at h
      subst h
      refine ⟨rfl,rm hr,λst Rj=>?_⟩
      have LQ: ∀p∈parts.toList,st.ev p.2=evC p.2:= λp zq=>Aiu (Bf.1 hp p zq)
      have hm:(parts.toList.map λp=>(p.1,st.ev p.2))=parts.toList.map λp=>(p.1,evC p.2):=Gj λp zq=>by rw [LQ p zq]
      have nW:(parts.toList.all λp=>Wn (st.ev p.2))=true:=Bf.2 λp zq=>by rw [LQ p zq];exact Bf.1 hp p zq
      unfold Ff
      simp only [evalOp]
      rw [iG nW,hm,hr]
      simp only [Am]
      rw [Rj.new]
    ·cases h
   |makeMap t0 hint=>
    cases hint with
    |some x=>cases h
    |none=>
     simp only at h
     split at h
     ·rename_i τ Ts
      split at h
      ·rename_i hd
       cases h
       refine ⟨rfl,⟨λl hl=>by simpa [AV.refs,AC.refs] using hl,rfl,λl hl=>by simp only [AV.map,Cu];rw [Ak (Gb hl)],λl=>rfl⟩,λst Rj=>?_⟩
       unfold Ff
       simp only [evalOp,Va,Ts,Ab hd,Am]
       rw [Rj.new]
      ·cases h
     ·cases h
   |_=>cases h
theorem AZ {l:List Operand} (h: ∀x∈l,(Iw d v b t).ev x=t.ev x):(l.all λx=>((Iw d v b t).ev x).settled)=(l.map t.ev).all (·.settled):=by
 rw [List.all_map]
 induction l with
 |nil=>rfl
 |cons x r ih=>
  simp only [Jb,Function.comp]
  rw [h x (by simp),ih λy hy=>h y (by simp [hy])]
theorem BA {o:Oper} (hl:sx d v b) (hn:Ib d t) (hs:Wr Γ (Iw d v b t) o=true) (hu:(jX o).all (jo d)=true) (eu:o.dst≠some d) {s':St} (he:Ff T Γ ops (Iw d v b t) o=some s'):
  ∃t',Ff T Γ ops t o=some t'/\s'=Iw d v b t'/\Ib d t'/\Wr Γ t o=true:=by
 obtain ⟨dst,op,ty,pos,after,guard⟩:=o
 unfold Wr at hs
 cases guard with
 |some g=>cases hs
 |none=>
  simp only at hs
  split at hs
  ·rename_i x
   have hx:=Zr (v:=v) (b:=b) (t:=t) hu x (by simp [jX])
   obtain ⟨t',h1,h2,h3⟩:=MP hn hx eu he
   exact ⟨t',h1,h2,h3,rfl⟩
  ·rename_i t0 x
   have hx:=Zr (v:=v) (b:=b) (t:=t) hu x (by simp [jX])
   rw [hx] at hs
   split at hs
   ·rename_i l i hp
    obtain ⟨t',h1,h2,h3⟩:=MM hn hx eu hp he
    exact ⟨t',h1,h2,h3,by simp only [Wr,hp]⟩
   ·cases hs
  ·rename_i f args tys
   rw [Ai] at hs
   obtain ⟨kS,vO⟩:=hs
   split at kS
   ·rename_i sp Om
    have LQ:=Zr (v:=v) (b:=b) (t:=t) (l:=args.toList) hu
    rw [AZ LQ] at vO
    obtain ⟨t',h1,h2,h3⟩:=KT Om hn (TA hu) eu vO he
    refine ⟨t',h1,h2,h3,?_⟩
    simp only [Wr,Om,bt]
    rw [List.all_map] at vO
    exact vO
   ·cases kS
  ·rename_i t0 m k x
   have hm:=Zr (v:=v) (b:=b) (t:=t) hu m (by simp [jX])
   have hk:=Zr (v:=v) (b:=b) (t:=t) hu k (by simp [jX])
   have hx:=Zr (v:=v) (b:=b) (t:=t) hu x (by simp [jX])
   rw [hm,hk,hx] at hs
   have hs0:=hs
   rw [Ai] at hs
   obtain ⟨t',h1,h2,h3⟩:=zw hn hm hk hx eu hs.2 he
   exact ⟨t',h1,h2,h3,hs0⟩
  ·rename_i t0 len parts
   rw [Ai] at hs
   obtain ⟨kS,vO⟩:=hs
   cases dst with
   |none=>cases vO
   |some e=>
    simp only at vO
    have hed:e≠d:= λh=>eu (by rw [h])
    have ic:(parts.toList.map (λp=>p.2)).all (jo d)=true:=hu
    have LQ:=Zr (v:=v) (b:=b) (t:=t) ic
    have hx: ∀p∈parts.toList,(Iw d v b t).ev p.2=t.ev p.2:= λp hp=>LQ p.2 (Ba.2 ⟨p,hp,rfl⟩)
    have hp:(parts.toList.all λp=>Wn (t.ev p.2))=true:=Bf.2 λp hp=>by rw [<-hx p hp];exact Bf.1 kS p hp
    have Ig:=ue vO
    obtain ⟨t',h1,h2,h3⟩:=EC hl hn hx hed hp Ig he
    refine ⟨t',h1,h2,h3,?_⟩
    simp only [Wr,hp,bt]
    exact UP (Ig.back hed hn)
  ·cases hs
def yJ:List (Nat×AV×OB)->St->St->Prop
 | [],s,t=>s=t
 |q::Q,s,t=>Ib q.1 t/\yJ Q s (Iw q.1 q.2.1 q.2.2 t)
theorem xY {o:Oper} : ∀(Q:List (Nat×AV×OB)) (s t s':St),yJ Q s t->(∀q∈Q,sx q.1 q.2.1 q.2.2/\(jX o).all (jo q.1)=true/\o.dst≠some q.1)->Wr Γ s o=true->Ff T Γ ops s o=some s'->
  ∃t',Ff T Γ ops t o=some t'/\yJ Q s' t'/\Wr Γ t o=true
 | [],s,t,s',h,_,hs,he=>by
  have h:s=t:=h
  subst h
  exact ⟨s',he,rfl,hs⟩
 |q::Q,s,t,s',⟨h1,h2⟩,hq,hs,he=>by
  obtain ⟨u',e1,e2,e3⟩:=xY Q s _ s' h2 (λp hp=>hq p (Ar _ hp)) hs he
  obtain ⟨l1,l2,l3⟩:=hq q (by simp)
  obtain ⟨t',f1,f2,f3,f4⟩:=BA l1 h1 e3 l2 l3 e1
  exact ⟨t',f1,⟨f3,by rw [<-f2];exact e2⟩,f4⟩
theorem xZ {q:Nat×AV×OB} : ∀(Q1:List (Nat×AV×OB)) {Q2:List (Nat×AV×OB)} {s t:St},yJ (Q1++q::Q2) s t->(∀p∈Q1++q::Q2,sx p.1 p.2.1 p.2.2)->(∀p∈Q1,p.1≠q.1)->
  Ib q.1 t/\yJ (Q1++Q2) s (Iw q.1 q.2.1 q.2.2 t)
 | [],Q2,s,t,h,_,_=>h
 |p::Q1,Q2,s,t,⟨h1,h2⟩,hL,Ig=>by
  have hpq:=Ig p (by simp)
  have hLp:=hL p (by simp)
  have hLq:=hL q (by simp)
  obtain ⟨g1,g2⟩:=xZ Q1 h2 (λr hr=>hL r (Ar _ hr)) λr hr=>Ig r (Ar _ hr)
  refine ⟨g1.back (Gb hpq) h1,h1.plus hpq (λh=>hpq (hLq.v1 _ h)) (by rw [hLq.b1];simp),?_⟩
  show yJ (Q1++Q2) s (Iw p.1 p.2.1 p.2.2 (Iw q.1 q.2.1 q.2.2 t))
  rw [x8 (Gb hpq)]
  exact g2
def mZ (ops:Array Oper):Nat->Nat->Nat->Bool
 |0,_,_=>false
 |f+1,i,a=>Region.waitsFor .any ops i a||(List.range ops.size).any λk=>Region.waitsFor .any ops i k&&mZ ops f k a
theorem lS {Aj:Array Bool} (hc:Uc ops Aj) {a:Nat} : ∀(f i:Nat),(∀x,Region.waitsFor .any ops i x=true->Aj.getD x false=true)->mZ ops f i a=true->Aj.getD a false=true
 |0,_,_,h=>by cases h
 |f+1,i,hi,h=>by
  simp only [mZ,Jz,Ep,Ai] at h
  rcases h with h|⟨k,_,h1,h2⟩
  ·exact hi a h
  ·exact lS hc f k (λx hx=>hc k x (hi k h1) hx) h2
def MW (P:List (Nat×Nat×AV×OB)) (Γ:Env) (ops:Array Oper) (st:St) (o:Oper) (i:Nat):Bool:=
 (P.all λa=>mZ ops 5 i a.1)||(Wr Γ st o&&P.all λa=>mZ ops 5 i a.1||((jX o).all (jo a.2.1)&&(match o.dst with
  |some e=>!Nat.beq e a.2.1
  |none=>true)))
def Aio (T:Tab) (Γ:Env) (ops:Array Oper) (P:List (Nat×Nat×AV×OB)) (K:St->Prop):Nat->Array Bool->St->Prop
 |0,Aj,st=>Region.ready .any ops Aj= []/\K st
 |f+1,Aj,st=>Region.ready .any ops Aj≠ []/\ ∀i∈Region.ready .any ops Aj,∃o st',ops[i]?=some o/\MW P Γ ops st o i=true/\Ff T Γ ops st o=some st'/\Aio T Γ ops P K f (Aj.setIfInBounds i true) st'
structure XK (lc la:Array Bool) (Q:List Nat):Prop where
 size:la.size=lc.size
 off: ∀k∈Q,k<la.size/\la.getD k false=false/\lc.getD k false=true
 same: ∀k,k∉Q->la.getD k false=lc.getD k false
theorem XK.ready {lc la:Array Bool} {Q:List Nat} (h:XK lc la Q) {i:Nat} (hi:i∈Region.ready .any ops la) (hn:i∉Q):i∈Region.ready .any ops lc:=by
 obtain ⟨h1,o,ho,Kf⟩:=mem_ready.1 hi
 have Jc:i<la.size:=by
  rcases Nat.lt_or_ge i la.size with h'|h'
  ·exact h'
  ·simp [Array.getElem?_eq_none h'] at h1
 have h2:=getD_both h1
 rw [h.same i hn] at h2
 refine mem_ready.2 ⟨getD_in (by rw [<-h.size];exact Jc) h2,o,ho,λe he hb=>?_⟩
 have h3:=Kf e he hb
 by_cases hq:e.on∈Q
 ·exact (h.off _ hq).2.2
 ·rw [<-h.same _ hq];exact h3
theorem XK.nil {lc la:Array Bool} (h:XK lc la []):la=lc:=by
 refine Array.ext h.size λk h1 h2=>?_
 have:=h.same k (by simp)
 simpa [h1,h2] using this
theorem XK.one {lc la:Array Bool} {Q Q':List Nat} {i:Nat} (h:XK lc la Q) (hi:i∈Q) (hs: ∀k,k∈Q'↔k∈Q/\k≠i):XK lc (la.setIfInBounds i true) Q':=by
 refine ⟨by simp [h.size],λk hk=>?_,λk hk=>?_⟩
 ·obtain ⟨h1,h2⟩:=(hs k).1 hk
  obtain ⟨g1,g2,g3⟩:=h.off k h1
  exact ⟨by simpa using g1,by rw [getD_set_ne false (Gb h2)];exact g2,g3⟩
 ·by_cases e:i=k
  ·subst e
   obtain ⟨g1,g2,g3⟩:=h.off i hi
   rw [g3]
   simp [g1]
  ·rw [getD_set_ne false e]
   exact h.same k λhq=>hk ((hs k).2 ⟨hq,Gb e⟩)
theorem XK.both {lc la:Array Bool} {Q:List Nat} {i:Nat} (h:XK lc la Q) (hi:i∉Q):XK (lc.setIfInBounds i true) (la.setIfInBounds i true) Q:=by
 refine ⟨by simp [h.size],λk hk=>?_,λk hk=>?_⟩
 ·obtain ⟨g1,g2,g3⟩:=h.off k hk
  have Ig:i≠k:= λe=>hi (by rw [e];exact hk)
  exact ⟨by simpa using g1,by rw [getD_set_ne false Ig];exact g2,by rw [getD_set_ne false Ig];exact g3⟩
 ·by_cases e:i=k
  ·subst e
   have hs:=h.same i hi
   have hz:=h.size
   by_cases hl:i<la.size
   ·simp [hl,hz▸hl]
   ·have Jg: ¬i<lc.size:=by omega
    simp [hl,Jg]
  ·rw [getD_set_ne false e,getD_set_ne false e];exact h.same k hk
theorem MT {dst:Option Tmp} {d:Nat} (h:(match dst with
  |some e=>!Nat.beq e d
  |none=>true)=true):dst≠some d:= λe=>by
 subst e
 simp at h
theorem SY {P:List (Nat×Nat×AV×OB)} {K:St->Prop} (hP: ∀a∈P,∃o,ops[a.1]?=some o/\fe T o=some a.2):
  ∀(n f:Nat) (Q:List (Nat×Nat×AV×OB)) (lc la:Array Bool) (s t:St),n=f+Q.length->Aio T Γ ops P K f lc s->yJ (Q.map (·.2)) s t->XK lc la (Q.map (·.1))->(∀a∈Q,a∈P)->
   (Q.Pairwise λa c=>a.2.1≠c.2.1/\a.1≠c.1)->Uc ops la->(∀a∈Q,∀x,Region.waitsFor .any ops a.1 x=true->la.getD x false=true)->anyS T Γ ops K n la t:=by
 intro n
 induction n with
 |zero=>
  intro f Q lc la s t hn hC hp hb hQ hpw Qf hw
  have hf:f=0:=by omega
  have hq:Q= []:=Co (by omega)
  subst hf hq
  have hp:s=t:=hp
  subst hp
  rw [hb.nil]
  exact hC
 |succ n ih=>
  intro f Q lc la s t hn hC hp hb hQ hpw Qf hw
  refine ⟨?_,λi hi=>?_⟩
  ·cases Q with
   |nil=>
    rw [hb.nil]
    cases f with
    |zero=>simp at hn
    |succ f=>exact hC.1
   |cons a Q=>
    obtain ⟨o,ho,_⟩:=hP a (hQ a (by simp))
    obtain ⟨g1,g2,_⟩:=hb.off a.1 (by simp)
    have:a.1∈Region.ready .any ops la:=mem_ready.2 ⟨getD_in g1 g2,o,ho,λe he hbd=>hw a (by simp) e.on (by
     unfold Region.waitsFor
     rw [ho]
     exact Array.any_eq_true'.2 ⟨e,he,by simp [hbd]⟩)⟩
    intro e
    rw [e] at this
    cases this
  ·by_cases hiQ:i∈Q.map (·.1)
   ·obtain ⟨a,ha,rfl⟩:=Ba.1 hiQ
    obtain ⟨Q1,Q2,rfl⟩:=List.append_of_mem ha
    obtain ⟨o,ho,hal⟩:=hP a (hQ a ha)
    obtain ⟨_,_,Rj⟩:=ff (Γ:=Γ) (ops:=ops) hal
    have ZZ:=dN.1 hpw
    have Aoi:=List.pairwise_cons.1 ZZ.2.1
    rw [It,Ca] at hp
    have hL: ∀p∈Q1.map (·.2)++a.2::Q2.map (·.2),sx p.1 p.2.1 p.2.2:= λp zq=>by
     have:p∈(Q1++a::Q2).map (·.2):=by rw [It,Ca];exact zq
     obtain ⟨c,hc,rfl⟩:=Ba.1 this
     obtain ⟨o',_,At1⟩:=hP c (hQ c hc)
     exact (ff (Γ:=Γ) (ops:=ops) At1).2.1
    obtain ⟨p1,p2⟩:=xZ _ hp hL λp zq=>by
     obtain ⟨c,hc,rfl⟩:=Ba.1 zq
     exact (ZZ.2.2 c hc a (by simp)).1
    refine ⟨o,_,ho,Rj t p1,ih f (Q1++Q2) lc _ s _ ?_ hC (by rw [It];exact p2) (hb.one hiQ λk=>?_) (λc hc=>hQ c ?_) ?_ (Qf.set hi) λc hc x hx=>getD_set_true (hw c ?_ x hx)⟩
    ·simp only [Ay,Av] at hn⊢;omega
    ·simp only [It,Ca,Az,Bc]
     constructor
     ·intro h
      rcases h with h|h
      ·obtain ⟨c,hc,rfl⟩:=Ba.1 h
       exact ⟨.inl h,(ZZ.2.2 c hc a (by simp)).2⟩
      ·obtain ⟨c,hc,rfl⟩:=Ba.1 h
       exact ⟨.inr (.inr h),Gb (Aoi.1 c hc).2⟩
     ·rintro ⟨h|h|h,Ig⟩
      ·exact .inl h
      ·exact absurd h Ig
      ·exact .inr h
    ·rcases Az.1 hc with hc|hc
     ·exact Bi _ hc
     ·exact Cm _ (Ar _ hc)
    ·exact dN.2 ⟨ZZ.1,Aoi.2,λc hc e he=>ZZ.2.2 c hc e (Ar _ he)⟩
    ·rcases Az.1 hc with hc|hc
     ·exact Bi _ hc
     ·exact Cm _ (Ar _ hc)
   ·have hic:=hb.ready hi hiQ
    cases f with
    |zero=>
     rw [hC.1] at hic
     cases hic
    |succ f=>
     obtain ⟨o,s',ho,nh,he,bN⟩:=hC.2 i hic
     have Aez: ∀a∈Q,mZ ops 5 i a.1=false:= λa ha=>by
      cases hwt:mZ ops 5 i a.1 with
      |false=>rfl
      |true=>
       have h1:=lS Qf _ i (λx hx=>cV hi hx) hwt
       rw [(hb.off a.1 (Ba.2 ⟨a,ha,rfl⟩)).2.1] at h1
       cases h1
     have key: ∃t',Ff T Γ ops t o=some t'/\yJ (Q.map (·.2)) s' t':=by
      unfold MW at nh
      rw [Jz,Ai] at nh
      rcases nh with nh|⟨h1,h2⟩
      ·cases Q with
       |nil=>
        have hp:s=t:=hp
        subst hp
        exact ⟨s',he,rfl⟩
       |cons a Q=>
        have:=Bf.1 nh a (hQ a (by simp))
        rw [Aez a (by simp)] at this
        cases this
      ·obtain ⟨t',g1,g2,_⟩:=xY (T:=T) (ops:=ops) _ s t s' hp (λq hq=>by
        obtain ⟨a,ha,rfl⟩:=Ba.1 hq
        obtain ⟨o',_,hal⟩:=hP a (hQ a ha)
        have h3:=Bf.1 h2 a (hQ a ha)
        rw [Aez a ha,br,Ai] at h3
        exact ⟨(ff (Γ:=Γ) (ops:=ops) hal).2.1,h3.1,MT h3.2⟩) h1 he
       exact ⟨t',g1,g2⟩
     obtain ⟨t',g1,g2⟩:=key
     exact ⟨o,t',ho,g1,ih f Q _ _ s' t' (by omega) bN g2 (hb.both hiQ) hQ hpw (Qf.set hi) λc hc x hx=>getD_set_true (hw c hc x hx)⟩
def Zp (T:Tab) (ops:Array Oper) (Aj:Array Bool):List (Nat×Nat×AV×OB):=(Region.ready .any ops Aj).filterMap λi=>((ops[i]?).bind (fe T)).map λr=>(i,r)
theorem yP {Aj:Array Bool} {a:Nat×Nat×AV×OB} (h:a∈Zp T ops Aj):a.1∈Region.ready .any ops Aj/\ ∃o,ops[a.1]?=some o/\fe T o=some a.2:=by
 unfold Zp at h
 obtain ⟨i,hi,he⟩:=List.mem_filterMap.1 h
 cases ho:ops[i]? with
 |none=>rw [ho] at he;cases he
 |some o=>
  rw [ho] at he
  simp only [Eu,Option.map_eq_some_iff] at he
  obtain ⟨r,h1,rfl⟩:=he
  exact ⟨hi,o,ho,h1⟩
theorem Ae5 {Aj:Array Bool} {Q:List Nat} (h: ∀i∈Q,i∈Region.ready .any ops Aj):XK (Eo Q Aj) Aj Q:=by
 have hr: ∀i∈Q,i<Aj.size/\Aj.getD i false=false:= λi hi=>by
  have h1:=(mem_ready.1 (h i hi)).1
  refine ⟨?_,getD_both h1⟩
  rcases Nat.lt_or_ge i Aj.size with h'|h'
  ·exact h'
  ·simp [Array.getElem?_eq_none h'] at h1
 exact ⟨(Wi Q Aj).symm,λk hk=>⟨(hr k hk).1,(hr k hk).2,fF Q Aj k hk (hr k hk).1⟩,λk hk=>(dx Q Aj k hk).symm⟩
theorem HV: ∀(Q:List (Nat×Nat×AV×OB)) (t s:St),(∀a∈Q,∃o,ops[a.1]?=some o/\fe T o=some a.2)->(∀a∈Q,Ib a.2.1 t)->(Q.Pairwise λa c=>a.2.1≠c.2.1)->Mq T Γ ops (Q.map (·.1)) t=some s->yJ (Q.map (·.2)) s t
 | [],t,s,_,_,_,h=>by
  have h:some t=some s:=h
  exact (Bd h).symm
 |a::Q,t,s,hQ,hn,hp,h=>by
  obtain ⟨o,ho,hal⟩:=hQ a (by simp)
  obtain ⟨_,hL,Rj⟩:=ff (Γ:=Γ) (ops:=ops) hal
  obtain ⟨tH,RI⟩:=List.pairwise_cons.1 hp
  simp only [Ca,Mq,ho] at h
  rw [Rj t (hn a (by simp))] at h
  refine ⟨hn a (by simp),HV Q _ s (λc hc=>hQ c (Ar _ hc)) (λc hc=>?_) RI h⟩
  exact (hn c (Ar _ hc)).plus (Gb (tH c hc)) (λh=>tH c hc (hL.v1 _ h).symm) (by rw [hL.b1];simp)
end
end Go.Proofs.Ytkkdpknjohcekaa
