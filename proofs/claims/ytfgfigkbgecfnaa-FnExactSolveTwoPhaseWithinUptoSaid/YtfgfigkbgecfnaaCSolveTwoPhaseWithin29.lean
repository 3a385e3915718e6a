/-
  Part 30 of the proof that the statement FnExactSolveTwoPhaseWithin holds.
-/
import Derived.Test.YtfgfigkbgecfnaaCSolveTwoPhaseWithin28
namespace Go.Proofs.Ytfgfigkbgecfnaa
open Go.RowKit
def Js (d:Nat) (v:AV) (b:OB) (st:St):St:= {tmps:=Tm st.tmps d v,heap:=Pb st.heap d b}
def pW (d:Nat) (st:St):Bool:=(st.get d).refs.isEmpty&&((st.tmps.all λv=>!v.refs.contains d)&&st.heap.all λp=>!Nat.beq p.1 d&&!p.2.refs.contains d)
structure It (d:Nat) (st:St):Prop where
 own:(st.get d).refs= []
 tmps: ∀v∈st.tmps,d∉v.refs
 heap: ∀p∈st.heap,p.1≠d/\d∉p.2.refs
theorem uG {d:Nat} {st:St} (h:pW d st=true):It d st:=by
 unfold pW at h;rw [Ak,Ak,Bk,Bk] at h;obtain ⟨h0,h⟩:=h;refine ⟨List.isEmpty_iff.1 h0,λv hv=>?_,λp hp=>?_⟩
 ·have:=h.1 v hv;intro hd;rw [Kc.2 hd] at this;cases this
 ·have:=h.2 p hp;rw [Ak] at this;refine ⟨λe=>?_,λhd=>?_⟩
  ·have h1:=this.1;rw [e,Nat.beq_refl] at h1;cases h1
  ·have h1:=this.2;rw [Kc.2 hd] at h1;cases h1
theorem VR {d:Nat} {st:St} (h:It d st):pW d st=true:=by
 unfold pW;rw [Ak,Ak,Bk,Bk];refine ⟨by rw [h.own];rfl,λv hv=>?_,λp hp=>?_⟩
 ·rw [Fy,<-Gb,Kc];exact h.tmps v hv
 ·rw [Ak];refine ⟨?_,?_⟩
  ·rw [Fy,<-Gb];exact λe=>(h.heap p hp).1 (Kd e)
  ·rw [Fy,<-Gb,Kc];exact (h.heap p hp).2
structure sS (d:Nat) (v:AV) (b:OB):Prop where
 v1: ∀l,l∈v.refs->l=d
 b1:b.refs= []
 v2: ∀l,l≠d->v.map (Cy l)=v
 b2: ∀l,b.map (Cy l)=b
theorem eL {α:Type} : ∀(xs:List α) (d t:Nat) (v x:α),d≠t->(Tm xs d v).getD t x=xs.getD t x
 | [],_,_,_,_,_=>rfl
 |y::r,0,0,_,_,h=>absurd rfl h
 |y::r,0,t+1,_,_,_=>by simp [Tm]
 |y::r,d+1,0,_,_,_=>by simp [Tm]
 |y::r,d+1,t+1,v,x,h=>by simpa [Tm] using eL r d t v x (by omega)
theorem qk {α:Type} : ∀(xs:List α) (d e:Nat) (v w:α),d≠e->Tm (Tm xs d v) e w=Tm (Tm xs e w) d v
 | [],_,_,_,_,_=>rfl
 |y::r,0,0,_,_,h=>absurd rfl h
 |y::r,0,e+1,_,_,_=>rfl
 |y::r,d+1,0,_,_,_=>rfl
 |y::r,d+1,e+1,v,w,h=>by simp only [Tm];rw [qk r d e v w (by omega)]
theorem xX: ∀(H:List (Nat×OB)) (d l:Nat) (b:OB),d≠l->Ay (Pb H d b) l=Ay H l
 | [],d,l,b,h=>by simp [Pb,Ay,h]
 |(k,c)::r,d,l,b,h=>by
  simp only [Pb];split
  ·simp only [Ay];rw [Ai h]
  ·simp only [Ay];split
   ·rfl
   ·exact xX r d l b h
theorem yc: ∀(H:List (Nat×OB)) (d e:Nat) (b c:OB),d≠e->Pb (Pb H d b) e c=Pb (Pb H e c) d b
 | [],d,e,b,c,h=>by
  simp only [Pb]
  by_cases h1:e<d
  ·rw [Ac h1,Ai (by omega)]
  ·rw [Ai h1,Ac (by omega)]
 |(k,a)::r,d,e,b,c,h=>by
  simp only [Pb]
  by_cases h1:d<k<;>by_cases h2:e<k
  ·rw [Ac h1,Ac h2];simp only [Pb]
   by_cases h3:e<d
   ·rw [Ac h3,Ai (by omega),Ac h1]
   ·rw [Ai h3,Ac h2,Ac (by omega)]
  ·rw [Ac h1,Ai h2];simp only [Pb];rw [Ai (by omega),Ai h2,Ac h1]
  ·rw [Ai h1,Ac h2];simp only [Pb];rw [Ac h2,Ai (by omega),Ai h1]
  ·rw [Ai h1,Ai h2];simp only [Pb];rw [Ai h1,Ai h2,yc r d e b c h]
theorem yQ: ∀(H:List (Nat×OB)) (d l:Nat) (b c:OB),d≠l->aN (Pb H d b) l c=Pb (aN H l c) d b
 | [],d,l,b,c,h=>by simp [Pb,aN,h]
 |(k,a)::r,d,l,b,c,h=>by
  simp only [Pb,aN]
  by_cases h1:d<k<;>by_cases h2:k=l
  ·rw [Ac h1,Ac h2];simp only [aN,Pb];rw [Ai h,Ac h2,Ac h1]
  ·rw [Ac h1,Ai h2];simp only [aN,Pb];rw [Ai h,Ai h2,Ac h1]
  ·rw [Ai h1,Ac h2];simp only [aN,Pb];rw [Ac h2,Ai h1]
  ·rw [Ai h1,Ai h2];simp only [aN,Pb];rw [Ai h2,Ai h1,yQ r d l b c h]
theorem qR {l:Nat} : ∀ {c:AC},l∉c.refs->Cy l c=c:=by
 intro c h
 cases c<;>simp only [Cy]<;>simp only [AC.refs,Af] at h
 case clo f En=>rw [Ai (by simpa using h)]
 all_goals (first|rfl|rw [Ai (Ha h)])
theorem bm {l:Nat} : ∀ {cs:List AC},l∉cs.flatMap AC.refs->cs.map (Cy l)=cs
 | [],_=>rfl
 |c::r,h=>by
  rw [cR,Be] at h;rw [Cb,qR (λhh=>h (.inl hh)),bm (λhh=>h (.inr hh))]
theorem FR {l:Nat} : ∀ {v:AV},l∉v.refs->v.map (Cy l)=v
 | .at a,h=>by simp only [AV.map];rw [qR h]
 | .agg cs,h=>by simp only [AV.map];rw [bm h]
 | .bL _ _ _,_=>rfl
 | .Nh ps,h=>by
  simp only [AV.map]
  congr 1
  simp only [AV.refs] at h
  induction ps with
  |nil=>rfl
  |cons p r ih=>
   rw [cR,Be] at h;rw [Cb,bm (λhh=>h (.inl hh)),ih (λhh=>h (.inr hh))]
theorem FT {l:Nat} : ∀ {b:OB},l∉b.refs->b.map (Cy l)=b
 | .arr _ _ _ _ _,_=>rfl
 | .Hl _ _ _,_=>rfl
 | .var _ vs,h=>by simp only [OB.map];rw [bm h]
 | .Ca _ _ _ _ _,_=>rfl
 | .Wl _ _,_=>rfl
theorem FD {l:Nat} : ∀ {H:List (Nat×OB)},(∀p∈H,p.1≠l)->aT H l=H
 | [],_=>rfl
 |(k,b)::r,h=>by
  simp only [aT];rw [Ai (h (k,b) (by simp)),FD λp hp=>h p (by simp [hp])]
theorem It.forget {l:Nat} {st:St} (h:It l st):st.forget l=st:=by
 have e1:st.tmps.map (λv=>v.map (Cy l))=st.tmps:=(Er λv hv=>FR (h.tmps v hv)).trans (List.map_id _);have e2:st.heap.map (λp=>(p.1,p.2.map (Cy l)))=st.heap:=(Er λp hp=>by rw [FT (h.heap p hp).2];rfl).trans (List.map_id _);unfold St.forget St.Lo;simp only [e1,e2];rw [FD λp hp=>(h.heap p hp).1]
theorem It.new {l:Nat} {st:St} (h:It l st) (b:OB) (v:AV):(st.new l b).put (some l) v=Js l v b st:=by
 unfold St.new;rw [h.forget];rfl
theorem uz {α:Type} : ∀ {xs:List α} {d:Nat} {v x:α},x∈Tm xs d v->x∈xs\/x=v
 | [],_,_,_,h=>by cases h
 |y::r,0,v,x,h=>by
  rcases Bd.1 h with h|h
  ·exact .inr h
  ·exact .inl (At _ h)
 |y::r,d+1,v,x,h=>by
  rcases Bd.1 h with h|h
  ·exact .inl (by rw [h];simp)
  ·exact (uz h).imp (At _) id
theorem HO: ∀ {H:List (Nat×OB)} {d:Nat} {b:OB} {p:Nat×OB},p∈Pb H d b->p∈H\/p=(d,b)
 | [],d,b,p,h=> .inr (by simpa [Pb] using h)
 |(k,c)::r,d,b,p,h=>by
  simp only [Pb] at h;split at h
  ·rcases Bd.1 h with h|h
   ·exact .inr h
   ·exact .inl h
  ·rcases Bd.1 h with h|h
   ·exact .inl (by rw [h];simp)
   ·exact (HO h).imp (At _) id
theorem Aew {d:Nat} {v:AV} {b:OB} {st:St} {x:Operand} (h:x≠ .tmp d):(Js d v b st).ev x=st.ev x:=by
 cases x with
 |tmp t=>exact eL _ _ _ _ _ (λe=>h (by rw [e]))
 |_=>rfl
theorem RG {d l:Nat} {v:AV} {b:OB} {st:St} (h:d≠l):(Js d v b st).at l=st.at l:=xX _ _ _ _ h
theorem ZK {d e:Nat} {v u:AV} {b:OB} {st:St} (h:d≠e):(Js d v b st).put (some e) u=Js d v b (st.put (some e) u):=by
 unfold Js St.put;simp only;rw [qk _ _ _ _ _ h]
theorem TZ {d l:Nat} {v:AV} {b c:OB} {st:St} (h:d≠l):(Js d v b st).Kk l c=Js d v b (st.Kk l c):=by
 unfold Js St.Kk;simp only;rw [yQ _ _ _ _ _ h]
theorem xH {d e:Nat} {v u:AV} {b c:OB} {st:St} (h:d≠e):Js e u c (Js d v b st)=Js d v b (Js e u c st):=by
 unfold Js;rw [qk _ _ _ _ _ h,yc _ _ _ _ _ h]
theorem It.put {d:Nat} {st:St} {e:Nat} {u:AV} (h:It d st) (MY:e≠d) (hu:d∉u.refs):It d (st.put (some e) u):=
 ⟨by show (List.getD (Tm st.tmps e u) d .undef).refs= [];rw [eL _ _ _ _ _ MY];exact h.own,λv hv=>(uz hv).elim (h.tmps v) λe=>by rw [e];exact hu,h.heap⟩
theorem It.plus {d e:Nat} {u:AV} {c:OB} {st:St} (h:It d st) (MY:d≠e) (hu:d∉u.refs) (hc:d∉c.refs):It d (Js e u c st):=
 ⟨by show (List.getD (Tm st.tmps e u) d .undef).refs= [];rw [eL _ _ _ _ _ (Ha MY)];exact h.own,λv hv=>(uz hv).elim (h.tmps v) λe=>by rw [e];exact hu,λp hp=>(HO hp).elim (h.heap p) λe'=>by rw [e'];exact ⟨Ha MY,hc⟩⟩
theorem It.Alm {d e:Nat} {u:AV} {c:OB} {st:St} (h:It d (Js e u c st)): ∀p∈st.heap,p.1≠d/\d∉p.2.refs:= λp hp=>h.heap p (by
 show p∈Pb st.heap e c;generalize st.heap=H at hp
 induction H with
 |nil=>cases hp
 |cons q r ih=>
  obtain ⟨k,a⟩:=q;simp only [Pb];split
  ·exact At _ hp
  ·rcases Bd.1 hp with hp|hp
   ·rw [hp];simp
   ·exact At _ (ih hp))
theorem su {st st':St} : ∀(τ:Ty) (cs:List AC),cs.all (·.settled)=true->Fq st' τ cs=Fq st τ cs:=by
 intro τ
 induction τ with
 |unit=>intro cs _;cases cs<;>rfl
 |pair a r iL iH=>
  intro cs h;simp only [Fq];rw [Bk] at h;rw [iL _ (Bk.2 λc hc=>h c (Gl hc)),iH _ (Bk.2 λc hc=>h c (er hc))]
 |_=>
  intro cs h;rcases cs with _|⟨c,_|⟨c',cs⟩⟩
  ·rfl
  ·simp only [Jz,List.all_nil,Bool.and_true] at h;simp only [Fq];exact bw h
  ·rfl
theorem gS {st st':St} {τ:Ty} {v:AV} (h:v.settled=true):Gk st' τ v=Gk st τ v:=by
 cases v with
 | «at»a=>
  have ha:a.settled=true:=h
  cases a<;>simp only [AC.settled,Dt] at ha
  all_goals
   simp only [Gk];rw [Qz rfl,Qz rfl];rw [bw (st:=st) (st':=st') rfl]
 |agg cs=>simp only [Gk];rw [su _ _ h]
 |bL _ _ _=>rfl
 |Nh _=>rfl
theorem kq {st st':St} : ∀(τ:Ty) (vs:List AV),vs.all (·.settled)=true->Eg st' τ vs=Eg st τ vs
 | .pair a r,v::vs,h=>by
  rw [Jz,Ak] at h;simp only [Eg];rw [gS (st:=st) (st':=st') h.1,kq r vs h.2]
 | .pair _ _,[],_=>rfl
 | .unit,[],_=>rfl
 | .unit,_::_,_=>rfl
 | .int _,vs,_=>by cases vs<;>rfl
 | .bool,vs,_=>by cases vs<;>rfl
 | .str,vs,_=>by cases vs<;>rfl
 | .slice _,vs,_=>by cases vs<;>rfl
 | .oslice _,vs,_=>by cases vs<;>rfl
 | .ptr _,vs,_=>by cases vs<;>rfl
 | .optr _,vs,_=>by cases vs<;>rfl
 | .smap _,vs,_=>by cases vs<;>rfl
 | .clo _ _,vs,_=>by cases vs<;>rfl
def Xh:AV->Bool
 | .at (.data _ _ _)=>true
 |_=>false
def km (o:Oper):List Operand:=match o.op with
 | .move x=> [x]
 | .load _ x=> [x]
 | .call {callee:= .value (.func _),args, .. } =>args.toList
 | .insert _ m k x=> [m,k,x]
 | .buildSlice _ _ parts=>parts.toList.map (·.2)
 |_=> []
def jD (d:Nat):Operand->Bool
 | .tmp t=>!Nat.beq t d
 |_=>true
theorem VT {d:Nat} {x:Operand} (h:jD d x=true):x≠ .tmp d:= λe=>by
 subst e;simp [jD] at h
def Xk (Γ:Env) (st:St) (o:Oper):Bool:=match o.guard with
 |some _=>false
 |none=>match o.op with
  | .move _=>true
  | .load _ x=>(match st.ev x with
   | .at (.Hs _ _)=>true
   |_=>false)
  | .call {callee:= .value (.func f),args, .. } =>(match Γ f with
   |some (.q _)=>true
   |_=>false)&&args.toList.all λx=>(st.ev x).settled
  | .insert _ m k x=>(match st.ev m with
   | .at (.Le _)=>true
   |_=>false)&&Xh (st.ev k)&&(st.ev x).settled
  | .buildSlice _ _ parts=>(parts.toList.all λp=>Xh (st.ev p.2))&&(match o.dst with
   |some e=>pW e st
   |none=>false)
  |_=>false
theorem It.ev {d:Nat} {st:St} (h:It d st) (x:Operand):d∉(st.ev x).refs:=by
 cases x with
 |tmp t=>
  simp only [St.ev,St.get];rw [Al]
  by_cases hl:t<st.tmps.length
  ·rw [Ad hl];exact h.tmps _ (Ah hl)
  ·rw [Dv (Nat.le_of_not_lt hl)];simp [AV.refs,AC.refs]
 |const c=>
  simp only [St.ev];unfold nI
  split<;>simp [AV.refs,AC.refs]
 |func f=>simp [St.ev,AV.refs,AC.refs]
 |_=>simp [St.ev,AV.refs,AC.refs]
theorem GB: ∀ {H:List (Nat×OB)} {l:Nat} {b:OB},Ay H l=some b->(l,b)∈H
 |(k,c)::r,l,b,h=>by
  simp only [Ay] at h;split at h
  ·rename_i e;subst e;cases h;simp
  ·exact At _ (GB h)
section
variable {T:Tab} {Γ:Env} {ops:Array Oper} {d:Nat} {v:AV} {b:OB} {t:St}
theorem yG {e:Option Tmp} (h:e≠some d) (hn:It d t) {y:AV} (hy:d∉y.refs):(Js d v b t).put e y=Js d v b (t.put e y)/\It d (t.put e y):=by
 cases e with
 |none=>exact ⟨rfl,hn⟩
 |some k=>exact ⟨ZK (λe=>h (by rw [e])),hn.put (λe=>h (by rw [e])) hy⟩
theorem jI {o:Oper} (hg:o.guard=none) (eO:o.dst≠some d) (hn:It d t) {q:Option AV} (h1:evalOp T Γ (Js d v b t) o=q.map λy=>(y,Js d v b t)) (h2:evalOp T Γ t o=q.map λy=>(y,t)) (hq: ∀y,q=some y->d∉y.refs) {s':St}
  (he:Fl T Γ ops (Js d v b t) o=some s'): ∃t',Fl T Γ ops t o=some t'/\s'=Js d v b t'/\It d t':=by
 unfold Fl at he⊢;rw [hg] at he⊢;simp only at he⊢;rw [h1] at he
 cases q with
 |none=>cases he
 |some y=>
  obtain ⟨p1,p2⟩:=yG (v:=v) (b:=b) eO hn (hq y rfl);refine ⟨_,by rw [h2];rfl,?_,p2⟩;simp only [An,Aa] at he;rw [<-he,p1]
theorem ah {l:List Operand} (hu:l.all (jD d)=true): ∀x∈l,(Js d v b t).ev x=t.ev x:= λx hx=>Aew (VT (Bk.1 hu x hx))
theorem OD {dst:Option Tmp} {x:Operand} {ty:TypeId} {pos:String} {after:Array Edge} (hn:It d t) (hx:(Js d v b t).ev x=t.ev x) (eO:dst≠some d) {s':St}
  (he:Fl T Γ ops (Js d v b t) {dst:=dst,op:= .move x,type:=ty,pos:=pos,after:=after,guard:=none} =some s'):
  ∃t',Fl T Γ ops t {dst:=dst,op:= .move x,type:=ty,pos:=pos,after:=after,guard:=none} =some t'/\s'=Js d v b t'/\It d t':=
 jI rfl eO hn (q:=some (t.ev x)) (by simp only [evalOp,Fv,hx]) (by simp only [evalOp,Fv]) (λy hy=>by cases hy;exact hn.ev x) he
def loadVar (T:Tab) (o:Option OB) (t0:TypeId) (i:Nat):Option AV:=match T.ty t0 with
 |some τ=>(match o with
  |some (.var _ vs)=>if τ.Ar then (if i+τ.size<=vs.length then some (.agg ((vs.drop i).take τ.size)) else none) else vs[i]?.map .at
  |_=>none)
 |none=>none
theorem lx {st:St} {t0:TypeId} {l i:Nat} :Qr T st t0 (.at (.Hs l i))=loadVar T (st.at l) t0 i:=by
 unfold Qr loadVar
 cases T.ty t0<;>rfl
theorem NW {dst:Option Tmp} {t0:TypeId} {x:Operand} {ty:TypeId} {pos:String} {after:Array Edge} (hn:It d t) (hx:(Js d v b t).ev x=t.ev x) (eO:dst≠some d) {l i:Nat} (hp:t.ev x= .at (.Hs l i)) {s':St}
  (he:Fl T Γ ops (Js d v b t) {dst:=dst,op:= .load t0 x,type:=ty,pos:=pos,after:=after,guard:=none} =some s'):
  ∃t',Fl T Γ ops t {dst:=dst,op:= .load t0 x,type:=ty,pos:=pos,after:=after,guard:=none} =some t'/\s'=Js d v b t'/\It d t':=by
 have hld:d≠l:= λe=>by
  have:=hn.ev x;rw [hp,e] at this;exact this (by simp [AV.refs,AC.refs])
 refine jI rfl eO hn (q:=loadVar T (t.at l) t0 i) ?_ ?_ (λy hy=>?_) he
 ·simp only [evalOp,Fv,hx,hp];rw [lx,RG hld]
 ·simp only [evalOp,Fv,hp];rw [lx]
 ·unfold loadVar at hy;split at hy
  ·split at hy
   ·rename_i vs hb;have hr:d∉vs.flatMap AC.refs:=(hn.heap _ (GB hb)).2;have lb: ∀c∈vs,d∉c.refs:= λc hc hd=>hr (Hg.2 ⟨c,hc,hd⟩);split at hy
    ·split at hy
     ·cases hy;intro hd;obtain ⟨c,hc,hd⟩:=Hg.1 hd;exact lb c (er (Gl hc)) hd
     ·cases hy
    ·cases hv:vs[i]? with
     |none=>rw [hv] at hy;cases hy
     |some c=>
      rw [hv] at hy;cases hy;exact lb c (Cs hv)
   ·cases hy
  ·cases hy
theorem UC {l:List Operand} (hu:l.all (jD d)=true):l.map (Js d v b t).ev=l.map t.ev:=Er λx hx=>ah hu x hx
theorem MD {dst:Option Tmp} {f:FuncId} {args:Array Operand} {tys:Array TypeId} {ty:TypeId} {pos:String} {after:Array Edge} {sp:Spec} (Pn:Γ f=some (.q sp)) (hn:It d t) (hx:args.toList.map (Js d v b t).ev=args.toList.map t.ev) (eO:dst≠some d)
  (hs:(args.toList.map t.ev).all (·.settled)=true) {s':St} (he:Fl T Γ ops (Js d v b t) {dst:=dst,op:= .call {callee:= .value (.func f),args:=args,argTypes:=tys},type:=ty,pos:=pos,after:=after,guard:=none} =some s'):
  ∃t',Fl T Γ ops t {dst:=dst,op:= .call {callee:= .value (.func f),args:=args,argTypes:=tys},type:=ty,pos:=pos,after:=after,guard:=none} =some t'/\s'=Js d v b t'/\It d t':=by
 have SF:gk sp (args.toList.map t.ev)=false:=by unfold gk;rw [hs];simp
 have MZ: ∀st:St,Pk Γ st f (args.toList.map t.ev)=(match Eg t sp.arg (args.toList.map t.ev) with
   |none=>none
   |some (_,x)=>(sp.fn x).map λy=>if sp.Jy then .bL (sp.fresh||sp.res.flat) sp.res y else .at (.data (sp.fresh||sp.res.flat) sp.res y)):= λst=>by
  unfold Pk;rw [Pn];simp only;rw [hs,kq (st:=t) _ _ hs];simp only [Bool.or_true,Oz]
  cases Eg t sp.arg (args.toList.map t.ev)<;>rfl
 refine jI rfl eO hn (q:=Pk Γ t f (args.toList.map t.ev)) ?_ ?_ (λy hy=>?_) he
 ·simp only [evalOp,Fv,Pn,hx,SF];rw [MZ,MZ t];simp
 ·simp only [evalOp,Fv,Pn,SF];simp
 ·rw [MZ t] at hy;split at hy
  ·cases hy
  ·rename_i x _
   cases hf:sp.fn x with
   |none=>rw [hf] at hy;cases hy
   |some z=>
    rw [hf] at hy;simp only [An,Aa] at hy;rw [<-hy]
    split<;>simp [AV.refs,AC.refs]
def oB (T:Tab) (o:Option OB) (t0:TypeId) (s:ByteArray) (vw:(v:Ty)->Option (Bool×v.den)):Option OB:=match T.mapOf t0 with
 |some v=>(match o,vw v with
  |some (.Wl v' f),some (_,y)=>if h:v'=v/\v.flat=true/\v.Ar=false then some (.Wl v (gR (h.1▸f:ByteArray->Option v.den) s y)) else none
  |_,_=>none)
 |none=>none
theorem ly {st:St} {t0:TypeId} {l:Nat} {fr:Bool} {s:ByteArray} {x:AV} :Jo T st t0 (.at (.Le l)) (.at (.data fr .str s)) x=(oB T (st.at l) t0 s λv=>Gk st v x).map λc=>st.Kk l c:=by
 unfold Jo oB
 cases T.mapOf t0 with
 |none=>rfl
 |some v0=>
  simp only
  cases st.at l with
  |none=>rfl
  |some c=>
   cases c with
   |Wl v' f=>
    cases Gk st v0 x with
    |none=>rfl
    |some p=>
     simp only
     split<;>rfl
   |_=>rfl
theorem HL {o:Option OB} {t0:TypeId} {s:ByteArray} {vw:(v:Ty)->Option (Bool×v.den)} {c:OB} (h:oB T o t0 s vw=some c):c.refs= []:=by
 unfold oB at h;split at h
 ·split at h
  ·split at h
   ·cases h;rfl
   ·cases h
  ·cases h
 ·cases h
theorem tH {st:St} {t0:TypeId} {m k x:AV} {s':St} (h:Jo T st t0 m k x=some s'): ∃l fr s,m= .at (.Le l)/\k= .at (.data fr .str s):=by
 unfold Jo at h;split at h
 ·exact ⟨_,_,_,rfl,rfl⟩
 ·cases h
theorem HQ: ∀ {H:List (Nat×OB)} {l:Nat} {c:OB} {p:Nat×OB},p∈aN H l c->p∈H\/(p.2=c/\p.1=l/\ ∃c',(l,c')∈H)
 |(k,a)::r,l,c,p,h=>by
  simp only [aN] at h;split at h
  ·rename_i e;rcases Bd.1 h with h|h
   ·subst h;exact .inr ⟨rfl,e,a,by rw [e];simp⟩
   ·exact .inl (At _ h)
  ·rcases Bd.1 h with h|h
   ·exact .inl (by rw [h];simp)
   ·exact (HQ h).imp (At _) λ⟨h1,h2,c',h3⟩=>⟨h1,h2,c',At _ h3⟩
theorem It.Kk {st:St} {l:Nat} {c:OB} (h:It d st) (hc:d∉c.refs):It d (st.Kk l c):=
 ⟨h.own,h.tmps,λp hp=>(HQ hp).elim (h.heap p) λ⟨h1,h2,c',h3⟩=>⟨by rw [h2];exact (h.heap _ h3).1,by rw [h1];exact hc⟩⟩
theorem zU {dst:Option Tmp} {t0:TypeId} {m k x:Operand} {ty:TypeId} {pos:String} {after:Array Edge} (hn:It d t) (hm:(Js d v b t).ev m=t.ev m) (hk:(Js d v b t).ev k=t.ev k) (hx:(Js d v b t).ev x=t.ev x) (eO:dst≠some d)
  (hs:(t.ev x).settled=true) {s':St} (he:Fl T Γ ops (Js d v b t) {dst:=dst,op:= .insert t0 m k x,type:=ty,pos:=pos,after:=after,guard:=none} =some s'):
  ∃t',Fl T Γ ops t {dst:=dst,op:= .insert t0 m k x,type:=ty,pos:=pos,after:=after,guard:=none} =some t'/\s'=Js d v b t'/\It d t':=by
 unfold Fl at he⊢;simp only [evalOp,hm,hk,hx] at he⊢
 cases hms:Jo T (Js d v b t) t0 (t.ev m) (t.ev k) (t.ev x) with
 |none=>rw [hms] at he;cases he
 |some s1=>
  rw [hms] at he;simp only [An,Aa] at he;obtain ⟨l,fr,s,e1,e2⟩:=tH hms
  have hld:d≠l:= λe=>by
   have:=hn.ev m;rw [e1,e] at this;exact this (by simp [AV.refs,AC.refs])
  rw [e1,e2,ly,RG hld] at hms;have hvw:(λv0=>Gk (Js d v b t) v0 (t.ev x))= λv0=>Gk t v0 (t.ev x):=funext λv0=>gS hs;rw [hvw] at hms;rw [e1,e2,ly]
  cases ho:oB T (t.at l) t0 s λv0=>Gk t v0 (t.ev x) with
  |none=>rw [ho] at hms;cases hms
  |some c=>
   rw [ho] at hms;simp only [An,Aa] at hms;have hc:=HL ho;have lK:It d (t.Kk l c):=hn.Kk (by rw [hc];simp);obtain ⟨p1,p2⟩:=yG (v:=v) (b:=b) (y:= .undef) eO lK (by simp [AV.refs,AC.refs]);refine ⟨_,rfl,?_,p2⟩;rw [<-he,<-hms,TZ hld,p1]
theorem It.back {e:Nat} (h:It e (Js d v b t)) (MY:e≠d) (hn:It d t):It e t:=by
 have hg: ∀k,k≠d->(Js d v b t).get k=t.get k:= λk hk=>eL _ _ _ _ _ (Ha hk);refine ⟨by rw [<-hg e MY];exact h.own,λu hu hd=>?_,h.Alm⟩;obtain ⟨k,hk,rfl⟩:=Bg.1 hu
 have e1:t.get k=t.tmps[k]:=by unfold St.get;rw [Al,Ad hk];rfl
 by_cases hkd:k=d
 ·subst hkd;have:=hn.own;rw [e1] at this;rw [this] at hd;cases hd
 ·have h1:=h.ev (.tmp k)
  have h2:(Js d v b t).ev (.tmp k)=t.tmps[k]:=by show (Js d v b t).get k=_;rw [hg k hkd,e1]
  rw [h2] at h1;exact h1 hd
def mW (e:Ty):Nat->List (Nat×AV)->Option (Bool×Bool×List e.den)
 |_,[]=>some (true,true,[])
 |i,(j,x)::r=>if i=j then match Gk ⟨[],[]⟩ e x with
  |some (fr,y)=>match mW e (i+1) r with
   |some (Ww,tr',ys)=>some (fr&&Ww,Ud ⟨[],[]⟩ x&&e.tree&&tr',y::ys)
   |none=>none
  |none=>none
  else none
theorem eB {st:St} {e:Ty} : ∀(l:List (Nat×Operand)) (i:Nat),(l.all λp=>Xh (st.ev p.2))=true->Lz e i l st=(mW e i (l.map λp=>(p.1,st.ev p.2))).map λp=>(p.1,p.2.1,p.2.2,st)
 | [],i,_=>rfl
 |(j,x)::r,i,h=>by
  rw [Jz,Ak] at h;have hx:Xh (st.ev x)=true:=h.1;simp only [Lz,mW,Cb];split
  ·generalize hxv:st.ev x=xv at hx;unfold Xh at hx;split at hx
   ·rename_i fr τ z;have Al5:settle st (.at (.data fr τ z))=some (.at (.data fr τ z),st):=rfl;rw [Al5];simp only;rw [gS (st:=⟨[],[]⟩) (st':=st) (v:= .at (.data fr τ z)) rfl]
    cases Gk ⟨[],[]⟩ e (.at (.data fr τ z)) with
    |none=>rfl
    |some p=>
     simp only;rw [eB r (i+1) h.2]
     cases mW e (i+1) (r.map λp=>(p.1,st.ev p.2)) with
     |none=>rfl
     |some q=>rfl
   ·cases hx
  ·rfl
def rowOf (T:Tab) (t0:TypeId) (len:Nat) (parts:List (Nat×AV)) (dst:Nat):Option (AV×OB):=match eM T t0 with
 |some _=>none
 |none=>match T.elem t0 with
  |none=>none
  |some te=>match T.ty te with
   |none=>none
   |some e=>if parts.length=len/\len<=64/\e.size<=64/\dst<Bv then (mW e 0 parts).map λp=>(.at (.own dst 0 len), .arr ((T.tN||e.flat)&&p.1) (T.DA&&p.2.1) e te p.2.2) else none
theorem iW {st:St} {t0:TypeId} {len dst:Nat} {parts:Array (Nat×Operand)} (h:(parts.toList.all λp=>Xh (st.ev p.2))=true):
  Jk T st dst t0 len parts=(rowOf T t0 len (parts.toList.map λp=>(p.1,st.ev p.2)) dst).map λr=>(r.1,st.new dst r.2):=by
 unfold Jk rowOf
 cases eM T t0 with
 |some p=>
  obtain ⟨te,e⟩:=p;simp only [Option.map_none];split
  ·rename_i x hp;rw [hp,Jz,Ak] at h;have hx:Xh (st.ev x)=true:=h.1;unfold Xh at hx;split at hx
   ·rename_i hv;simp only [hv]
   ·cases hx
  ·rfl
 |none=>
  simp only;unfold My
  cases T.elem t0 with
  |none=>rfl
  |some te=>
   simp only
   cases T.ty te with
   |none=>rfl
   |some e=>
    simp only [Ct,Yf];split
    ·rw [eB _ 0 h]
     cases mW e 0 (parts.toList.map λp=>(p.1,st.ev p.2))<;>rfl
    ·rfl
theorem rF {t0:TypeId} {len dst:Nat} {parts:List (Nat×AV)} {r:AV×OB} (h:rowOf T t0 len parts dst=some r):sS dst r.1 r.2:=by
 unfold rowOf at h;split at h
 ·cases h
 ·split at h
  ·cases h
  ·split at h
   ·cases h
   ·split at h
    ·rename_i e _ _
     cases hp:mW e 0 parts with
     |none=>rw [hp] at h;cases h
     |some p=>
      rw [hp] at h;simp only [An,Aa] at h;subst h;exact ⟨λl hl=>by simpa [AV.refs,AC.refs] using hl,rfl,λl hl=>by simp only [AV.map,Cy];rw [Ai (Ha hl)],λl=>rfl⟩
    ·cases h
theorem EU {e:Nat} {t0:TypeId} {len:Nat} {parts:Array (Nat×Operand)} {ty:TypeId} {pos:String} {after:Array Edge} (_hl:sS d v b) (hn:It d t) (hx: ∀p∈parts.toList,(Js d v b t).ev p.2=t.ev p.2) (eO:e≠d)
  (hp:(parts.toList.all λp=>Xh (t.ev p.2))=true) (Ii:It e (Js d v b t)) {s':St} (he:Fl T Γ ops (Js d v b t) {dst:=some e,op:= .buildSlice t0 len parts,type:=ty,pos:=pos,after:=after,guard:=none} =some s'):
  ∃t',Fl T Γ ops t {dst:=some e,op:= .buildSlice t0 len parts,type:=ty,pos:=pos,after:=after,guard:=none} =some t'/\s'=Js d v b t'/\It d t':=by
 have Aku:=Ii.back eO hn
 have SG:(parts.toList.all λp=>Xh ((Js d v b t).ev p.2))=true:=Bk.2 λp zQ=>by rw [hx p zQ];exact Bk.1 hp p zQ
 have hm:(parts.toList.map λp=>(p.1,(Js d v b t).ev p.2))=parts.toList.map λp=>(p.1,t.ev p.2):=Er λp zQ=>by rw [hx p zQ]
 unfold Fl at he⊢;simp only [evalOp] at he⊢;rw [iW SG,hm] at he;rw [iW hp]
 cases hr:rowOf T t0 len (parts.toList.map λp=>(p.1,t.ev p.2)) e with
 |none=>rw [hr] at he;cases he
 |some r=>
  rw [hr] at he;have hL:=rF hr;simp only [An,Aa] at he;rw [Ii.new] at he;refine ⟨Js e r.1 r.2 t,by simp only [An];rw [Aku.new],?_,hn.plus (Ha eO) (λh=>eO (hL.v1 _ h).symm) (by rw [hL.b1];simp)⟩;rw [<-he,xH (Ha eO)]
def evC:Operand->AV
 | .const c=>nI c
 |_=> .undef
theorem Ajr {st:St} {x:Operand} (h:Xh (evC x)=true):st.ev x=evC x:=by
 cases x<;>first|rfl|cases h
def fH (T:Tab) (o:Oper):Option (Nat×AV×OB):=match o.guard with
 |some _=>none
 |none=>match o.dst with
  |none=>none
  |some d=>match o.op with
   | .buildSlice t0 len parts=>if (parts.toList.all λp=>Xh (evC p.2))=true then (rowOf T t0 len (parts.toList.map λp=>(p.1,evC p.2)) d).map λr=>(d,r.1,r.2) else none
   | .makeMap t0 none=>match T.mapOf t0 with
    |some τ=>if d<Bv then some (d, .at (.Le d), .Wl τ λ_=>none) else none
    |none=>none
   |_=>none
theorem fI {o:Oper} {r:Nat×AV×OB} (h:fH T o=some r):o.dst=some r.1/\sS r.1 r.2.1 r.2.2/\ ∀st:St,It r.1 st->Fl T Γ ops st o=some (Js r.1 r.2.1 r.2.2 st):=by
 obtain ⟨dst,op,ty,pos,after,guard⟩:=o;unfold fH at h
 cases guard with
 |some g=>cases h
 |none=>
  cases dst with
  |none=>cases h
  |some d=>
   cases op with
   |buildSlice t0 len parts=>
    simp only at h;split at h
    ·rename_i hp
     cases hr:rowOf T t0 len (parts.toList.map λp=>(p.1,evC p.2)) d with
     |none=>rw [hr] at h;cases h
     |some q=>
      rw [hr] at h;simp only [An,Aa] at h;subst h;refine ⟨rfl,rF hr,λst Sd=>?_⟩;have MZ: ∀p∈parts.toList,st.ev p.2=evC p.2:= λp zQ=>Ajr (Bk.1 hp p zQ)
      have hm:(parts.toList.map λp=>(p.1,st.ev p.2))=parts.toList.map λp=>(p.1,evC p.2):=Er λp zQ=>by rw [MZ p zQ]
      have SG:(parts.toList.all λp=>Xh (st.ev p.2))=true:=Bk.2 λp zQ=>by rw [MZ p zQ];exact Bk.1 hp p zQ
      unfold Fl;simp only [evalOp];rw [iW SG,hm,hr];simp only [An];rw [Sd.new]
    ·cases h
   |makeMap t0 hint=>
    cases hint with
    |some x=>cases h
    |none=>
     simp only at h;split at h
     ·rename_i τ Up;split at h
      ·rename_i hd;cases h;refine ⟨rfl,⟨λl hl=>by simpa [AV.refs,AC.refs] using hl,rfl,λl hl=>by simp only [AV.map,Cy];rw [Ai (Ha hl)],λl=>rfl⟩,λst Sd=>?_⟩;unfold Fl;simp only [evalOp,Vv,Up,Ac hd,An];rw [Sd.new]
      ·cases h
     ·cases h
   |_=>cases h
theorem BW {l:List Operand} (h: ∀x∈l,(Js d v b t).ev x=t.ev x):(l.all λx=>((Js d v b t).ev x).settled)=(l.map t.ev).all (·.settled):=by
 rw [List.all_map]
 induction l with
 |nil=>rfl
 |cons x r ih=>
  simp only [Jz,Function.comp];rw [h x (by simp),ih λy hy=>h y (by simp [hy])]
theorem BX {o:Oper} (hl:sS d v b) (hn:It d t) (hs:Xk Γ (Js d v b t) o=true) (hu:(km o).all (jD d)=true) (eO:o.dst≠some d) {s':St} (he:Fl T Γ ops (Js d v b t) o=some s'):
  ∃t',Fl T Γ ops t o=some t'/\s'=Js d v b t'/\It d t'/\Xk Γ t o=true:=by
 obtain ⟨dst,op,ty,pos,after,guard⟩:=o;unfold Xk at hs
 cases guard with
 |some g=>cases hs
 |none=>
  simp only at hs;split at hs
  ·rename_i x;have hx:=ah (v:=v) (b:=b) (t:=t) hu x (by simp [km]);obtain ⟨t',h1,h2,h3⟩:=OD hn hx eO he;exact ⟨t',h1,h2,h3,rfl⟩
  ·rename_i t0 x;have hx:=ah (v:=v) (b:=b) (t:=t) hu x (by simp [km]);rw [hx] at hs;split at hs
   ·rename_i l i hp;obtain ⟨t',h1,h2,h3⟩:=NW hn hx eO hp he;exact ⟨t',h1,h2,h3,by simp only [Xk,hp]⟩
   ·cases hs
  ·rename_i f args tys;rw [Ak] at hs;obtain ⟨ld,wq⟩:=hs;split at ld
   ·rename_i sp Pn;have MZ:=ah (v:=v) (b:=b) (t:=t) (l:=args.toList) hu;rw [BW MZ] at wq;obtain ⟨t',h1,h2,h3⟩:=MD Pn hn (UC hu) eO wq he;refine ⟨t',h1,h2,h3,?_⟩;simp only [Xk,Pn,Ta];rw [List.all_map] at wq;exact wq
   ·cases ld
  ·rename_i t0 m k x;have hm:=ah (v:=v) (b:=b) (t:=t) hu m (by simp [km]);have hk:=ah (v:=v) (b:=b) (t:=t) hu k (by simp [km]);have hx:=ah (v:=v) (b:=b) (t:=t) hu x (by simp [km]);rw [hm,hk,hx] at hs;have hs0:=hs;rw [Ak] at hs;obtain ⟨t',h1,h2,h3⟩:=zU hn hm hk hx eO hs.2 he;exact ⟨t',h1,h2,h3,hs0⟩
  ·rename_i t0 len parts;rw [Ak] at hs;obtain ⟨ld,wq⟩:=hs
   cases dst with
   |none=>cases wq
   |some e=>
    simp only at wq;have hed:e≠d:= λh=>eO (by rw [h]);have iG:(parts.toList.map (λp=>p.2)).all (jD d)=true:=hu;have MZ:=ah (v:=v) (b:=b) (t:=t) iG;have hx: ∀p∈parts.toList,(Js d v b t).ev p.2=t.ev p.2:= λp hp=>MZ p.2 (Bh.2 ⟨p,hp,rfl⟩)
    have hp:(parts.toList.all λp=>Xh (t.ev p.2))=true:=Bk.2 λp hp=>by rw [<-hx p hp];exact Bk.1 ld p hp
    have Ii:=uG wq;obtain ⟨t',h1,h2,h3⟩:=EU hl hn hx hed hp Ii he;refine ⟨t',h1,h2,h3,?_⟩;simp only [Xk,hp,Ta];exact VR (Ii.back hed hn)
  ·cases hs
def zd:List (Nat×AV×OB)->St->St->Prop
 | [],s,t=>s=t
 |q::Q,s,t=>It q.1 t/\zd Q s (Js q.1 q.2.1 q.2.2 t)
theorem yA {o:Oper} : ∀(Q:List (Nat×AV×OB)) (s t s':St),zd Q s t->(∀q∈Q,sS q.1 q.2.1 q.2.2/\(km o).all (jD q.1)=true/\o.dst≠some q.1)->Xk Γ s o=true->Fl T Γ ops s o=some s'->
  ∃t',Fl T Γ ops t o=some t'/\zd Q s' t'/\Xk Γ t o=true
 | [],s,t,s',h,_,hs,he=>by
  have h:s=t:=h;subst h;exact ⟨s',he,rfl,hs⟩
 |q::Q,s,t,s',⟨h1,h2⟩,hq,hs,he=>by
  obtain ⟨u',e1,e2,e3⟩:=yA Q s _ s' h2 (λp hp=>hq p (At _ hp)) hs he;obtain ⟨l1,l2,l3⟩:=hq q (by simp);obtain ⟨t',f1,f2,f3,f4⟩:=BX l1 h1 e3 l2 l3 e1;exact ⟨t',f1,⟨f3,by rw [<-f2];exact e2⟩,f4⟩
theorem yB {q:Nat×AV×OB} : ∀(Q1:List (Nat×AV×OB)) {Q2:List (Nat×AV×OB)} {s t:St},zd (Q1++q::Q2) s t->(∀p∈Q1++q::Q2,sS p.1 p.2.1 p.2.2)->(∀p∈Q1,p.1≠q.1)->
  It q.1 t/\zd (Q1++Q2) s (Js q.1 q.2.1 q.2.2 t)
 | [],Q2,s,t,h,_,_=>h
 |p::Q1,Q2,s,t,⟨h1,h2⟩,hL,Ii=>by
  have hpq:=Ii p (by simp);have hLp:=hL p (by simp);have hLq:=hL q (by simp);obtain ⟨g1,g2⟩:=yB Q1 h2 (λr hr=>hL r (At _ hr)) λr hr=>Ii r (At _ hr);refine ⟨g1.back (Ha hpq) h1,h1.plus hpq (λh=>hpq (hLq.v1 _ h)) (by rw [hLq.b1];simp),?_⟩;show zd (Q1++Q2) s (Js p.1 p.2.1 p.2.2 (Js q.1 q.2.1 q.2.2 t));rw [xH (Ha hpq)];exact g2
def nm (ops:Array Oper):Nat->Nat->Nat->Bool
 |0,_,_=>false
 |f+1,i,a=>Region.waitsFor .any ops i a||(List.range ops.size).any λk=>Region.waitsFor .any ops i k&&nm ops f k a
theorem m9 {Aj:Array Bool} (hc:Uy ops Aj) {a:Nat} : ∀(f i:Nat),(∀x,Region.waitsFor .any ops i x=true->Aj.getD x false=true)->nm ops f i a=true->Aj.getD a false=true
 |0,_,_,h=>by cases h
 |f+1,i,hi,h=>by
  simp only [nm,Kx,Eu,Ak] at h;rcases h with h|⟨k,_,h1,h2⟩
  ·exact hi a h
  ·exact m9 hc f k (λx hx=>hc k x (hi k h1) hx) h2
def OI (P:List (Nat×Nat×AV×OB)) (Γ:Env) (ops:Array Oper) (st:St) (o:Oper) (i:Nat):Bool:=
 (P.all λa=>nm ops 5 i a.1)||(Xk Γ st o&&P.all λa=>nm ops 5 i a.1||((km o).all (jD a.2.1)&&(match o.dst with
  |some e=>!Nat.beq e a.2.1
  |none=>true)))
def Ajm (T:Tab) (Γ:Env) (ops:Array Oper) (P:List (Nat×Nat×AV×OB)) (K:St->Prop):Nat->Array Bool->St->Prop
 |0,Aj,st=>Region.ready .any ops Aj= []/\K st
 |f+1,Aj,st=>Region.ready .any ops Aj≠ []/\ ∀i∈Region.ready .any ops Aj,∃o st',ops[i]?=some o/\OI P Γ ops st o i=true/\Fl T Γ ops st o=some st'/\Ajm T Γ ops P K f (Aj.setIfInBounds i true) st'
structure YJ (lc la:Array Bool) (Q:List Nat):Prop where
 size:la.size=lc.size
 off: ∀k∈Q,k<la.size/\la.getD k false=false/\lc.getD k false=true
 same: ∀k,k∉Q->la.getD k false=lc.getD k false
theorem YJ.ready {lc la:Array Bool} {Q:List Nat} (h:YJ lc la Q) {i:Nat} (hi:i∈Region.ready .any ops la) (hn:i∉Q):i∈Region.ready .any ops lc:=by
 obtain ⟨h1,o,ho,Ma⟩:=mem_ready.1 hi
 have Kr:i<la.size:=by
  rcases Nat.lt_or_ge i la.size with h'|h'
  ·exact h'
  ·simp [Array.getElem?_eq_none h'] at h1
 have h2:=getD_both h1;rw [h.same i hn] at h2;refine mem_ready.2 ⟨getD_in (by rw [<-h.size];exact Kr) h2,o,ho,λe he hb=>?_⟩;have h3:=Ma e he hb
 by_cases hq:e.on∈Q
 ·exact (h.off _ hq).2.2
 ·rw [<-h.same _ hq];exact h3
theorem YJ.nil {lc la:Array Bool} (h:YJ lc la []):la=lc:=by
 refine Array.ext h.size λk h1 h2=>?_;have:=h.same k (by simp);simpa [h1,h2] using this
theorem YJ.one {lc la:Array Bool} {Q Q':List Nat} {i:Nat} (h:YJ lc la Q) (hi:i∈Q) (hs: ∀k,k∈Q'↔k∈Q/\k≠i):YJ lc (la.setIfInBounds i true) Q':=by
 refine ⟨by simp [h.size],λk hk=>?_,λk hk=>?_⟩
 ·obtain ⟨h1,h2⟩:=(hs k).1 hk;obtain ⟨g1,g2,g3⟩:=h.off k h1;exact ⟨by simpa using g1,by rw [getD_set_ne false (Ha h2)];exact g2,g3⟩
 ·by_cases e:i=k
  ·subst e;obtain ⟨g1,g2,g3⟩:=h.off i hi;rw [g3];simp [g1]
  ·rw [getD_set_ne false e];exact h.same k λhq=>hk ((hs k).2 ⟨hq,Ha e⟩)
theorem YJ.both {lc la:Array Bool} {Q:List Nat} {i:Nat} (h:YJ lc la Q) (hi:i∉Q):YJ (lc.setIfInBounds i true) (la.setIfInBounds i true) Q:=by
 refine ⟨by simp [h.size],λk hk=>?_,λk hk=>?_⟩
 ·obtain ⟨g1,g2,g3⟩:=h.off k hk;have Ii:i≠k:= λe=>hi (by rw [e];exact hk);exact ⟨by simpa using g1,by rw [getD_set_ne false Ii];exact g2,by rw [getD_set_ne false Ii];exact g3⟩
 ·by_cases e:i=k
  ·subst e;have hs:=h.same i hi;have hz:=h.size
   by_cases hl:i<la.size
   ·simp [hl,hz▸hl]
   ·have Mr: ¬i<lc.size:=by omega
    simp [hl,Mr]
  ·rw [getD_set_ne false e,getD_set_ne false e];exact h.same k hk
theorem OF {dst:Option Tmp} {d:Nat} (h:(match dst with
  |some e=>!Nat.beq e d
  |none=>true)=true):dst≠some d:= λe=>by
 subst e;simp at h
theorem UA {P:List (Nat×Nat×AV×OB)} {K:St->Prop} (hP: ∀a∈P,∃o,ops[a.1]?=some o/\fH T o=some a.2):
  ∀(n f:Nat) (Q:List (Nat×Nat×AV×OB)) (lc la:Array Bool) (s t:St),n=f+Q.length->Ajm T Γ ops P K f lc s->zd (Q.map (·.2)) s t->YJ lc la (Q.map (·.1))->(∀a∈Q,a∈P)->
   (Q.Pairwise λa c=>a.2.1≠c.2.1/\a.1≠c.1)->Uy ops la->(∀a∈Q,∀x,Region.waitsFor .any ops a.1 x=true->la.getD x false=true)->anyS T Γ ops K n la t:=by
 intro n
 induction n with
 |zero=>
  intro f Q lc la s t hn hC hp hb hQ hpw Ra hw
  have hf:f=0:=by omega
  have hq:Q= []:=Cr (by omega);subst hf hq;have hp:s=t:=hp;subst hp;rw [hb.nil];exact hC
 |succ n ih=>
  intro f Q lc la s t hn hC hp hb hQ hpw Ra hw;refine ⟨?_,λi hi=>?_⟩
  ·cases Q with
   |nil=>
    rw [hb.nil]
    cases f with
    |zero=>simp at hn
    |succ f=>exact hC.1
   |cons a Q=>
    obtain ⟨o,ho,_⟩:=hP a (hQ a (by simp));obtain ⟨g1,g2,_⟩:=hb.off a.1 (by simp)
    have:a.1∈Region.ready .any ops la:=mem_ready.2 ⟨getD_in g1 g2,o,ho,λe he hbd=>hw a (by simp) e.on (by
     unfold Region.waitsFor;rw [ho]
     exact Array.any_eq_true'.2 ⟨e,he,by simp [hbd]⟩)⟩
    intro e;rw [e] at this;cases this
  ·by_cases hiQ:i∈Q.map (·.1)
   ·obtain ⟨a,ha,rfl⟩:=Bh.1 hiQ;obtain ⟨Q1,Q2,rfl⟩:=List.append_of_mem ha;obtain ⟨o,ho,hal⟩:=hP a (hQ a ha);obtain ⟨_,_,Sd⟩:=fI (Γ:=Γ) (ops:=ops) hal;have Aaw:=eu.1 hpw;have Apu:=aR.1 Aaw.2.1;rw [Hj,Cb] at hp
    have hL: ∀p∈Q1.map (·.2)++a.2::Q2.map (·.2),sS p.1 p.2.1 p.2.2:= λp zQ=>by
     have:p∈(Q1++a::Q2).map (·.2):=by rw [Hj,Cb];exact zQ
     obtain ⟨c,hc,rfl⟩:=Bh.1 this;obtain ⟨o',_,Auk⟩:=hP c (hQ c hc);exact (fI (Γ:=Γ) (ops:=ops) Auk).2.1
    obtain ⟨p1,p2⟩:=yB _ hp hL λp zQ=>by
     obtain ⟨c,hc,rfl⟩:=Bh.1 zQ;exact (Aaw.2.2 c hc a (by simp)).1
    refine ⟨o,_,ho,Sd t p1,ih f (Q1++Q2) lc _ s _ ?_ hC (by rw [Hj];exact p2) (hb.one hiQ λk=>?_) (λc hc=>hQ c ?_) ?_ (Ra.set hi) λc hc x hx=>getD_set_true (hw c ?_ x hx)⟩
    ·simp only [Av,Aw] at hn⊢;omega
    ·simp only [Hj,Cb,Be,Bd]
     constructor
     ·intro h;rcases h with h|h
      ·obtain ⟨c,hc,rfl⟩:=Bh.1 h;exact ⟨.inl h,(Aaw.2.2 c hc a (by simp)).2⟩
      ·obtain ⟨c,hc,rfl⟩:=Bh.1 h;exact ⟨.inr (.inr h),Ha (Apu.1 c hc).2⟩
     ·rintro ⟨h|h|h,Ii⟩
      ·exact .inl h
      ·exact absurd h Ii
      ·exact .inr h
    ·rcases Be.1 hc with hc|hc
     ·exact Bo _ hc
     ·exact Cm _ (At _ hc)
    ·exact eu.2 ⟨Aaw.1,Apu.2,λc hc e he=>Aaw.2.2 c hc e (At _ he)⟩
    ·rcases Be.1 hc with hc|hc
     ·exact Bo _ hc
     ·exact Cm _ (At _ hc)
   ·have hic:=hb.ready hi hiQ
    cases f with
    |zero=>
     rw [hC.1] at hic;cases hic
    |succ f=>
     obtain ⟨o,s',ho,jr,he,cb⟩:=hC.2 i hic
     have Afr: ∀a∈Q,nm ops 5 i a.1=false:= λa ha=>by
      cases hwt:nm ops 5 i a.1 with
      |false=>rfl
      |true=>
       have h1:=m9 Ra _ i (λx hx=>dw hi hx) hwt;rw [(hb.off a.1 (Bh.2 ⟨a,ha,rfl⟩)).2.1] at h1;cases h1
     have key: ∃t',Fl T Γ ops t o=some t'/\zd (Q.map (·.2)) s' t':=by
      unfold OI at jr;rw [Kx,Ak] at jr;rcases jr with jr|⟨h1,h2⟩
      ·cases Q with
       |nil=>
        have hp:s=t:=hp;subst hp;exact ⟨s',he,rfl⟩
       |cons a Q=>
        have:=Bk.1 jr a (hQ a (by simp));rw [Afr a (by simp)] at this;cases this
      ·obtain ⟨t',g1,g2,_⟩:=yA (T:=T) (ops:=ops) _ s t s' hp (λq hq=>by
        obtain ⟨a,ha,rfl⟩:=Bh.1 hq;obtain ⟨o',_,hal⟩:=hP a (hQ a ha);have h3:=Bk.1 h2 a (hQ a ha);rw [Afr a ha,bM,Ak] at h3
        exact ⟨(fI (Γ:=Γ) (ops:=ops) hal).2.1,h3.1,OF h3.2⟩) h1 he
       exact ⟨t',g1,g2⟩
     obtain ⟨t',g1,g2⟩:=key;exact ⟨o,t',ho,g1,ih f Q _ _ s' t' (by omega) cb g2 (hb.both hiQ) hQ hpw (Ra.set hi) λc hc x hx=>getD_set_true (hw c hc x hx)⟩
def ae (T:Tab) (ops:Array Oper) (Aj:Array Bool):List (Nat×Nat×AV×OB):=(Region.ready .any ops Aj).filterMap λi=>((ops[i]?).bind (fH T)).map λr=>(i,r)
theorem zi {Aj:Array Bool} {a:Nat×Nat×AV×OB} (h:a∈ae T ops Aj):a.1∈Region.ready .any ops Aj/\ ∃o,ops[a.1]?=some o/\fH T o=some a.2:=by
 unfold ae at h;obtain ⟨i,hi,he⟩:=List.mem_filterMap.1 h
 cases ho:ops[i]? with
 |none=>rw [ho] at he;cases he
 |some o=>
  rw [ho] at he;simp only [Ew,Option.map_eq_some_iff] at he;obtain ⟨r,h1,rfl⟩:=he;exact ⟨hi,o,ho,h1⟩
theorem Af1 {Aj:Array Bool} {Q:List Nat} (h: ∀i∈Q,i∈Region.ready .any ops Aj):YJ (Et Q Aj) Aj Q:=by
 have hr: ∀i∈Q,i<Aj.size/\Aj.getD i false=false:= λi hi=>by
  have h1:=(mem_ready.1 (h i hi)).1;refine ⟨?_,getD_both h1⟩;rcases Nat.lt_or_ge i Aj.size with h'|h'
  ·exact h'
  ·simp [Array.getElem?_eq_none h'] at h1
 exact ⟨(Xd Q Aj).symm,λk hk=>⟨(hr k hk).1,(hr k hk).2,ga Q Aj k hk (hr k hk).1⟩,λk hk=>(dW Q Aj k hk).symm⟩
theorem IQ: ∀(Q:List (Nat×Nat×AV×OB)) (t s:St),(∀a∈Q,∃o,ops[a.1]?=some o/\fH T o=some a.2)->(∀a∈Q,It a.2.1 t)->(Q.Pairwise λa c=>a.2.1≠c.2.1)->Nk T Γ ops (Q.map (·.1)) t=some s->zd (Q.map (·.2)) s t
 | [],t,s,_,_,_,h=>by
  have h:some t=some s:=h;exact (Bi h).symm
 |a::Q,t,s,hQ,hn,hp,h=>by
  obtain ⟨o,ho,hal⟩:=hQ a (by simp);obtain ⟨_,hL,Sd⟩:=fI (Γ:=Γ) (ops:=ops) hal;obtain ⟨xZ,SI⟩:=aR.1 hp;simp only [Cb,Nk,ho] at h;rw [Sd t (hn a (by simp))] at h;refine ⟨hn a (by simp),IQ Q _ s (λc hc=>hQ c (At _ hc)) (λc hc=>?_) SI h⟩;exact (hn c (At _ hc)).plus (Ha (xZ c hc)) (λh=>xZ c hc (hL.v1 _ h).symm) (by rw [hL.b1];simp)
end
end Go.Proofs.Ytfgfigkbgecfnaa
