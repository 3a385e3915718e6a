/-
  Part 30 of the proof that the statement FnIterativeDeepening holds.
-/
import Derived.Test.YtkkdpknjohcekaaGreatCFIterativeDeepening28
namespace Go.Proofs.YtkkdpknjohcekaaGreat
open Go.RowKit
def Ka (d:Nat) (v:AV) (b:OB) (st:St):St:= {tmps:=Tg st.tmps d v,heap:=Ox st.heap d b}
def pk (d:Nat) (st:St):Bool:=(st.get d).refs.isEmpty&&((st.tmps.all λv=>!v.refs.contains d)&&st.heap.all λp=>!Nat.beq p.1 d&&!p.2.refs.contains d)
structure Je (d:Nat) (st:St):Prop where
 own:(st.get d).refs= []
 tmps: ∀v∈st.tmps,d∉v.refs
 heap: ∀p∈st.heap,p.1≠d/\d∉p.2.refs
theorem tR {d:Nat} {st:St} (h:pk d st=true):Je d st:=by
 unfold pk at h
 rw [Ag,Ag,Bb,Bb] at h
 obtain ⟨h0,h⟩:=h
 refine ⟨List.isEmpty_iff.1 h0,λv hv=>?_,λp hp=>?_⟩
 ·have:=h.1 v hv
  intro hd
  rw [Ke.2 hd] at this
  cases this
 ·have:=h.2 p hp
  rw [Ag] at this
  refine ⟨λe=>?_,λhd=>?_⟩
  ·have h1:=this.1
   rw [e,Nat.beq_refl] at h1
   cases h1
  ·have h1:=this.2
   rw [Ke.2 hd] at h1
   cases h1
theorem SZ {d:Nat} {st:St} (h:Je d st):pk d st=true:=by
 unfold pk
 rw [Ag,Ag,Bb,Bb]
 refine ⟨by rw [h.own];rfl,λv hv=>?_,λp hp=>?_⟩
 ·rw [Er,<-Hx,Ke];exact h.tmps v hv
 ·rw [Ag]
  refine ⟨?_,?_⟩
  ·rw [Er,<-Hx]
   exact λe=>(h.heap p hp).1 (Kg e)
  ·rw [Er,<-Hx,Ke];exact (h.heap p hp).2
structure sj (d:Nat) (v:AV) (b:OB):Prop where
 v1: ∀l,l∈v.refs->l=d
 b1:b.refs= []
 v2: ∀l,l≠d->v.map (Ck l)=v
 b2: ∀l,b.map (Ck l)=b
theorem dZ {α:Type} : ∀(xs:List α) (d t:Nat) (v x:α),d≠t->(Tg xs d v).getD t x=xs.getD t x
 | [],_,_,_,_,_=>rfl
 |y::r,0,0,_,_,h=>absurd rfl h
 |y::r,0,t+1,_,_,_=>by simp [Tg]
 |y::r,d+1,0,_,_,_=>by simp [Tg]
 |y::r,d+1,t+1,v,x,h=>by simpa [Tg] using dZ r d t v x (by omega)
theorem pI {α:Type} : ∀(xs:List α) (d e:Nat) (v w:α),d≠e->Tg (Tg xs d v) e w=Tg (Tg xs e w) d v
 | [],_,_,_,_,_=>rfl
 |y::r,0,0,_,_,h=>absurd rfl h
 |y::r,0,e+1,_,_,_=>rfl
 |y::r,d+1,0,_,_,_=>rfl
 |y::r,d+1,e+1,v,w,h=>by simp only [Tg];rw [pI r d e v w (by omega)]
theorem xf: ∀(H:List (Nat×OB)) (d l:Nat) (b:OB),d≠l->Av (Ox H d b) l=Av H l
 | [],d,l,b,h=>by simp [Ox,Av,h]
 |(k,c)::r,d,l,b,h=>by
  simp only [Ox]
  split
  ·simp only [Av];rw [Ai h]
  ·simp only [Av]
   split
   ·rfl
   ·exact xf r d l b h
theorem xj: ∀(H:List (Nat×OB)) (d e:Nat) (b c:OB),d≠e->Ox (Ox H d b) e c=Ox (Ox H e c) d b
 | [],d,e,b,c,h=>by
  simp only [Ox]
  by_cases h1:e<d
  ·rw [Ab h1,Ai (by omega)]
  ·rw [Ai h1,Ab (by omega)]
 |(k,a)::r,d,e,b,c,h=>by
  simp only [Ox]
  by_cases h1:d<k<;>by_cases h2:e<k
  ·rw [Ab h1,Ab h2]
   simp only [Ox]
   by_cases h3:e<d
   ·rw [Ab h3,Ai (by omega),Ab h1]
   ·rw [Ai h3,Ab h2,Ab (by omega)]
  ·rw [Ab h1,Ai h2]
   simp only [Ox]
   rw [Ai (by omega),Ai h2,Ab h1]
  ·rw [Ai h1,Ab h2]
   simp only [Ox]
   rw [Ab h2,Ai (by omega),Ai h1]
  ·rw [Ai h1,Ai h2]
   simp only [Ox]
   rw [Ai h1,Ai h2,xj r d e b c h]
theorem xU: ∀(H:List (Nat×OB)) (d l:Nat) (b c:OB),d≠l->aw (Ox H d b) l c=Ox (aw H l c) d b
 | [],d,l,b,c,h=>by simp [Ox,aw,h]
 |(k,a)::r,d,l,b,c,h=>by
  simp only [Ox,aw]
  by_cases h1:d<k<;>by_cases h2:k=l
  ·rw [Ab h1,Ab h2]
   simp only [aw,Ox]
   rw [Ai h,Ab h2,Ab h1]
  ·rw [Ab h1,Ai h2]
   simp only [aw,Ox]
   rw [Ai h,Ai h2,Ab h1]
  ·rw [Ai h1,Ab h2]
   simp only [aw,Ox]
   rw [Ab h2,Ai h1]
  ·rw [Ai h1,Ai h2]
   simp only [aw,Ox]
   rw [Ai h2,Ai h1,xU r d l b c h]
theorem q9 {l:Nat} : ∀ {c:AC},l∉c.refs->Ck l c=c:=by
 intro c h
 cases c<;>simp only [Ck]<;>simp only [AC.refs,Ad] at h
 case clo f Ec=>rw [Ai (by simpa using h)]
 all_goals (first|rfl|rw [Ai (Hr h)])
theorem aU {l:Nat} : ∀ {cs:List AC},l∉cs.flatMap AC.refs->cs.map (Ck l)=cs
 | [],_=>rfl
 |c::r,h=>by
  rw [cr,Ay] at h
  rw [Cc,q9 (λhh=>h (.inl hh)),aU (λhh=>h (.inr hh))]
theorem DE {l:Nat} : ∀ {v:AV},l∉v.refs->v.map (Ck l)=v
 | .at a,h=>by simp only [AV.map];rw [q9 h]
 | .agg cs,h=>by simp only [AV.map];rw [aU h]
 | .bw _ _ _,_=>rfl
 | .Nd ps,h=>by
  simp only [AV.map]
  congr 1
  simp only [AV.refs] at h
  induction ps with
  |nil=>rfl
  |cons p r ih=>
   rw [cr,Ay] at h
   rw [Cc,aU (λhh=>h (.inl hh)),ih (λhh=>h (.inr hh))]
theorem DF {l:Nat} : ∀ {b:OB},l∉b.refs->b.map (Ck l)=b
 | .arr _ _ _ _ _,_=>rfl
 | .Hf _ _ _,_=>rfl
 | .var _ vs,h=>by simp only [OB.map];rw [aU h]
 | .Bn _ _ _ _ _,_=>rfl
 | .Vx _ _,_=>rfl
theorem CU {l:Nat} : ∀ {H:List (Nat×OB)},(∀p∈H,p.1≠l)->aD H l=H
 | [],_=>rfl
 |(k,b)::r,h=>by
  simp only [aD]
  rw [Ai (h (k,b) (by simp)),CU λp hp=>h p (by simp [hp])]
theorem Je.forget {l:Nat} {st:St} (h:Je l st):st.forget l=st:=by
 have e1:st.tmps.map (λv=>v.map (Ck l))=st.tmps:=(Eu λv hv=>DE (h.tmps v hv)).trans (List.map_id _)
 have e2:st.heap.map (λp=>(p.1,p.2.map (Ck l)))=st.heap:=(Eu λp hp=>by rw [DF (h.heap p hp).2];rfl).trans (List.map_id _)
 unfold St.forget St.Ln
 simp only [e1,e2]
 rw [CU λp hp=>(h.heap p hp).1]
theorem Je.new {l:Nat} {st:St} (h:Je l st) (b:OB) (v:AV):(st.new l b).put (some l) v=Ka l v b st:=by
 unfold St.new
 rw [h.forget]
 rfl
theorem tJ {α:Type} : ∀ {xs:List α} {d:Nat} {v x:α},x∈Tg xs d v->x∈xs\/x=v
 | [],_,_,_,h=>by cases h
 |y::r,0,v,x,h=>by
  rcases Bg.1 h with h|h
  ·exact .inr h
  ·exact .inl (Ao _ h)
 |y::r,d+1,v,x,h=>by
  rcases Bg.1 h with h|h
  ·exact .inl (by rw [h];simp)
  ·exact (tJ h).imp (Ao _) id
theorem EV: ∀ {H:List (Nat×OB)} {d:Nat} {b:OB} {p:Nat×OB},p∈Ox H d b->p∈H\/p=(d,b)
 | [],d,b,p,h=> .inr (by simpa [Ox] using h)
 |(k,c)::r,d,b,p,h=>by
  simp only [Ox] at h
  split at h
  ·rcases Bg.1 h with h|h
   ·exact .inr h
   ·exact .inl h
  ·rcases Bg.1 h with h|h
   ·exact .inl (by rw [h];simp)
   ·exact (EV h).imp (Ao _) id
theorem Acn {d:Nat} {v:AV} {b:OB} {st:St} {x:Operand} (h:x≠ .tmp d):(Ka d v b st).ev x=st.ev x:=by
 cases x with
 |tmp t=>exact dZ _ _ _ _ _ (λe=>h (by rw [e]))
 |_=>rfl
theorem OF {d l:Nat} {v:AV} {b:OB} {st:St} (h:d≠l):(Ka d v b st).at l=st.at l:=xf _ _ _ _ h
theorem WT {d e:Nat} {v u:AV} {b:OB} {st:St} (h:d≠e):(Ka d v b st).put (some e) u=Ka d v b (st.put (some e) u):=by
 unfold Ka St.put
 simp only
 rw [pI _ _ _ _ _ h]
theorem RF {d l:Nat} {v:AV} {b c:OB} {st:St} (h:d≠l):(Ka d v b st).Kq l c=Ka d v b (st.Kq l c):=by
 unfold Ka St.Kq
 simp only
 rw [xU _ _ _ _ _ h]
theorem wU {d e:Nat} {v u:AV} {b c:OB} {st:St} (h:d≠e):Ka e u c (Ka d v b st)=Ka d v b (Ka e u c st):=by
 unfold Ka
 rw [pI _ _ _ _ _ h,xj _ _ _ _ _ h]
theorem Je.put {d:Nat} {st:St} {e:Nat} {u:AV} (h:Je d st) (hde:e≠d) (hu:d∉u.refs):Je d (st.put (some e) u):=
 ⟨by show (List.getD (Tg st.tmps e u) d .undef).refs= [];rw [dZ _ _ _ _ _ hde];exact h.own,λv hv=>(tJ hv).elim (h.tmps v) λe=>by rw [e];exact hu,h.heap⟩
theorem Je.plus {d e:Nat} {u:AV} {c:OB} {st:St} (h:Je d st) (hde:d≠e) (hu:d∉u.refs) (hc:d∉c.refs):Je d (Ka e u c st):=
 ⟨by show (List.getD (Tg st.tmps e u) d .undef).refs= [];rw [dZ _ _ _ _ _ (Hr hde)];exact h.own,λv hv=>(tJ hv).elim (h.tmps v) λe=>by rw [e];exact hu,λp hp=>(EV hp).elim (h.heap p) λe'=>by rw [e'];exact ⟨Hr hde,hc⟩⟩
theorem Je.Ail {d e:Nat} {u:AV} {c:OB} {st:St} (h:Je d (Ka e u c st)): ∀p∈st.heap,p.1≠d/\d∉p.2.refs:= λp hp=>h.heap p (by
 show p∈Ox st.heap e c
 generalize st.heap=H at hp
 induction H with
 |nil=>cases hp
 |cons q r ih=>
  obtain ⟨k,a⟩:=q
  simp only [Ox]
  split
  ·exact Ao _ hp
  ·rcases Bg.1 hp with hp|hp
   ·rw [hp];simp
   ·exact Ao _ (ih hp))
theorem rJ {st st':St} : ∀(τ:Ty) (cs:List AC),cs.all (·.settled)=true->Ff st' τ cs=Ff st τ cs:=by
 intro τ
 induction τ with
 |unit=>intro cs _;cases cs<;>rfl
 |pair a r gX gT=>
  intro cs h
  simp only [Ff]
  rw [Bb] at h
  rw [gX _ (Bb.2 λc hc=>h c (Ey hc)),gT _ (Bb.2 λc hc=>h c (dJ hc))]
 |_=>
  intro cs h
  rcases cs with _|⟨c,_|⟨c',cs⟩⟩
  ·rfl
  ·simp only [Jg,List.all_nil,Bool.and_true] at h
   simp only [Ff]
   exact bd h
  ·rfl
theorem gf {st st':St} {τ:Ty} {v:AV} (h:v.settled=true):Fw st' τ v=Fw st τ v:=by
 cases v with
 | «at»a=>
  have ha:a.settled=true:=h
  cases a<;>simp only [AC.settled,Cz] at ha
  all_goals
   simp only [Fw]
   rw [Qy rfl,Qy rfl]
   rw [bd (st:=st) (st':=st') rfl]
 |agg cs=>simp only [Fw];rw [rJ _ _ h]
 |bw _ _ _=>rfl
 |Nd _=>rfl
theorem jF {st st':St} : ∀(τ:Ty) (vs:List AV),vs.all (·.settled)=true->Du st' τ vs=Du st τ vs
 | .pair a r,v::vs,h=>by
  rw [Jg,Ag] at h
  simp only [Du]
  rw [gf (st:=st) (st':=st') h.1,jF r vs h.2]
 | .pair _ _,[],_=>rfl
 | .unit,[],_=>rfl
 | .unit,_::_,_=>rfl
 | .int _,vs,_=>by cases vs<;>rfl
 | .bool,vs,_=>by cases vs<;>rfl
 | .str,vs,_=>by cases vs<;>rfl
 | .slice _,vs,_=>by cases vs<;>rfl
 | .oslice _,vs,_=>by cases vs<;>rfl
 | .ptr _,vs,_=>by cases vs<;>rfl
 | .optr _,vs,_=>by cases vs<;>rfl
 | .smap _,vs,_=>by cases vs<;>rfl
 | .clo _ _,vs,_=>by cases vs<;>rfl
def Wr:AV->Bool
 | .at (.data _ _ _)=>true
 |_=>false
def jD (o:Oper):List Operand:=match o.op with
 | .move x=> [x]
 | .load _ x=> [x]
 | .call {callee:= .value (.func _),args, .. } =>args.toList
 | .insert _ m k x=> [m,k,x]
 | .buildSlice _ _ parts=>parts.toList.map (·.2)
 |_=> []
def j7 (d:Nat):Operand->Bool
 | .tmp t=>!Nat.beq t d
 |_=>true
theorem TB {d:Nat} {x:Operand} (h:j7 d x=true):x≠ .tmp d:= λe=>by
 subst e
 simp [j7] at h
def Ww (Γ:Env) (st:St) (o:Oper):Bool:=match o.guard with
 |some _=>false
 |none=>match o.op with
  | .move _=>true
  | .load _ x=>(match st.ev x with
   | .at (.Hs _ _)=>true
   |_=>false)
  | .call {callee:= .value (.func f),args, .. } =>(match Γ f with
   |some (.q _)=>true
   |_=>false)&&args.toList.all λx=>(st.ev x).settled
  | .insert _ m k x=>(match st.ev m with
   | .at (.Lb _)=>true
   |_=>false)&&Wr (st.ev k)&&(st.ev x).settled
  | .buildSlice _ _ parts=>(parts.toList.all λp=>Wr (st.ev p.2))&&(match o.dst with
   |some e=>pk e st
   |none=>false)
  |_=>false
theorem Je.ev {d:Nat} {st:St} (h:Je d st) (x:Operand):d∉(st.ev x).refs:=by
 cases x with
 |tmp t=>
  simp only [St.ev,St.get]
  rw [Aj]
  by_cases hl:t<st.tmps.length
  ·rw [Ac hl];exact h.tmps _ (Al hl)
  ·rw [Dw (Nat.le_of_not_lt hl)];simp [AV.refs,AC.refs]
 |const c=>
  simp only [St.ev]
  unfold mT
  split<;>simp [AV.refs,AC.refs]
 |func f=>simp [St.ev,AV.refs,AC.refs]
 |_=>simp [St.ev,AV.refs,AC.refs]
theorem DP: ∀ {H:List (Nat×OB)} {l:Nat} {b:OB},Av H l=some b->(l,b)∈H
 |(k,c)::r,l,b,h=>by
  simp only [Av] at h
  split at h
  ·rename_i e;subst e;cases h;simp
  ·exact Ao _ (DP h)
section
variable {T:Tab} {Γ:Env} {ops:Array Oper} {d:Nat} {v:AV} {b:OB} {t:St}
theorem xI {e:Option Tmp} (h:e≠some d) (hn:Je d t) {y:AV} (hy:d∉y.refs):(Ka d v b t).put e y=Ka d v b (t.put e y)/\Je d (t.put e y):=by
 cases e with
 |none=>exact ⟨rfl,hn⟩
 |some k=>exact ⟨WT (λe=>h (by rw [e])),hn.put (λe=>h (by rw [e])) hy⟩
theorem jd {o:Oper} (hg:o.guard=none) (ed:o.dst≠some d) (hn:Je d t) {q:Option AV} (h1:evalOp T Γ (Ka d v b t) o=q.map λy=>(y,Ka d v b t)) (h2:evalOp T Γ t o=q.map λy=>(y,t)) (hq: ∀y,q=some y->d∉y.refs) {s':St}
  (he:Fa T Γ ops (Ka d v b t) o=some s'): ∃t',Fa T Γ ops t o=some t'/\s'=Ka d v b t'/\Je d t':=by
 unfold Fa at he⊢
 rw [hg] at he⊢
 simp only at he⊢
 rw [h1] at he
 cases q with
 |none=>cases he
 |some y=>
  obtain ⟨p1,p2⟩:=xI (v:=v) (b:=b) ed hn (hq y rfl)
  refine ⟨_,by rw [h2];rfl,?_,p2⟩
  simp only [Ak,Aa] at he
  rw [<-he,p1]
theorem Zr {l:List Operand} (hu:l.all (j7 d)=true): ∀x∈l,(Ka d v b t).ev x=t.ev x:= λx hx=>Acn (TB (Bb.1 hu x hx))
theorem KQ {dst:Option Tmp} {x:Operand} {ty:TypeId} {pos:String} {after:Array Edge} (hn:Je d t) (hx:(Ka d v b t).ev x=t.ev x) (ed:dst≠some d) {s':St}
  (he:Fa T Γ ops (Ka d v b t) {dst:=dst,op:= .move x,type:=ty,pos:=pos,after:=after,guard:=none} =some s'):
  ∃t',Fa T Γ ops t {dst:=dst,op:= .move x,type:=ty,pos:=pos,after:=after,guard:=none} =some t'/\s'=Ka d v b t'/\Je d t':=
 jd rfl ed hn (q:=some (t.ev x)) (by simp only [evalOp,Fh,hx]) (by simp only [evalOp,Fh]) (λy hy=>by cases hy;exact hn.ev x) he
def loadVar (T:Tab) (o:Option OB) (t0:TypeId) (i:Nat):Option AV:=match T.ty t0 with
 |some τ=>(match o with
  |some (.var _ vs)=>if τ.Aq then (if i+τ.size<=vs.length then some (.agg ((vs.drop i).take τ.size)) else none) else vs[i]?.map .at
  |_=>none)
 |none=>none
theorem kI {st:St} {t0:TypeId} {l i:Nat} :Qr T st t0 (.at (.Hs l i))=loadVar T (st.at l) t0 i:=by
 unfold Qr loadVar
 cases T.ty t0<;>rfl
theorem KL {dst:Option Tmp} {t0:TypeId} {x:Operand} {ty:TypeId} {pos:String} {after:Array Edge} (hn:Je d t) (hx:(Ka d v b t).ev x=t.ev x) (ed:dst≠some d) {l i:Nat} (hp:t.ev x= .at (.Hs l i)) {s':St}
  (he:Fa T Γ ops (Ka d v b t) {dst:=dst,op:= .load t0 x,type:=ty,pos:=pos,after:=after,guard:=none} =some s'):
  ∃t',Fa T Γ ops t {dst:=dst,op:= .load t0 x,type:=ty,pos:=pos,after:=after,guard:=none} =some t'/\s'=Ka d v b t'/\Je d t':=by
 have hld:d≠l:= λe=>by
  have:=hn.ev x
  rw [hp,e] at this
  exact this (by simp [AV.refs,AC.refs])
 refine jd rfl ed hn (q:=loadVar T (t.at l) t0 i) ?_ ?_ (λy hy=>?_) he
 ·simp only [evalOp,Fh,hx,hp]
  rw [kI,OF hld]
 ·simp only [evalOp,Fh,hp]
  rw [kI]
 ·unfold loadVar at hy
  split at hy
  ·split at hy
   ·rename_i vs hb
    have hr:d∉vs.flatMap AC.refs:=(hn.heap _ (DP hb)).2
    have kx: ∀c∈vs,d∉c.refs:= λc hc hd=>hr (Hy.2 ⟨c,hc,hd⟩)
    split at hy
    ·split at hy
     ·cases hy
      intro hd
      obtain ⟨c,hc,hd⟩:=Hy.1 hd
      exact kx c (dJ (Ey hc)) hd
     ·cases hy
    ·cases hv:vs[i]? with
     |none=>rw [hv] at hy;cases hy
     |some c=>
      rw [hv] at hy
      cases hy
      exact kx c (Cd hv)
   ·cases hy
  ·cases hy
theorem RI {l:List Operand} (hu:l.all (j7 d)=true):l.map (Ka d v b t).ev=l.map t.ev:=Eu λx hx=>Zr hu x hx
theorem IW {dst:Option Tmp} {f:FuncId} {args:Array Operand} {tys:Array TypeId} {ty:TypeId} {pos:String} {after:Array Edge} {sp:Spec} (Pk:Γ f=some (.q sp)) (hn:Je d t) (hx:args.toList.map (Ka d v b t).ev=args.toList.map t.ev) (ed:dst≠some d)
  (hs:(args.toList.map t.ev).all (·.settled)=true) {s':St} (he:Fa T Γ ops (Ka d v b t) {dst:=dst,op:= .call {callee:= .value (.func f),args:=args,argTypes:=tys},type:=ty,pos:=pos,after:=after,guard:=none} =some s'):
  ∃t',Fa T Γ ops t {dst:=dst,op:= .call {callee:= .value (.func f),args:=args,argTypes:=tys},type:=ty,pos:=pos,after:=after,guard:=none} =some t'/\s'=Ka d v b t'/\Je d t':=by
 have PE:fz sp (args.toList.map t.ev)=false:=by unfold fz;rw [hs];simp
 have JO: ∀st:St,Pf Γ st f (args.toList.map t.ev)=(match Du t sp.arg (args.toList.map t.ev) with
   |none=>none
   |some (_,x)=>(sp.fn x).map λy=>if sp.Ib then .bw (sp.fresh||sp.res.flat) sp.res y else .at (.data (sp.fresh||sp.res.flat) sp.res y)):= λst=>by
  unfold Pf
  rw [Pk]
  simp only
  rw [hs,jF (st:=t) _ _ hs]
  simp only [Bool.or_true,Py]
  cases Du t sp.arg (args.toList.map t.ev)<;>rfl
 refine jd rfl ed hn (q:=Pf Γ t f (args.toList.map t.ev)) ?_ ?_ (λy hy=>?_) he
 ·simp only [evalOp,Fh,Pk,hx,PE]
  rw [JO,JO t]
  simp
 ·simp only [evalOp,Fh,Pk,PE]
  simp
 ·rw [JO t] at hy
  split at hy
  ·cases hy
  ·rename_i x _
   cases hf:sp.fn x with
   |none=>rw [hf] at hy;cases hy
   |some z=>
    rw [hf] at hy
    simp only [Ak,Aa] at hy
    rw [<-hy]
    split<;>simp [AV.refs,AC.refs]
def nK (T:Tab) (o:Option OB) (t0:TypeId) (s:ByteArray) (vw:(v:Ty)->Option (Bool×v.den)):Option OB:=match T.mapOf t0 with
 |some v=>(match o,vw v with
  |some (.Vx v' f),some (_,y)=>if h:v'=v/\v.flat=true/\v.Aq=false then some (.Vx v (jA (h.1▸f:ByteArray->Option v.den) s y)) else none
  |_,_=>none)
 |none=>none
theorem kJ {st:St} {t0:TypeId} {l:Nat} {fr:Bool} {s:ByteArray} {x:AV} :Jx T st t0 (.at (.Lb l)) (.at (.data fr .str s)) x=(nK T (st.at l) t0 s λv=>Fw st v x).map λc=>st.Kq l c:=by
 unfold Jx nK
 cases T.mapOf t0 with
 |none=>rfl
 |some v0=>
  simp only
  cases st.at l with
  |none=>rfl
  |some c=>
   cases c with
   |Vx v' f=>
    cases Fw st v0 x with
    |none=>rfl
    |some p=>
     simp only
     split<;>rfl
   |_=>rfl
theorem ET {o:Option OB} {t0:TypeId} {s:ByteArray} {vw:(v:Ty)->Option (Bool×v.den)} {c:OB} (h:nK T o t0 s vw=some c):c.refs= []:=by
 unfold nK at h
 split at h
 ·split at h
  ·split at h
   ·cases h;rfl
   ·cases h
  ·cases h
 ·cases h
theorem sN {st:St} {t0:TypeId} {m k x:AV} {s':St} (h:Jx T st t0 m k x=some s'): ∃l fr s,m= .at (.Lb l)/\k= .at (.data fr .str s):=by
 unfold Jx at h
 split at h
 ·exact ⟨_,_,_,rfl,rfl⟩
 ·cases h
theorem EW: ∀ {H:List (Nat×OB)} {l:Nat} {c:OB} {p:Nat×OB},p∈aw H l c->p∈H\/(p.2=c/\p.1=l/\ ∃c',(l,c')∈H)
 |(k,a)::r,l,c,p,h=>by
  simp only [aw] at h
  split at h
  ·rename_i e
   rcases Bg.1 h with h|h
   ·subst h;exact .inr ⟨rfl,e,a,by rw [e];simp⟩
   ·exact .inl (Ao _ h)
  ·rcases Bg.1 h with h|h
   ·exact .inl (by rw [h];simp)
   ·exact (EW h).imp (Ao _) λ⟨h1,h2,c',h3⟩=>⟨h1,h2,c',Ao _ h3⟩
theorem Je.Kq {st:St} {l:Nat} {c:OB} (h:Je d st) (hc:d∉c.refs):Je d (st.Kq l c):=
 ⟨h.own,h.tmps,λp hp=>(EW hp).elim (h.heap p) λ⟨h1,h2,c',h3⟩=>⟨by rw [h2];exact (h.heap _ h3).1,by rw [h1];exact hc⟩⟩
theorem yX {dst:Option Tmp} {t0:TypeId} {m k x:Operand} {ty:TypeId} {pos:String} {after:Array Edge} (hn:Je d t) (hm:(Ka d v b t).ev m=t.ev m) (hk:(Ka d v b t).ev k=t.ev k) (hx:(Ka d v b t).ev x=t.ev x) (ed:dst≠some d)
  (hs:(t.ev x).settled=true) {s':St} (he:Fa T Γ ops (Ka d v b t) {dst:=dst,op:= .insert t0 m k x,type:=ty,pos:=pos,after:=after,guard:=none} =some s'):
  ∃t',Fa T Γ ops t {dst:=dst,op:= .insert t0 m k x,type:=ty,pos:=pos,after:=after,guard:=none} =some t'/\s'=Ka d v b t'/\Je d t':=by
 unfold Fa at he⊢
 simp only [evalOp,hm,hk,hx] at he⊢
 cases PC:Jx T (Ka d v b t) t0 (t.ev m) (t.ev k) (t.ev x) with
 |none=>rw [PC] at he;cases he
 |some s1=>
  rw [PC] at he
  simp only [Ak,Aa] at he
  obtain ⟨l,fr,s,e1,e2⟩:=sN PC
  have hld:d≠l:= λe=>by
   have:=hn.ev m
   rw [e1,e] at this
   exact this (by simp [AV.refs,AC.refs])
  rw [e1,e2,kJ,OF hld] at PC
  have hvw:(λv0=>Fw (Ka d v b t) v0 (t.ev x))= λv0=>Fw t v0 (t.ev x):=funext λv0=>gf hs
  rw [hvw] at PC
  rw [e1,e2,kJ]
  cases ho:nK T (t.at l) t0 s λv0=>Fw t v0 (t.ev x) with
  |none=>rw [ho] at PC;cases PC
  |some c=>
   rw [ho] at PC
   simp only [Ak,Aa] at PC
   have hc:=ET ho
   have oE:Je d (t.Kq l c):=hn.Kq (by rw [hc];simp)
   obtain ⟨p1,p2⟩:=xI (v:=v) (b:=b) (y:= .undef) ed oE (by simp [AV.refs,AC.refs])
   refine ⟨_,rfl,?_,p2⟩
   rw [<-he,<-PC,RF hld,p1]
theorem Je.back {e:Nat} (h:Je e (Ka d v b t)) (hde:e≠d) (hn:Je d t):Je e t:=by
 have hg: ∀k,k≠d->(Ka d v b t).get k=t.get k:= λk hk=>dZ _ _ _ _ _ (Hr hk)
 refine ⟨by rw [<-hg e hde];exact h.own,λu hu hd=>?_,h.Ail⟩
 obtain ⟨k,hk,rfl⟩:=Bf.1 hu
 have e1:t.get k=t.tmps[k]:=by unfold St.get;rw [Aj,Ac hk];rfl
 by_cases hkd:k=d
 ·subst hkd
  have:=hn.own
  rw [e1] at this
  rw [this] at hd
  cases hd
 ·have h1:=h.ev (.tmp k)
  have h2:(Ka d v b t).ev (.tmp k)=t.tmps[k]:=by show (Ka d v b t).get k=_;rw [hg k hkd,e1]
  rw [h2] at h1
  exact h1 hd
def mg (e:Ty):Nat->List (Nat×AV)->Option (Bool×Bool×List e.den)
 |_,[]=>some (true,true,[])
 |i,(j,x)::r=>if i=j then match Fw ⟨[],[]⟩ e x with
  |some (fr,y)=>match mg e (i+1) r with
   |some (Wh,tr',ys)=>some (fr&&Wh,Tw ⟨[],[]⟩ x&&e.tree&&tr',y::ys)
   |none=>none
  |none=>none
  else none
theorem dN {st:St} {e:Ty} : ∀(l:List (Nat×Operand)) (i:Nat),(l.all λp=>Wr (st.ev p.2))=true->Lw e i l st=(mg e i (l.map λp=>(p.1,st.ev p.2))).map λp=>(p.1,p.2.1,p.2.2,st)
 | [],i,_=>rfl
 |(j,x)::r,i,h=>by
  rw [Jg,Ag] at h
  have hx:Wr (st.ev x)=true:=h.1
  simp only [Lw,mg,Cc]
  split
  ·generalize hxv:st.ev x=xv at hx
   unfold Wr at hx
   split at hx
   ·rename_i fr τ z
    have Ai3:settle st (.at (.data fr τ z))=some (.at (.data fr τ z),st):=rfl
    rw [Ai3]
    simp only
    rw [gf (st:=⟨[],[]⟩) (st':=st) (v:= .at (.data fr τ z)) rfl]
    cases Fw ⟨[],[]⟩ e (.at (.data fr τ z)) with
    |none=>rfl
    |some p=>
     simp only
     rw [dN r (i+1) h.2]
     cases mg e (i+1) (r.map λp=>(p.1,st.ev p.2)) with
     |none=>rfl
     |some q=>rfl
   ·cases hx
  ·rfl
def rowOf (T:Tab) (t0:TypeId) (len:Nat) (parts:List (Nat×AV)) (dst:Nat):Option (AV×OB):=match eb T t0 with
 |some _=>none
 |none=>match T.elem t0 with
  |none=>none
  |some te=>match T.ty te with
   |none=>none
   |some e=>if parts.length=len/\len<=64/\e.size<=64/\dst<Bl then (mg e 0 parts).map λp=>(.at (.own dst 0 len), .arr ((T.vn||e.flat)&&p.1) (T.BK&&p.2.1) e te p.2.2) else none
theorem im {st:St} {t0:TypeId} {len dst:Nat} {parts:Array (Nat×Operand)} (h:(parts.toList.all λp=>Wr (st.ev p.2))=true):
  Jt T st dst t0 len parts=(rowOf T t0 len (parts.toList.map λp=>(p.1,st.ev p.2)) dst).map λr=>(r.1,st.new dst r.2):=by
 unfold Jt rowOf
 cases eb T t0 with
 |some p=>
  obtain ⟨te,e⟩:=p
  simp only [Option.map_none]
  split
  ·rename_i x hp
   rw [hp,Jg,Ag] at h
   have hx:Wr (st.ev x)=true:=h.1
   unfold Wr at hx
   split at hx
   ·rename_i hv;simp only [hv]
   ·cases hx
  ·rfl
 |none=>
  simp only
  unfold Mx
  cases T.elem t0 with
  |none=>rfl
  |some te=>
   simp only
   cases T.ty te with
   |none=>rfl
   |some e=>
    simp only [Gh,Xp]
    split
    ·rw [dN _ 0 h]
     cases mg e 0 (parts.toList.map λp=>(p.1,st.ev p.2))<;>rfl
    ·rfl
theorem qE {t0:TypeId} {len dst:Nat} {parts:List (Nat×AV)} {r:AV×OB} (h:rowOf T t0 len parts dst=some r):sj dst r.1 r.2:=by
 unfold rowOf at h
 split at h
 ·cases h
 ·split at h
  ·cases h
  ·split at h
   ·cases h
   ·split at h
    ·rename_i e _ _
     cases hp:mg e 0 parts with
     |none=>rw [hp] at h;cases h
     |some p=>
      rw [hp] at h
      simp only [Ak,Aa] at h
      subst h
      exact ⟨λl hl=>by simpa [AV.refs,AC.refs] using hl,rfl,λl hl=>by simp only [AV.map,Ck];rw [Ai (Hr hl)],λl=>rfl⟩
    ·cases h
theorem CL {e:Nat} {t0:TypeId} {len:Nat} {parts:Array (Nat×Operand)} {ty:TypeId} {pos:String} {after:Array Edge} (_hl:sj d v b) (hn:Je d t) (hx: ∀p∈parts.toList,(Ka d v b t).ev p.2=t.ev p.2) (ed:e≠d)
  (hp:(parts.toList.all λp=>Wr (t.ev p.2))=true) (Jl:Je e (Ka d v b t)) {s':St} (he:Fa T Γ ops (Ka d v b t) {dst:=some e,op:= .buildSlice t0 len parts,type:=ty,pos:=pos,after:=after,guard:=none} =some s'):
  ∃t',Fa T Γ ops t {dst:=some e,op:= .buildSlice t0 len parts,type:=ty,pos:=pos,after:=after,guard:=none} =some t'/\s'=Ka d v b t'/\Je d t':=by
 have Ahv:=Jl.back ed hn
 have PF:(parts.toList.all λp=>Wr ((Ka d v b t).ev p.2))=true:=Bb.2 λp yS=>by rw [hx p yS];exact Bb.1 hp p yS
 have hm:(parts.toList.map λp=>(p.1,(Ka d v b t).ev p.2))=parts.toList.map λp=>(p.1,t.ev p.2):=Eu λp yS=>by rw [hx p yS]
 unfold Fa at he⊢
 simp only [evalOp] at he⊢
 rw [im PF,hm] at he
 rw [im hp]
 cases hr:rowOf T t0 len (parts.toList.map λp=>(p.1,t.ev p.2)) e with
 |none=>rw [hr] at he;cases he
 |some r=>
  rw [hr] at he
  have hL:=qE hr
  simp only [Ak,Aa] at he
  rw [Jl.new] at he
  refine ⟨Ka e r.1 r.2 t,by simp only [Ak];rw [Ahv.new],?_,hn.plus (Hr ed) (λh=>ed (hL.v1 _ h).symm) (by rw [hL.b1];simp)⟩
  rw [<-he,wU (Hr ed)]
def evC:Operand->AV
 | .const c=>mT c
 |_=> .undef
theorem Agt {st:St} {x:Operand} (h:Wr (evC x)=true):st.ev x=evC x:=by
 cases x<;>first|rfl|cases h
def eW (T:Tab) (o:Oper):Option (Nat×AV×OB):=match o.guard with
 |some _=>none
 |none=>match o.dst with
  |none=>none
  |some d=>match o.op with
   | .buildSlice t0 len parts=>if (parts.toList.all λp=>Wr (evC p.2))=true then (rowOf T t0 len (parts.toList.map λp=>(p.1,evC p.2)) d).map λr=>(d,r.1,r.2) else none
   | .makeMap t0 none=>match T.mapOf t0 with
    |some τ=>if d<Bl then some (d, .at (.Lb d), .Vx τ λ_=>none) else none
    |none=>none
   |_=>none
theorem eX {o:Oper} {r:Nat×AV×OB} (h:eW T o=some r):o.dst=some r.1/\sj r.1 r.2.1 r.2.2/\ ∀st:St,Je r.1 st->Fa T Γ ops st o=some (Ka r.1 r.2.1 r.2.2 st):=by
 obtain ⟨dst,op,ty,pos,after,guard⟩:=o
 unfold eW at h
 cases guard with
 |some g=>cases h
 |none=>
  cases dst with
  |none=>cases h
  |some d=>
   cases op with
   |buildSlice t0 len parts=>
    simp only at h
    split at h
    ·rename_i hp
     cases hr:rowOf T t0 len (parts.toList.map λp=>(p.1,evC p.2)) d with
     |none=>rw [hr] at h;cases h
     |some q=>
      rw [hr] at h
      simp only [Ak,Aa] at h
      subst h
      refine ⟨rfl,qE hr,λst Pj=>?_⟩
      have JO: ∀p∈parts.toList,st.ev p.2=evC p.2:= λp yS=>Agt (Bb.1 hp p yS)
      have hm:(parts.toList.map λp=>(p.1,st.ev p.2))=parts.toList.map λp=>(p.1,evC p.2):=Eu λp yS=>by rw [JO p yS]
      have PF:(parts.toList.all λp=>Wr (st.ev p.2))=true:=Bb.2 λp yS=>by rw [JO p yS];exact Bb.1 hp p yS
      unfold Fa
      simp only [evalOp]
      rw [im PF,hm,hr]
      simp only [Ak]
      rw [Pj.new]
    ·cases h
   |makeMap t0 hint=>
    cases hint with
    |some x=>cases h
    |none=>
     simp only at h
     split at h
     ·rename_i τ Ug
      split at h
      ·rename_i hd
       cases h
       refine ⟨rfl,⟨λl hl=>by simpa [AV.refs,AC.refs] using hl,rfl,λl hl=>by simp only [AV.map,Ck];rw [Ai (Hr hl)],λl=>rfl⟩,λst Pj=>?_⟩
       unfold Fa
       simp only [evalOp,Vf,Ug,Ab hd,Ak]
       rw [Pj.new]
      ·cases h
     ·cases h
   |_=>cases h
theorem zP {l:List Operand} (h: ∀x∈l,(Ka d v b t).ev x=t.ev x):(l.all λx=>((Ka d v b t).ev x).settled)=(l.map t.ev).all (·.settled):=by
 rw [List.all_map]
 induction l with
 |nil=>rfl
 |cons x r ih=>
  simp only [Jg,Function.comp]
  rw [h x (by simp),ih λy hy=>h y (by simp [hy])]
theorem zQ {o:Oper} (hl:sj d v b) (hn:Je d t) (hs:Ww Γ (Ka d v b t) o=true) (hu:(jD o).all (j7 d)=true) (ed:o.dst≠some d) {s':St} (he:Fa T Γ ops (Ka d v b t) o=some s'):
  ∃t',Fa T Γ ops t o=some t'/\s'=Ka d v b t'/\Je d t'/\Ww Γ t o=true:=by
 obtain ⟨dst,op,ty,pos,after,guard⟩:=o
 unfold Ww at hs
 cases guard with
 |some g=>cases hs
 |none=>
  simp only at hs
  split at hs
  ·rename_i x
   have hx:=Zr (v:=v) (b:=b) (t:=t) hu x (by simp [jD])
   obtain ⟨t',h1,h2,h3⟩:=KQ hn hx ed he
   exact ⟨t',h1,h2,h3,rfl⟩
  ·rename_i t0 x
   have hx:=Zr (v:=v) (b:=b) (t:=t) hu x (by simp [jD])
   rw [hx] at hs
   split at hs
   ·rename_i l i hp
    obtain ⟨t',h1,h2,h3⟩:=KL hn hx ed hp he
    exact ⟨t',h1,h2,h3,by simp only [Ww,hp]⟩
   ·cases hs
  ·rename_i f args tys
   rw [Ag] at hs
   obtain ⟨iR,rj⟩:=hs
   split at iR
   ·rename_i sp Pk
    have JO:=Zr (v:=v) (b:=b) (t:=t) (l:=args.toList) hu
    rw [zP JO] at rj
    obtain ⟨t',h1,h2,h3⟩:=IW Pk hn (RI hu) ed rj he
    refine ⟨t',h1,h2,h3,?_⟩
    simp only [Ww,Pk,Sx]
    rw [List.all_map] at rj
    exact rj
   ·cases iR
  ·rename_i t0 m k x
   have hm:=Zr (v:=v) (b:=b) (t:=t) hu m (by simp [jD])
   have hk:=Zr (v:=v) (b:=b) (t:=t) hu k (by simp [jD])
   have hx:=Zr (v:=v) (b:=b) (t:=t) hu x (by simp [jD])
   rw [hm,hk,hx] at hs
   have hs0:=hs
   rw [Ag] at hs
   obtain ⟨t',h1,h2,h3⟩:=yX hn hm hk hx ed hs.2 he
   exact ⟨t',h1,h2,h3,hs0⟩
  ·rename_i t0 len parts
   rw [Ag] at hs
   obtain ⟨iR,rj⟩:=hs
   cases dst with
   |none=>cases rj
   |some e=>
    simp only at rj
    have hed:e≠d:= λh=>ed (by rw [h])
    have fm:(parts.toList.map (λp=>p.2)).all (j7 d)=true:=hu
    have JO:=Zr (v:=v) (b:=b) (t:=t) fm
    have hx: ∀p∈parts.toList,(Ka d v b t).ev p.2=t.ev p.2:= λp hp=>JO p.2 (Bj.2 ⟨p,hp,rfl⟩)
    have hp:(parts.toList.all λp=>Wr (t.ev p.2))=true:=Bb.2 λp hp=>by rw [<-hx p hp];exact Bb.1 iR p hp
    have Jl:=tR rj
    obtain ⟨t',h1,h2,h3⟩:=CL hl hn hx hed hp Jl he
    refine ⟨t',h1,h2,h3,?_⟩
    simp only [Ww,hp,Sx]
    exact SZ (Jl.back hed hn)
  ·cases hs
def yf:List (Nat×AV×OB)->St->St->Prop
 | [],s,t=>s=t
 |q::Q,s,t=>Je q.1 t/\yf Q s (Ka q.1 q.2.1 q.2.2 t)
theorem xD {o:Oper} : ∀(Q:List (Nat×AV×OB)) (s t s':St),yf Q s t->(∀q∈Q,sj q.1 q.2.1 q.2.2/\(jD o).all (j7 q.1)=true/\o.dst≠some q.1)->Ww Γ s o=true->Fa T Γ ops s o=some s'->
  ∃t',Fa T Γ ops t o=some t'/\yf Q s' t'/\Ww Γ t o=true
 | [],s,t,s',h,_,hs,he=>by
  have h:s=t:=h
  subst h
  exact ⟨s',he,rfl,hs⟩
 |q::Q,s,t,s',⟨h1,h2⟩,hq,hs,he=>by
  obtain ⟨u',e1,e2,e3⟩:=xD Q s _ s' h2 (λp hp=>hq p (Ao _ hp)) hs he
  obtain ⟨l1,l2,l3⟩:=hq q (by simp)
  obtain ⟨t',f1,f2,f3,f4⟩:=zQ l1 h1 e3 l2 l3 e1
  exact ⟨t',f1,⟨f3,by rw [<-f2];exact e2⟩,f4⟩
theorem xE {q:Nat×AV×OB} : ∀(Q1:List (Nat×AV×OB)) {Q2:List (Nat×AV×OB)} {s t:St},yf (Q1++q::Q2) s t->(∀p∈Q1++q::Q2,sj p.1 p.2.1 p.2.2)->(∀p∈Q1,p.1≠q.1)->
  Je q.1 t/\yf (Q1++Q2) s (Ka q.1 q.2.1 q.2.2 t)
 | [],Q2,s,t,h,_,_=>h
 |p::Q1,Q2,s,t,⟨h1,h2⟩,hL,Jl=>by
  have hpq:=Jl p (by simp)
  have hLp:=hL p (by simp)
  have hLq:=hL q (by simp)
  obtain ⟨g1,g2⟩:=xE Q1 h2 (λr hr=>hL r (Ao _ hr)) λr hr=>Jl r (Ao _ hr)
  refine ⟨g1.back (Hr hpq) h1,h1.plus hpq (λh=>hpq (hLq.v1 _ h)) (by rw [hLq.b1];simp),?_⟩
  show yf (Q1++Q2) s (Ka p.1 p.2.1 p.2.2 (Ka q.1 q.2.1 q.2.2 t))
  rw [wU (Hr hpq)]
  exact g2
def mD (ops:Array Oper):Nat->Nat->Nat->Bool
 |0,_,_=>false
 |f+1,i,a=>Region.waitsFor .any ops i a||(List.range ops.size).any λk=>Region.waitsFor .any ops i k&&mD ops f k a
theorem ly {Ah:Array Bool} (hc:Ul ops Ah) {a:Nat} : ∀(f i:Nat),(∀x,Region.waitsFor .any ops i x=true->Ah.getD x false=true)->mD ops f i a=true->Ah.getD a false=true
 |0,_,_,h=>by cases h
 |f+1,i,hi,h=>by
  simp only [mD,Mi,Gd,Ag] at h
  rcases h with h|⟨k,_,h1,h2⟩
  ·exact hi a h
  ·exact ly hc f k (λx hx=>hc k x (hi k h1) hx) h2
def KU (P:List (Nat×Nat×AV×OB)) (Γ:Env) (ops:Array Oper) (st:St) (o:Oper) (i:Nat):Bool:=
 (P.all λa=>mD ops 5 i a.1)||(Ww Γ st o&&P.all λa=>mD ops 5 i a.1||((jD o).all (j7 a.2.1)&&(match o.dst with
  |some e=>!Nat.beq e a.2.1
  |none=>true)))
def Ago (T:Tab) (Γ:Env) (ops:Array Oper) (P:List (Nat×Nat×AV×OB)) (K:St->Prop):Nat->Array Bool->St->Prop
 |0,Ah,st=>Region.ready .any ops Ah= []/\K st
 |f+1,Ah,st=>Region.ready .any ops Ah≠ []/\ ∀i∈Region.ready .any ops Ah,∃o st',ops[i]?=some o/\KU P Γ ops st o i=true/\Fa T Γ ops st o=some st'/\Ago T Γ ops P K f (Ah.setIfInBounds i true) st'
structure VW (lc la:Array Bool) (Q:List Nat):Prop where
 size:la.size=lc.size
 off: ∀k∈Q,k<la.size/\la.getD k false=false/\lc.getD k false=true
 same: ∀k,k∉Q->la.getD k false=lc.getD k false
theorem VW.ready {lc la:Array Bool} {Q:List Nat} (h:VW lc la Q) {i:Nat} (hi:i∈Region.ready .any ops la) (hn:i∉Q):i∈Region.ready .any ops lc:=by
 obtain ⟨h1,o,ho,Jh⟩:=mem_ready.1 hi
 have Lr:i<la.size:=by
  rcases Nat.lt_or_ge i la.size with h'|h'
  ·exact h'
  ·simp [Array.getElem?_eq_none h'] at h1
 have h2:=getD_both h1
 rw [h.same i hn] at h2
 refine mem_ready.2 ⟨getD_in (by rw [<-h.size];exact Lr) h2,o,ho,λe he hb=>?_⟩
 have h3:=Jh e he hb
 by_cases hq:e.on∈Q
 ·exact (h.off _ hq).2.2
 ·rw [<-h.same _ hq];exact h3
theorem VW.nil {lc la:Array Bool} (h:VW lc la []):la=lc:=by
 refine Array.ext h.size λk h1 h2=>?_
 have:=h.same k (by simp)
 simpa [h1,h2] using this
theorem VW.one {lc la:Array Bool} {Q Q':List Nat} {i:Nat} (h:VW lc la Q) (hi:i∈Q) (hs: ∀k,k∈Q'↔k∈Q/\k≠i):VW lc (la.setIfInBounds i true) Q':=by
 refine ⟨by simp [h.size],λk hk=>?_,λk hk=>?_⟩
 ·obtain ⟨h1,h2⟩:=(hs k).1 hk
  obtain ⟨g1,g2,g3⟩:=h.off k h1
  exact ⟨by simpa using g1,by rw [getD_set_ne false (Hr h2)];exact g2,g3⟩
 ·by_cases e:i=k
  ·subst e
   obtain ⟨g1,g2,g3⟩:=h.off i hi
   rw [g3]
   simp [g1]
  ·rw [getD_set_ne false e]
   exact h.same k λhq=>hk ((hs k).2 ⟨hq,Hr e⟩)
theorem VW.both {lc la:Array Bool} {Q:List Nat} {i:Nat} (h:VW lc la Q) (hi:i∉Q):VW (lc.setIfInBounds i true) (la.setIfInBounds i true) Q:=by
 refine ⟨by simp [h.size],λk hk=>?_,λk hk=>?_⟩
 ·obtain ⟨g1,g2,g3⟩:=h.off k hk
  have Jl:i≠k:= λe=>hi (by rw [e];exact hk)
  exact ⟨by simpa using g1,by rw [getD_set_ne false Jl];exact g2,by rw [getD_set_ne false Jl];exact g3⟩
 ·by_cases e:i=k
  ·subst e
   have hs:=h.same i hi
   have hz:=h.size
   by_cases hl:i<la.size
   ·simp [hl,hz▸hl]
   ·have Mb: ¬i<lc.size:=by omega
    simp [hl,Mb]
  ·rw [getD_set_ne false e,getD_set_ne false e];exact h.same k hk
theorem KS {dst:Option Tmp} {d:Nat} (h:(match dst with
  |some e=>!Nat.beq e d
  |none=>true)=true):dst≠some d:= λe=>by
 subst e
 simp at h
theorem RG {P:List (Nat×Nat×AV×OB)} {K:St->Prop} (hP: ∀a∈P,∃o,ops[a.1]?=some o/\eW T o=some a.2):
  ∀(n f:Nat) (Q:List (Nat×Nat×AV×OB)) (lc la:Array Bool) (s t:St),n=f+Q.length->Ago T Γ ops P K f lc s->yf (Q.map (·.2)) s t->VW lc la (Q.map (·.1))->(∀a∈Q,a∈P)->
   (Q.Pairwise λa c=>a.2.1≠c.2.1/\a.1≠c.1)->Ul ops la->(∀a∈Q,∀x,Region.waitsFor .any ops a.1 x=true->la.getD x false=true)->anyS T Γ ops K n la t:=by
 intro n
 induction n with
 |zero=>
  intro f Q lc la s t hn hC hp hb hQ hpw Qo hw
  have hf:f=0:=by omega
  have hq:Q= []:=Ch (by omega)
  subst hf hq
  have hp:s=t:=hp
  subst hp
  rw [hb.nil]
  exact hC
 |succ n ih=>
  intro f Q lc la s t hn hC hp hb hQ hpw Qo hw
  refine ⟨?_,λi hi=>?_⟩
  ·cases Q with
   |nil=>
    rw [hb.nil]
    cases f with
    |zero=>simp at hn
    |succ f=>exact hC.1
   |cons a Q=>
    obtain ⟨o,ho,_⟩:=hP a (hQ a (by simp))
    obtain ⟨g1,g2,_⟩:=hb.off a.1 (by simp)
    have:a.1∈Region.ready .any ops la:=mem_ready.2 ⟨getD_in g1 g2,o,ho,λe he hbd=>hw a (by simp) e.on (by
     unfold Region.waitsFor
     rw [ho]
     exact Array.any_eq_true'.2 ⟨e,he,by simp [hbd]⟩)⟩
    intro e
    rw [e] at this
    cases this
  ·by_cases hiQ:i∈Q.map (·.1)
   ·obtain ⟨a,ha,rfl⟩:=Bj.1 hiQ
    obtain ⟨Q1,Q2,rfl⟩:=List.append_of_mem ha
    obtain ⟨o,ho,hal⟩:=hP a (hQ a ha)
    obtain ⟨_,_,Pj⟩:=eX (Γ:=Γ) (ops:=ops) hal
    have YK:=List.pairwise_append.1 hpw
    have Am3:=List.pairwise_cons.1 YK.2.1
    rw [Mj,Cc] at hp
    have hL: ∀p∈Q1.map (·.2)++a.2::Q2.map (·.2),sj p.1 p.2.1 p.2.2:= λp yS=>by
     have:p∈(Q1++a::Q2).map (·.2):=by rw [Mj,Cc];exact yS
     obtain ⟨c,hc,rfl⟩:=Bj.1 this
     obtain ⟨o',_,Aqu⟩:=hP c (hQ c hc)
     exact (eX (Γ:=Γ) (ops:=ops) Aqu).2.1
    obtain ⟨p1,p2⟩:=xE _ hp hL λp yS=>by
     obtain ⟨c,hc,rfl⟩:=Bj.1 yS
     exact (YK.2.2 c hc a (by simp)).1
    refine ⟨o,_,ho,Pj t p1,ih f (Q1++Q2) lc _ s _ ?_ hC (by rw [Mj];exact p2) (hb.one hiQ λk=>?_) (λc hc=>hQ c ?_) ?_ (Qo.set hi) λc hc x hx=>getD_set_true (hw c ?_ x hx)⟩
    ·simp only [Au,Aw] at hn⊢;omega
    ·simp only [Mj,Cc,Ay,Bg]
     constructor
     ·intro h
      rcases h with h|h
      ·obtain ⟨c,hc,rfl⟩:=Bj.1 h
       exact ⟨.inl h,(YK.2.2 c hc a (by simp)).2⟩
      ·obtain ⟨c,hc,rfl⟩:=Bj.1 h
       exact ⟨.inr (.inr h),Hr (Am3.1 c hc).2⟩
     ·rintro ⟨h|h|h,Jl⟩
      ·exact .inl h
      ·exact absurd h Jl
      ·exact .inr h
    ·rcases Ay.1 hc with hc|hc
     ·exact Bk _ hc
     ·exact Cf _ (Ao _ hc)
    ·exact List.pairwise_append.2 ⟨YK.1,Am3.2,λc hc e he=>YK.2.2 c hc e (Ao _ he)⟩
    ·rcases Ay.1 hc with hc|hc
     ·exact Bk _ hc
     ·exact Cf _ (Ao _ hc)
   ·have hic:=hb.ready hi hiQ
    cases f with
    |zero=>
     rw [hC.1] at hic
     cases hic
    |succ f=>
     obtain ⟨o,s',ho,bM,he,gy⟩:=hC.2 i hic
     have Adl: ∀a∈Q,mD ops 5 i a.1=false:= λa ha=>by
      cases hwt:mD ops 5 i a.1 with
      |false=>rfl
      |true=>
       have h1:=ly Qo _ i (λx hx=>cR hi hx) hwt
       rw [(hb.off a.1 (Bj.2 ⟨a,ha,rfl⟩)).2.1] at h1
       cases h1
     have key: ∃t',Fa T Γ ops t o=some t'/\yf (Q.map (·.2)) s' t':=by
      unfold KU at bM
      rw [Mi,Ag] at bM
      rcases bM with bM|⟨h1,h2⟩
      ·cases Q with
       |nil=>
        have hp:s=t:=hp
        subst hp
        exact ⟨s',he,rfl⟩
       |cons a Q=>
        have:=Bb.1 bM a (hQ a (by simp))
        rw [Adl a (by simp)] at this
        cases this
      ·obtain ⟨t',g1,g2,_⟩:=xD (T:=T) (ops:=ops) _ s t s' hp (λq hq=>by
        obtain ⟨a,ha,rfl⟩:=Bj.1 hq
        obtain ⟨o',_,hal⟩:=hP a (hQ a ha)
        have h3:=Bb.1 h2 a (hQ a ha)
        rw [Adl a ha,Sw,Ag] at h3
        exact ⟨(eX (Γ:=Γ) (ops:=ops) hal).2.1,h3.1,KS h3.2⟩) h1 he
       exact ⟨t',g1,g2⟩
     obtain ⟨t',g1,g2⟩:=key
     exact ⟨o,t',ho,g1,ih f Q _ _ s' t' (by omega) gy g2 (hb.both hiQ) hQ hpw (Qo.set hi) λc hc x hx=>getD_set_true (hw c hc x hx)⟩
def Zq (T:Tab) (ops:Array Oper) (Ah:Array Bool):List (Nat×Nat×AV×OB):=(Region.ready .any ops Ah).filterMap λi=>((ops[i]?).bind (eW T)).map λr=>(i,r)
theorem yl {Ah:Array Bool} {a:Nat×Nat×AV×OB} (h:a∈Zq T ops Ah):a.1∈Region.ready .any ops Ah/\ ∃o,ops[a.1]?=some o/\eW T o=some a.2:=by
 unfold Zq at h
 obtain ⟨i,hi,he⟩:=List.mem_filterMap.1 h
 cases ho:ops[i]? with
 |none=>rw [ho] at he;cases he
 |some o=>
  rw [ho] at he
  simp only [Fo,Option.map_eq_some_iff] at he
  obtain ⟨r,h1,rfl⟩:=he
  exact ⟨hi,o,ho,h1⟩
theorem Acr {Ah:Array Bool} {Q:List Nat} (h: ∀i∈Q,i∈Region.ready .any ops Ah):VW (Ek Q Ah) Ah Q:=by
 have hr: ∀i∈Q,i<Ah.size/\Ah.getD i false=false:= λi hi=>by
  have h1:=(mem_ready.1 (h i hi)).1
  refine ⟨?_,getD_both h1⟩
  rcases Nat.lt_or_ge i Ah.size with h'|h'
  ·exact h'
  ·simp [Array.getElem?_eq_none h'] at h1
 exact ⟨(Wn Q Ah).symm,λk hk=>⟨(hr k hk).1,(hr k hk).2,fu Q Ah k hk (hr k hk).1⟩,λk hk=>(dv Q Ah k hk).symm⟩
theorem FY: ∀(Q:List (Nat×Nat×AV×OB)) (t s:St),(∀a∈Q,∃o,ops[a.1]?=some o/\eW T o=some a.2)->(∀a∈Q,Je a.2.1 t)->(Q.Pairwise λa c=>a.2.1≠c.2.1)->Nh T Γ ops (Q.map (·.1)) t=some s->yf (Q.map (·.2)) s t
 | [],t,s,_,_,_,h=>by
  have h:some t=some s:=h
  exact (Az h).symm
 |a::Q,t,s,hQ,hn,hp,h=>by
  obtain ⟨o,ho,hal⟩:=hQ a (by simp)
  obtain ⟨_,hL,Pj⟩:=eX (Γ:=Γ) (ops:=ops) hal
  obtain ⟨tj,PH⟩:=List.pairwise_cons.1 hp
  simp only [Cc,Nh,ho] at h
  rw [Pj t (hn a (by simp))] at h
  refine ⟨hn a (by simp),FY Q _ s (λc hc=>hQ c (Ao _ hc)) (λc hc=>?_) PH h⟩
  exact (hn c (Ao _ hc)).plus (Hr (tj c hc)) (λh=>tj c hc (hL.v1 _ h).symm) (by rw [hL.b1];simp)
end
end Go.Proofs.YtkkdpknjohcekaaGreat
