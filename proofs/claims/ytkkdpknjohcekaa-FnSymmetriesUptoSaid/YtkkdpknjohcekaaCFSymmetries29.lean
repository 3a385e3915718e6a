/-
  Part 30 of the proof that the statement FnSymmetries holds.
-/
import Derived.Test.YtkkdpknjohcekaaCFSymmetries28
namespace Go.Proofs.Ytkkdpknjohcekaa
open Go.RowKit
def Iq (d:Nat) (v:AV) (b:OB) (st:St):St:= {tmps:=Rr st.tmps d v,heap:=Nu st.heap d b}
def mJ (d:Nat) (st:St):Bool:=(st.get d).refs.isEmpty&&((st.tmps.all λv=>!v.refs.contains d)&&st.heap.all λp=>!Nat.beq p.1 d&&!p.2.refs.contains d)
structure Hv (d:Nat) (st:St):Prop where
 own:(st.get d).refs= []
 tmps: ∀v∈st.tmps,d∉v.refs
 heap: ∀p∈st.heap,p.1≠d/\d∉p.2.refs
theorem qu {d:Nat} {st:St} (h:mJ d st=true):Hv d st:=by
 unfold mJ at h
 rw [Ag,Ag,Ax,Ax] at h
 obtain ⟨h0,h⟩:=h
 refine ⟨List.isEmpty_iff.1 h0,λv hv=>?_,λp hp=>?_⟩
 ·have:=h.1 v hv
  intro hd
  rw [Iz.2 hd] at this
  cases this
 ·have:=h.2 p hp
  rw [Ag] at this
  refine ⟨λe=>?_,λhd=>?_⟩
  ·have h1:=this.1
   rw [e,Nat.beq_refl] at h1
   cases h1
  ·have h1:=this.2
   rw [Iz.2 hd] at h1
   cases h1
theorem JR {d:Nat} {st:St} (h:Hv d st):mJ d st=true:=by
 unfold mJ
 rw [Ag,Ag,Ax,Ax]
 refine ⟨by rw [h.own];rfl,λv hv=>?_,λp hp=>?_⟩
 ·rw [Eg,<-Gw,Iz];exact h.tmps v hv
 ·rw [Ag]
  refine ⟨?_,?_⟩
  ·rw [Eg,<-Gw]
   exact λe=>(h.heap p hp).1 (Ja e)
  ·rw [Eg,<-Gw,Iz];exact (h.heap p hp).2
structure p7 (d:Nat) (v:AV) (b:OB):Prop where
 v1: ∀l,l∈v.refs->l=d
 b1:b.refs= []
 v2: ∀l,l≠d->v.map (Cg l)=v
 b2: ∀l,b.map (Cg l)=b
theorem cp {α:Type} : ∀(xs:List α) (d t:Nat) (v x:α),d≠t->(Rr xs d v).getD t x=xs.getD t x
 | [],_,_,_,_,_=>rfl
 |y::r,0,0,_,_,h=>absurd rfl h
 |y::r,0,t+1,_,_,_=>by simp [Rr]
 |y::r,d+1,0,_,_,_=>by simp [Rr]
 |y::r,d+1,t+1,v,x,h=>by simpa [Rr] using cp r d t v x (by omega)
theorem mY {α:Type} : ∀(xs:List α) (d e:Nat) (v w:α),d≠e->Rr (Rr xs d v) e w=Rr (Rr xs e w) d v
 | [],_,_,_,_,_=>rfl
 |y::r,0,0,_,_,h=>absurd rfl h
 |y::r,0,e+1,_,_,_=>rfl
 |y::r,d+1,0,_,_,_=>rfl
 |y::r,d+1,e+1,v,w,h=>by simp only [Rr];rw [mY r d e v w (by omega)]
theorem tE: ∀(H:List (Nat×OB)) (d l:Nat) (b:OB),d≠l->As (Nu H d b) l=As H l
 | [],d,l,b,h=>by simp [Nu,As,h]
 |(k,c)::r,d,l,b,h=>by
  simp only [Nu]
  split
  ·simp only [As];rw [Ai h]
  ·simp only [As]
   split
   ·rfl
   ·exact tE r d l b h
theorem tO: ∀(H:List (Nat×OB)) (d e:Nat) (b c:OB),d≠e->Nu (Nu H d b) e c=Nu (Nu H e c) d b
 | [],d,e,b,c,h=>by
  simp only [Nu]
  by_cases h1:e<d
  ·rw [Ab h1,Ai (by omega)]
  ·rw [Ai h1,Ab (by omega)]
 |(k,a)::r,d,e,b,c,h=>by
  simp only [Nu]
  by_cases h1:d<k<;>by_cases h2:e<k
  ·rw [Ab h1,Ab h2]
   simp only [Nu]
   by_cases h3:e<d
   ·rw [Ab h3,Ai (by omega),Ab h1]
   ·rw [Ai h3,Ab h2,Ab (by omega)]
  ·rw [Ab h1,Ai h2]
   simp only [Nu]
   rw [Ai (by omega),Ai h2,Ab h1]
  ·rw [Ai h1,Ab h2]
   simp only [Nu]
   rw [Ab h2,Ai (by omega),Ai h1]
  ·rw [Ai h1,Ai h2]
   simp only [Nu]
   rw [Ai h1,Ai h2,tO r d e b c h]
theorem uw: ∀(H:List (Nat×OB)) (d l:Nat) (b c:OB),d≠l->Yr (Nu H d b) l c=Nu (Yr H l c) d b
 | [],d,l,b,c,h=>by simp [Nu,Yr,h]
 |(k,a)::r,d,l,b,c,h=>by
  simp only [Nu,Yr]
  by_cases h1:d<k<;>by_cases h2:k=l
  ·rw [Ab h1,Ab h2]
   simp only [Yr,Nu]
   rw [Ai h,Ab h2,Ab h1]
  ·rw [Ab h1,Ai h2]
   simp only [Yr,Nu]
   rw [Ai h,Ai h2,Ab h1]
  ·rw [Ai h1,Ab h2]
   simp only [Yr,Nu]
   rw [Ab h2,Ai h1]
  ·rw [Ai h1,Ai h2]
   simp only [Yr,Nu]
   rw [Ai h2,Ai h1,uw r d l b c h]
theorem nE {l:Nat} : ∀ {c:AC},l∉c.refs->Cg l c=c:=by
 intro c h
 cases c<;>simp only [Cg]<;>simp only [AC.refs,Ae] at h
 case clo f Eb=>rw [Ai (by simpa using h)]
 all_goals (first|rfl|rw [Ai (Gl h)])
theorem Zm {l:Nat} : ∀ {cs:List AC},l∉cs.flatMap AC.refs->cs.map (Cg l)=cs
 | [],_=>rfl
 |c::r,h=>by
  rw [Ku,Az] at h
  rw [Bw,nE (λhh=>h (.inl hh)),Zm (λhh=>h (.inr hh))]
theorem yw {l:Nat} : ∀ {v:AV},l∉v.refs->v.map (Cg l)=v
 | .at a,h=>by simp only [AV.map];rw [nE h]
 | .agg cs,h=>by simp only [AV.map];rw [Zm h]
 | .aa _ _ _,_=>rfl
 | .Mh ps,h=>by
  simp only [AV.map]
  congr 1
  simp only [AV.refs] at h
  induction ps with
  |nil=>rfl
  |cons p r ih=>
   rw [Ku,Az] at h
   rw [Bw,Zm (λhh=>h (.inl hh)),ih (λhh=>h (.inr hh))]
theorem yx {l:Nat} : ∀ {b:OB},l∉b.refs->b.map (Cg l)=b
 | .arr _ _ _ _ _,_=>rfl
 | .Gg _ _ _,_=>rfl
 | .var _ vs,h=>by simp only [OB.map];rw [Zm h]
 | .Bj _ _ _ _ _,_=>rfl
 | .Ul _ _,_=>rfl
theorem yg {l:Nat} : ∀ {H:List (Nat×OB)},(∀p∈H,p.1≠l)->Yy H l=H
 | [],_=>rfl
 |(k,b)::r,h=>by
  simp only [Yy]
  rw [Ai (h (k,b) (by simp)),yg λp hp=>h p (by simp [hp])]
theorem Hv.forget {l:Nat} {st:St} (h:Hv l st):st.forget l=st:=by
 have e1:st.tmps.map (λv=>v.map (Cg l))=st.tmps:=(Hq λv hv=>yw (h.tmps v hv)).trans (List.map_id _)
 have e2:st.heap.map (λp=>(p.1,p.2.map (Cg l)))=st.heap:=(Hq λp hp=>by rw [yx (h.heap p hp).2];rfl).trans (List.map_id _)
 unfold St.forget St.Kr
 simp only [e1,e2]
 rw [yg λp hp=>(h.heap p hp).1]
theorem Hv.new {l:Nat} {st:St} (h:Hv l st) (b:OB) (v:AV):(st.new l b).put (some l) v=Iq l v b st:=by
 unfold St.new
 rw [h.forget]
 rfl
theorem qn {α:Type} : ∀ {xs:List α} {d:Nat} {v x:α},x∈Rr xs d v->x∈xs\/x=v
 | [],_,_,_,h=>by cases h
 |y::r,0,v,x,h=>by
  rcases Ba.1 h with h|h
  ·exact .inr h
  ·exact .inl (Am _ h)
 |y::r,d+1,v,x,h=>by
  rcases Ba.1 h with h|h
  ·exact .inl (by rw [h];simp)
  ·exact (qn h).imp (Am _) id
theorem z9: ∀ {H:List (Nat×OB)} {d:Nat} {b:OB} {p:Nat×OB},p∈Nu H d b->p∈H\/p=(d,b)
 | [],d,b,p,h=> .inr (by simpa [Nu] using h)
 |(k,c)::r,d,b,p,h=>by
  simp only [Nu] at h
  split at h
  ·rcases Ba.1 h with h|h
   ·exact .inr h
   ·exact .inl h
  ·rcases Ba.1 h with h|h
   ·exact .inl (by rw [h];simp)
   ·exact (z9 h).imp (Am _) id
theorem TK {d:Nat} {v:AV} {b:OB} {st:St} {x:Operand} (h:x≠ .tmp d):(Iq d v b st).ev x=st.ev x:=by
 cases x with
 |tmp t=>exact cp _ _ _ _ _ (λe=>h (by rw [e]))
 |_=>rfl
theorem FY {d l:Nat} {v:AV} {b:OB} {st:St} (h:d≠l):(Iq d v b st).at l=st.at l:=tE _ _ _ _ h
theorem MY {d e:Nat} {v u:AV} {b:OB} {st:St} (h:d≠e):(Iq d v b st).put (some e) u=Iq d v b (st.put (some e) u):=by
 unfold Iq St.put
 simp only
 rw [mY _ _ _ _ _ h]
theorem HZ {d l:Nat} {v:AV} {b c:OB} {st:St} (h:d≠l):(Iq d v b st).Jm l c=Iq d v b (st.Jm l c):=by
 unfold Iq St.Jm
 simp only
 rw [uw _ _ _ _ _ h]
theorem tb {d e:Nat} {v u:AV} {b c:OB} {st:St} (h:d≠e):Iq e u c (Iq d v b st)=Iq d v b (Iq e u c st):=by
 unfold Iq
 rw [mY _ _ _ _ _ h,tO _ _ _ _ _ h]
theorem Hv.put {d:Nat} {st:St} {e:Nat} {u:AV} (h:Hv d st) (hde:e≠d) (hu:d∉u.refs):Hv d (st.put (some e) u):=
 ⟨by show (List.getD (Rr st.tmps e u) d .undef).refs= [];rw [cp _ _ _ _ _ hde];exact h.own,λv hv=>(qn hv).elim (h.tmps v) λe=>by rw [e];exact hu,h.heap⟩
theorem Hv.plus {d e:Nat} {u:AV} {c:OB} {st:St} (h:Hv d st) (hde:d≠e) (hu:d∉u.refs) (hc:d∉c.refs):Hv d (Iq e u c st):=
 ⟨by show (List.getD (Rr st.tmps e u) d .undef).refs= [];rw [cp _ _ _ _ _ (Gl hde)];exact h.own,λv hv=>(qn hv).elim (h.tmps v) λe=>by rw [e];exact hu,λp hp=>(z9 hp).elim (h.heap p) λe'=>by rw [e'];exact ⟨Gl hde,hc⟩⟩
theorem Hv.Aad {d e:Nat} {u:AV} {c:OB} {st:St} (h:Hv d (Iq e u c st)): ∀p∈st.heap,p.1≠d/\d∉p.2.refs:= λp hp=>h.heap p (by
 show p∈Nu st.heap e c
 generalize st.heap=H at hp
 induction H with
 |nil=>cases hp
 |cons q r ih=>
  obtain ⟨k,a⟩:=q
  simp only [Nu]
  split
  ·exact Am _ hp
  ·rcases Ba.1 hp with hp|hp
   ·rw [hp];simp
   ·exact Am _ (ih hp))
theorem oH {st st':St} : ∀(τ:Ty) (cs:List AC),cs.all (·.settled)=true->Eo st' τ cs=Eo st τ cs:=by
 intro τ
 induction τ with
 |unit=>intro cs _;cases cs<;>rfl
 |pair a r eZ eV=>
  intro cs h
  simp only [Eo]
  rw [Ax] at h
  rw [eZ _ (Ax.2 λc hc=>h c (Ma hc)),eV _ (Ax.2 λc hc=>h c (bZ hc))]
 |_=>
  intro cs h
  rcases cs with _|⟨c,_|⟨c',cs⟩⟩
  ·rfl
  ·simp only [Iv,List.all_nil,Bool.and_true] at h
   simp only [Eo]
   exact Zs h
  ·rfl
theorem ed {st st':St} {τ:Ty} {v:AV} (h:v.settled=true):Ez st' τ v=Ez st τ v:=by
 cases v with
 | «at»a=>
  have ha:a.settled=true:=h
  cases a<;>simp only [AC.settled,Cy] at ha
  all_goals
   simp only [Ez]
   rw [Px rfl,Px rfl]
   rw [Zs (st:=st) (st':=st') rfl]
 |agg cs=>simp only [Ez];rw [oH _ _ h]
 |aa _ _ _=>rfl
 |Mh _=>rfl
theorem gL {st st':St} : ∀(τ:Ty) (vs:List AV),vs.all (·.settled)=true->Dr st' τ vs=Dr st τ vs
 | .pair a r,v::vs,h=>by
  rw [Iv,Ag] at h
  simp only [Dr]
  rw [ed (st:=st) (st':=st') h.1,gL r vs h.2]
 | .pair _ _,[],_=>rfl
 | .unit,[],_=>rfl
 | .unit,_::_,_=>rfl
 | .int _,vs,_=>by cases vs<;>rfl
 | .bool,vs,_=>by cases vs<;>rfl
 | .str,vs,_=>by cases vs<;>rfl
 | .slice _,vs,_=>by cases vs<;>rfl
 | .oslice _,vs,_=>by cases vs<;>rfl
 | .ptr _,vs,_=>by cases vs<;>rfl
 | .optr _,vs,_=>by cases vs<;>rfl
 | .smap _,vs,_=>by cases vs<;>rfl
 | .clo _ _,vs,_=>by cases vs<;>rfl
def Vi:AV->Bool
 | .at (.data _ _ _)=>true
 |_=>false
def gJ (o:Oper):List Operand:=match o.op with
 | .move x=> [x]
 | .load _ x=> [x]
 | .call {callee:= .value (.func _),args, .. } =>args.toList
 | .insert _ m k x=> [m,k,x]
 | .buildSlice _ _ parts=>parts.toList.map (·.2)
 |_=> []
def gi (d:Nat):Operand->Bool
 | .tmp t=>!Nat.beq t d
 |_=>true
theorem JS {d:Nat} {x:Operand} (h:gi d x=true):x≠ .tmp d:= λe=>by
 subst e
 simp [gi] at h
def Vn (Γ:Env) (st:St) (o:Oper):Bool:=match o.guard with
 |some _=>false
 |none=>match o.op with
  | .move _=>true
  | .load _ x=>(match st.ev x with
   | .at (.Gr _ _)=>true
   |_=>false)
  | .call {callee:= .value (.func f),args, .. } =>(match Γ f with
   |some (.q _)=>true
   |_=>false)&&args.toList.all λx=>(st.ev x).settled
  | .insert _ m k x=>(match st.ev m with
   | .at (.Ka _)=>true
   |_=>false)&&Vi (st.ev k)&&(st.ev x).settled
  | .buildSlice _ _ parts=>(parts.toList.all λp=>Vi (st.ev p.2))&&(match o.dst with
   |some e=>mJ e st
   |none=>false)
  |_=>false
theorem Hv.ev {d:Nat} {st:St} (h:Hv d st) (x:Operand):d∉(st.ev x).refs:=by
 cases x with
 |tmp t=>
  simp only [St.ev,St.get]
  rw [Al]
  by_cases hl:t<st.tmps.length
  ·rw [Ac hl];exact h.tmps _ (Ak hl)
  ·rw [Er (Nat.le_of_not_lt hl)];simp [AV.refs,AC.refs]
 |const c=>
  simp only [St.ev]
  unfold kF
  split<;>simp [AV.refs,AC.refs]
 |func f=>simp [St.ev,AV.refs,AC.refs]
 |_=>simp [St.ev,AV.refs,AC.refs]
theorem yC: ∀ {H:List (Nat×OB)} {l:Nat} {b:OB},As H l=some b->(l,b)∈H
 |(k,c)::r,l,b,h=>by
  simp only [As] at h
  split at h
  ·rename_i e;subst e;cases h;simp
  ·exact Am _ (yC h)
section
variable {T:Tab} {Γ:Env} {ops:Array Oper} {d:Nat} {v:AV} {b:OB} {t:St}
theorem uf {e:Option Tmp} (h:e≠some d) (hn:Hv d t) {y:AV} (hy:d∉y.refs):(Iq d v b t).put e y=Iq d v b (t.put e y)/\Hv d (t.put e y):=by
 cases e with
 |none=>exact ⟨rfl,hn⟩
 |some k=>exact ⟨MY (λe=>h (by rw [e])),hn.put (λe=>h (by rw [e])) hy⟩
theorem gq {o:Oper} (hg:o.guard=none) (ct:o.dst≠some d) (hn:Hv d t) {q:Option AV} (h1:evalOp T Γ (Iq d v b t) o=q.map λy=>(y,Iq d v b t)) (h2:evalOp T Γ t o=q.map λy=>(y,t)) (hq: ∀y,q=some y->d∉y.refs) {s':St}
  (he:Em T Γ ops (Iq d v b t) o=some s'): ∃t',Em T Γ ops t o=some t'/\s'=Iq d v b t'/\Hv d t':=by
 unfold Em at he⊢
 rw [hg] at he⊢
 simp only at he⊢
 rw [h1] at he
 cases q with
 |none=>cases he
 |some y=>
  obtain ⟨p1,p2⟩:=uf (v:=v) (b:=b) ct hn (hq y rfl)
  refine ⟨_,by rw [h2];rfl,?_,p2⟩
  simp only [Ah,Aa] at he
  rw [<-he,p1]
theorem Xv {l:List Operand} (hu:l.all (gi d)=true): ∀x∈l,(Iq d v b t).ev x=t.ev x:= λx hx=>TK (JS (Ax.1 hu x hx))
theorem DD {dst:Option Tmp} {x:Operand} {ty:TypeId} {pos:String} {after:Array Edge} (hn:Hv d t) (hx:(Iq d v b t).ev x=t.ev x) (ct:dst≠some d) {s':St}
  (he:Em T Γ ops (Iq d v b t) {dst:=dst,op:= .move x,type:=ty,pos:=pos,after:=after,guard:=none} =some s'):
  ∃t',Em T Γ ops t {dst:=dst,op:= .move x,type:=ty,pos:=pos,after:=after,guard:=none} =some t'/\s'=Iq d v b t'/\Hv d t':=
 gq rfl ct hn (q:=some (t.ev x)) (by simp only [evalOp,Ep,hx]) (by simp only [evalOp,Ep]) (λy hy=>by cases hy;exact hn.ev x) he
def loadVar (T:Tab) (o:Option OB) (t0:TypeId) (i:Nat):Option AV:=match T.ty t0 with
 |some τ=>(match o with
  |some (.var _ vs)=>if τ.Ap then (if i+τ.size<=vs.length then some (.agg ((vs.drop i).take τ.size)) else none) else vs[i]?.map .at
  |_=>none)
 |none=>none
theorem iI {st:St} {t0:TypeId} {l i:Nat} :Po T st t0 (.at (.Gr l i))=loadVar T (st.at l) t0 i:=by
 unfold Po loadVar
 cases T.ty t0<;>rfl
theorem DA {dst:Option Tmp} {t0:TypeId} {x:Operand} {ty:TypeId} {pos:String} {after:Array Edge} (hn:Hv d t) (hx:(Iq d v b t).ev x=t.ev x) (ct:dst≠some d) {l i:Nat} (hp:t.ev x= .at (.Gr l i)) {s':St}
  (he:Em T Γ ops (Iq d v b t) {dst:=dst,op:= .load t0 x,type:=ty,pos:=pos,after:=after,guard:=none} =some s'):
  ∃t',Em T Γ ops t {dst:=dst,op:= .load t0 x,type:=ty,pos:=pos,after:=after,guard:=none} =some t'/\s'=Iq d v b t'/\Hv d t':=by
 have hld:d≠l:= λe=>by
  have:=hn.ev x
  rw [hp,e] at this
  exact this (by simp [AV.refs,AC.refs])
 refine gq rfl ct hn (q:=loadVar T (t.at l) t0 i) ?_ ?_ (λy hy=>?_) he
 ·simp only [evalOp,Ep,hx,hp]
  rw [iI,FY hld]
 ·simp only [evalOp,Ep,hp]
  rw [iI]
 ·unfold loadVar at hy
  split at hy
  ·split at hy
   ·rename_i vs hb
    have hr:d∉vs.flatMap AC.refs:=(hn.heap _ (yC hb)).2
    have ix: ∀c∈vs,d∉c.refs:= λc hc hd=>hr (Kh.2 ⟨c,hc,hd⟩)
    split at hy
    ·split at hy
     ·cases hy
      intro hd
      obtain ⟨c,hc,hd⟩:=Kh.1 hd
      exact ix c (bZ (Ma hc)) hd
     ·cases hy
    ·cases hv:vs[i]? with
     |none=>rw [hv] at hy;cases hy
     |some c=>
      rw [hv] at hy
      cases hy
      exact ix c (Bz hv)
   ·cases hy
  ·cases hy
theorem IC {l:List Operand} (hu:l.all (gi d)=true):l.map (Iq d v b t).ev=l.map t.ev:=Hq λx hx=>Xv hu x hx
theorem BM {dst:Option Tmp} {f:FuncId} {args:Array Operand} {tys:Array TypeId} {ty:TypeId} {pos:String} {after:Array Edge} {sp:Spec} (Of:Γ f=some (.q sp)) (hn:Hv d t) (hx:args.toList.map (Iq d v b t).ev=args.toList.map t.ev) (ct:dst≠some d)
  (hs:(args.toList.map t.ev).all (·.settled)=true) {s':St} (he:Em T Γ ops (Iq d v b t) {dst:=dst,op:= .call {callee:= .value (.func f),args:=args,argTypes:=tys},type:=ty,pos:=pos,after:=after,guard:=none} =some s'):
  ∃t',Em T Γ ops t {dst:=dst,op:= .call {callee:= .value (.func f),args:=args,argTypes:=tys},type:=ty,pos:=pos,after:=after,guard:=none} =some t'/\s'=Iq d v b t'/\Hv d t':=by
 have GU:dy sp (args.toList.map t.ev)=false:=by unfold dy;rw [hs];simp
 have CG: ∀st:St,Od Γ st f (args.toList.map t.ev)=(match Dr t sp.arg (args.toList.map t.ev) with
   |none=>none
   |some (_,x)=>(sp.fn x).map λy=>if sp.Hc then .aa (sp.fresh||sp.res.flat) sp.res y else .at (.data (sp.fresh||sp.res.flat) sp.res y)):= λst=>by
  unfold Od
  rw [Of]
  simp only
  rw [hs,gL (st:=t) _ _ hs]
  simp only [Bool.or_true,Qf]
  cases Dr t sp.arg (args.toList.map t.ev)<;>rfl
 refine gq rfl ct hn (q:=Od Γ t f (args.toList.map t.ev)) ?_ ?_ (λy hy=>?_) he
 ·simp only [evalOp,Ep,Of,hx,GU]
  rw [CG,CG t]
  simp
 ·simp only [evalOp,Ep,Of,GU]
  simp
 ·rw [CG t] at hy
  split at hy
  ·cases hy
  ·rename_i x _
   cases hf:sp.fn x with
   |none=>rw [hf] at hy;cases hy
   |some z=>
    rw [hf] at hy
    simp only [Ah,Aa] at hy
    rw [<-hy]
    split<;>simp [AV.refs,AC.refs]
def lx (T:Tab) (o:Option OB) (t0:TypeId) (s:ByteArray) (vw:(v:Ty)->Option (Bool×v.den)):Option OB:=match T.mapOf t0 with
 |some v=>(match o,vw v with
  |some (.Ul v' f),some (_,y)=>if h:v'=v/\v.flat=true/\v.Ap=false then some (.Ul v (sM (h.1▸f:ByteArray->Option v.den) s y)) else none
  |_,_=>none)
 |none=>none
theorem iJ {st:St} {t0:TypeId} {l:Nat} {fr:Bool} {s:ByteArray} {x:AV} :Ik T st t0 (.at (.Ka l)) (.at (.data fr .str s)) x=(lx T (st.at l) t0 s λv=>Ez st v x).map λc=>st.Jm l c:=by
 unfold Ik lx
 cases T.mapOf t0 with
 |none=>rfl
 |some v0=>
  simp only
  cases st.at l with
  |none=>rfl
  |some c=>
   cases c with
   |Ul v' f=>
    cases Ez st v0 x with
    |none=>rfl
    |some p=>
     simp only
     split<;>rfl
   |_=>rfl
theorem z7 {o:Option OB} {t0:TypeId} {s:ByteArray} {vw:(v:Ty)->Option (Bool×v.den)} {c:OB} (h:lx T o t0 s vw=some c):c.refs= []:=by
 unfold lx at h
 split at h
 ·split at h
  ·split at h
   ·cases h;rfl
   ·cases h
  ·cases h
 ·cases h
theorem pK {st:St} {t0:TypeId} {m k x:AV} {s':St} (h:Ik T st t0 m k x=some s'): ∃l fr s,m= .at (.Ka l)/\k= .at (.data fr .str s):=by
 unfold Ik at h
 split at h
 ·exact ⟨_,_,_,rfl,rfl⟩
 ·cases h
theorem za: ∀ {H:List (Nat×OB)} {l:Nat} {c:OB} {p:Nat×OB},p∈Yr H l c->p∈H\/(p.2=c/\p.1=l/\ ∃c',(l,c')∈H)
 |(k,a)::r,l,c,p,h=>by
  simp only [Yr] at h
  split at h
  ·rename_i e
   rcases Ba.1 h with h|h
   ·subst h;exact .inr ⟨rfl,e,a,by rw [e];simp⟩
   ·exact .inl (Am _ h)
  ·rcases Ba.1 h with h|h
   ·exact .inl (by rw [h];simp)
   ·exact (za h).imp (Am _) λ⟨h1,h2,c',h3⟩=>⟨h1,h2,c',Am _ h3⟩
theorem Hv.Jm {st:St} {l:Nat} {c:OB} (h:Hv d st) (hc:d∉c.refs):Hv d (st.Jm l c):=
 ⟨h.own,h.tmps,λp hp=>(za hp).elim (h.heap p) λ⟨h1,h2,c',h3⟩=>⟨by rw [h2];exact (h.heap _ h3).1,by rw [h1];exact hc⟩⟩
theorem vM {dst:Option Tmp} {t0:TypeId} {m k x:Operand} {ty:TypeId} {pos:String} {after:Array Edge} (hn:Hv d t) (hm:(Iq d v b t).ev m=t.ev m) (hk:(Iq d v b t).ev k=t.ev k) (hx:(Iq d v b t).ev x=t.ev x) (ct:dst≠some d)
  (hs:(t.ev x).settled=true) {s':St} (he:Em T Γ ops (Iq d v b t) {dst:=dst,op:= .insert t0 m k x,type:=ty,pos:=pos,after:=after,guard:=none} =some s'):
  ∃t',Em T Γ ops t {dst:=dst,op:= .insert t0 m k x,type:=ty,pos:=pos,after:=after,guard:=none} =some t'/\s'=Iq d v b t'/\Hv d t':=by
 unfold Em at he⊢
 simp only [evalOp,hm,hk,hx] at he⊢
 cases TE:Ik T (Iq d v b t) t0 (t.ev m) (t.ev k) (t.ev x) with
 |none=>rw [TE] at he;cases he
 |some s1=>
  rw [TE] at he
  simp only [Ah,Aa] at he
  obtain ⟨l,fr,s,e1,e2⟩:=pK TE
  have hld:d≠l:= λe=>by
   have:=hn.ev m
   rw [e1,e] at this
   exact this (by simp [AV.refs,AC.refs])
  rw [e1,e2,iJ,FY hld] at TE
  have hvw:(λv0=>Ez (Iq d v b t) v0 (t.ev x))= λv0=>Ez t v0 (t.ev x):=funext λv0=>ed hs
  rw [hvw] at TE
  rw [e1,e2,iJ]
  cases ho:lx T (t.at l) t0 s λv0=>Ez t v0 (t.ev x) with
  |none=>rw [ho] at TE;cases TE
  |some c=>
   rw [ho] at TE
   simp only [Ah,Aa] at TE
   have hc:=z7 ho
   have oU:Hv d (t.Jm l c):=hn.Jm (by rw [hc];simp)
   obtain ⟨p1,p2⟩:=uf (v:=v) (b:=b) (y:= .undef) ct oU (by simp [AV.refs,AC.refs])
   refine ⟨_,rfl,?_,p2⟩
   rw [<-he,<-TE,HZ hld,p1]
theorem Hv.back {e:Nat} (h:Hv e (Iq d v b t)) (hde:e≠d) (hn:Hv d t):Hv e t:=by
 have hg: ∀k,k≠d->(Iq d v b t).get k=t.get k:= λk hk=>cp _ _ _ _ _ (Gl hk)
 refine ⟨by rw [<-hg e hde];exact h.own,λu hu hd=>?_,h.Aad⟩
 obtain ⟨k,hk,rfl⟩:=Bd.1 hu
 have e1:t.get k=t.tmps[k]:=by unfold St.get;rw [Al,Ac hk];rfl
 by_cases XB:k=d
 ·subst XB
  have:=hn.own
  rw [e1] at this
  rw [this] at hd
  cases hd
 ·have h1:=h.ev (.tmp k)
  have h2:(Iq d v b t).ev (.tmp k)=t.tmps[k]:=by show (Iq d v b t).get k=_;rw [hg k XB,e1]
  rw [h2] at h1
  exact h1 hd
def jV (e:Ty):Nat->List (Nat×AV)->Option (Bool×Bool×List e.den)
 |_,[]=>some (true,true,[])
 |i,(j,x)::r=>if i=j then match Ez ⟨[],[]⟩ e x with
  |some (fr,y)=>match jV e (i+1) r with
   |some (Uz,RW,ys)=>some (fr&&Uz,Sh ⟨[],[]⟩ x&&e.tree&&RW,y::ys)
   |none=>none
  |none=>none
  else none
theorem c7 {st:St} {e:Ty} : ∀(l:List (Nat×Operand)) (i:Nat),(l.all λp=>Vi (st.ev p.2))=true->Kz e i l st=(jV e i (l.map λp=>(p.1,st.ev p.2))).map λp=>(p.1,p.2.1,p.2.2,st)
 | [],i,_=>rfl
 |(j,x)::r,i,h=>by
  rw [Iv,Ag] at h
  have hx:Vi (st.ev x)=true:=h.1
  simp only [Kz,jV,Bw]
  split
  ·generalize hxv:st.ev x=xv at hx
   unfold Vi at hx
   split at hx
   ·rename_i fr τ z
    have ZX:settle st (.at (.data fr τ z))=some (.at (.data fr τ z),st):=rfl
    rw [ZX]
    simp only
    rw [ed (st:=⟨[],[]⟩) (st':=st) (v:= .at (.data fr τ z)) rfl]
    cases Ez ⟨[],[]⟩ e (.at (.data fr τ z)) with
    |none=>rfl
    |some p=>
     simp only
     rw [c7 r (i+1) h.2]
     cases jV e (i+1) (r.map λp=>(p.1,st.ev p.2)) with
     |none=>rfl
     |some q=>rfl
   ·cases hx
  ·rfl
def rowOf (T:Tab) (t0:TypeId) (len:Nat) (parts:List (Nat×AV)) (dst:Nat):Option (AV×OB):=match cq T t0 with
 |some _=>none
 |none=>match T.elem t0 with
  |none=>none
  |some te=>match T.ty te with
   |none=>none
   |some e=>if parts.length=len/\len<=64/\e.size<=64/\dst<Be then (jV e 0 parts).map λp=>(.at (.own dst 0 len), .arr ((T.rU||e.flat)&&p.1) (T.AA&&p.2.1) e te p.2.2) else none
theorem fo {st:St} {t0:TypeId} {len dst:Nat} {parts:Array (Nat×Operand)} (h:(parts.toList.all λp=>Vi (st.ev p.2))=true):
  Ii T st dst t0 len parts=(rowOf T t0 len (parts.toList.map λp=>(p.1,st.ev p.2)) dst).map λr=>(r.1,st.new dst r.2):=by
 unfold Ii rowOf
 cases cq T t0 with
 |some p=>
  obtain ⟨te,e⟩:=p
  simp only [Option.map_none]
  split
  ·rename_i x hp
   rw [hp,Iv,Ag] at h
   have hx:Vi (st.ev x)=true:=h.1
   unfold Vi at hx
   split at hx
   ·rename_i hv;simp only [hv]
   ·cases hx
  ·rfl
 |none=>
  simp only
  unfold Mc
  cases T.elem t0 with
  |none=>rfl
  |some te=>
   simp only
   cases T.ty te with
   |none=>rfl
   |some e=>
    simp only [Jv,Wc]
    split
    ·rw [c7 _ 0 h]
     cases jV e 0 (parts.toList.map λp=>(p.1,st.ev p.2))<;>rfl
    ·rfl
theorem nZ {t0:TypeId} {len dst:Nat} {parts:List (Nat×AV)} {r:AV×OB} (h:rowOf T t0 len parts dst=some r):p7 dst r.1 r.2:=by
 unfold rowOf at h
 split at h
 ·cases h
 ·split at h
  ·cases h
  ·split at h
   ·cases h
   ·split at h
    ·rename_i e _ _
     cases hp:jV e 0 parts with
     |none=>rw [hp] at h;cases h
     |some p=>
      rw [hp] at h
      simp only [Ah,Aa] at h
      subst h
      exact ⟨λl hl=>by simpa [AV.refs,AC.refs] using hl,rfl,λl hl=>by simp only [AV.map,Cg];rw [Ai (Gl hl)],λl=>rfl⟩
    ·cases h
theorem y0 {e:Nat} {t0:TypeId} {len:Nat} {parts:Array (Nat×Operand)} {ty:TypeId} {pos:String} {after:Array Edge} (_hl:p7 d v b) (hn:Hv d t) (hx: ∀p∈parts.toList,(Iq d v b t).ev p.2=t.ev p.2) (ct:e≠d)
  (hp:(parts.toList.all λp=>Vi (t.ev p.2))=true) (Is:Hv e (Iq d v b t)) {s':St} (he:Em T Γ ops (Iq d v b t) {dst:=some e,op:= .buildSlice t0 len parts,type:=ty,pos:=pos,after:=after,guard:=none} =some s'):
  ∃t',Em T Γ ops t {dst:=some e,op:= .buildSlice t0 len parts,type:=ty,pos:=pos,after:=after,guard:=none} =some t'/\s'=Iq d v b t'/\Hv d t':=by
 have ZP:=Is.back ct hn
 have GV:(parts.toList.all λp=>Vi ((Iq d v b t).ev p.2))=true:=Ax.2 λp vJ=>by rw [hx p vJ];exact Ax.1 hp p vJ
 have hm:(parts.toList.map λp=>(p.1,(Iq d v b t).ev p.2))=parts.toList.map λp=>(p.1,t.ev p.2):=Hq λp vJ=>by rw [hx p vJ]
 unfold Em at he⊢
 simp only [evalOp] at he⊢
 rw [fo GV,hm] at he
 rw [fo hp]
 cases hr:rowOf T t0 len (parts.toList.map λp=>(p.1,t.ev p.2)) e with
 |none=>rw [hr] at he;cases he
 |some r=>
  rw [hr] at he
  have hL:=nZ hr
  simp only [Ah,Aa] at he
  rw [Is.new] at he
  refine ⟨Iq e r.1 r.2 t,by simp only [Ah];rw [ZP.new],?_,hn.plus (Gl ct) (λh=>ct (hL.v1 _ h).symm) (by rw [hL.b1];simp)⟩
  rw [<-he,tb (Gl ct)]
def YM:Operand->AV
 | .const c=>kF c
 |_=> .undef
theorem YN {st:St} {x:Operand} (h:Vi (YM x)=true):st.ev x=YM x:=by
 cases x<;>first|rfl|cases h
def da (T:Tab) (o:Oper):Option (Nat×AV×OB):=match o.guard with
 |some _=>none
 |none=>match o.dst with
  |none=>none
  |some d=>match o.op with
   | .buildSlice t0 len parts=>if (parts.toList.all λp=>Vi (YM p.2))=true then (rowOf T t0 len (parts.toList.map λp=>(p.1,YM p.2)) d).map λr=>(d,r.1,r.2) else none
   | .makeMap t0 none=>match T.mapOf t0 with
    |some τ=>if d<Be then some (d, .at (.Ka d), .Ul τ λ_=>none) else none
    |none=>none
   |_=>none
theorem db {o:Oper} {r:Nat×AV×OB} (h:da T o=some r):o.dst=some r.1/\p7 r.1 r.2.1 r.2.2/\ ∀st:St,Hv r.1 st->Em T Γ ops st o=some (Iq r.1 r.2.1 r.2.2 st):=by
 obtain ⟨dst,op,ty,pos,after,guard⟩:=o
 unfold da at h
 cases guard with
 |some g=>cases h
 |none=>
  cases dst with
  |none=>cases h
  |some d=>
   cases op with
   |buildSlice t0 len parts=>
    simp only at h
    split at h
    ·rename_i hp
     cases hr:rowOf T t0 len (parts.toList.map λp=>(p.1,YM p.2)) d with
     |none=>rw [hr] at h;cases h
     |some q=>
      rw [hr] at h
      simp only [Ah,Aa] at h
      subst h
      refine ⟨rfl,nZ hr,λst Up=>?_⟩
      have CG: ∀p∈parts.toList,st.ev p.2=YM p.2:= λp vJ=>YN (Ax.1 hp p vJ)
      have hm:(parts.toList.map λp=>(p.1,st.ev p.2))=parts.toList.map λp=>(p.1,YM p.2):=Hq λp vJ=>by rw [CG p vJ]
      have GV:(parts.toList.all λp=>Vi (st.ev p.2))=true:=Ax.2 λp vJ=>by rw [CG p vJ];exact Ax.1 hp p vJ
      unfold Em
      simp only [evalOp]
      rw [fo GV,hm,hr]
      simp only [Ah]
      rw [Up.new]
    ·cases h
   |makeMap t0 hint=>
    cases hint with
    |some x=>cases h
    |none=>
     simp only at h
     split at h
     ·rename_i τ Sq
      split at h
      ·rename_i hd
       cases h
       refine ⟨rfl,⟨λl hl=>by simpa [AV.refs,AC.refs] using hl,rfl,λl hl=>by simp only [AV.map,Cg];rw [Ai (Gl hl)],λl=>rfl⟩,λst Up=>?_⟩
       unfold Em
       simp only [evalOp,Tv,Sq,Ab hd,Ah]
       rw [Up.new]
      ·cases h
     ·cases h
   |_=>cases h
theorem wO {l:List Operand} (h: ∀x∈l,(Iq d v b t).ev x=t.ev x):(l.all λx=>((Iq d v b t).ev x).settled)=(l.map t.ev).all (·.settled):=by
 rw [List.all_map]
 induction l with
 |nil=>rfl
 |cons x r ih=>
  simp only [Iv,Function.comp]
  rw [h x (by simp),ih λy hy=>h y (by simp [hy])]
theorem wP {o:Oper} (hl:p7 d v b) (hn:Hv d t) (hs:Vn Γ (Iq d v b t) o=true) (hu:(gJ o).all (gi d)=true) (ct:o.dst≠some d) {s':St} (he:Em T Γ ops (Iq d v b t) o=some s'):
  ∃t',Em T Γ ops t o=some t'/\s'=Iq d v b t'/\Hv d t'/\Vn Γ t o=true:=by
 obtain ⟨dst,op,ty,pos,after,guard⟩:=o
 unfold Vn at hs
 cases guard with
 |some g=>cases hs
 |none=>
  simp only at hs
  split at hs
  ·rename_i x
   have hx:=Xv (v:=v) (b:=b) (t:=t) hu x (by simp [gJ])
   obtain ⟨t',h1,h2,h3⟩:=DD hn hx ct he
   exact ⟨t',h1,h2,h3,rfl⟩
  ·rename_i t0 x
   have hx:=Xv (v:=v) (b:=b) (t:=t) hu x (by simp [gJ])
   rw [hx] at hs
   split at hs
   ·rename_i l i hp
    obtain ⟨t',h1,h2,h3⟩:=DA hn hx ct hp he
    exact ⟨t',h1,h2,h3,by simp only [Vn,hp]⟩
   ·cases hs
  ·rename_i f args tys
   rw [Ag] at hs
   obtain ⟨jI,rK⟩:=hs
   split at jI
   ·rename_i sp Of
    have CG:=Xv (v:=v) (b:=b) (t:=t) (l:=args.toList) hu
    rw [wO CG] at rK
    obtain ⟨t',h1,h2,h3⟩:=BM Of hn (IC hu) ct rK he
    refine ⟨t',h1,h2,h3,?_⟩
    simp only [Vn,Of,Vt]
    rw [List.all_map] at rK
    exact rK
   ·cases jI
  ·rename_i t0 m k x
   have hm:=Xv (v:=v) (b:=b) (t:=t) hu m (by simp [gJ])
   have hk:=Xv (v:=v) (b:=b) (t:=t) hu k (by simp [gJ])
   have hx:=Xv (v:=v) (b:=b) (t:=t) hu x (by simp [gJ])
   rw [hm,hk,hx] at hs
   have hs0:=hs
   rw [Ag] at hs
   obtain ⟨t',h1,h2,h3⟩:=vM hn hm hk hx ct hs.2 he
   exact ⟨t',h1,h2,h3,hs0⟩
  ·rename_i t0 len parts
   rw [Ag] at hs
   obtain ⟨jI,rK⟩:=hs
   cases dst with
   |none=>cases rK
   |some e=>
    simp only at rK
    have hed:e≠d:= λh=>ct (by rw [h])
    have eU:(parts.toList.map (λp=>p.2)).all (gi d)=true:=hu
    have CG:=Xv (v:=v) (b:=b) (t:=t) eU
    have hx: ∀p∈parts.toList,(Iq d v b t).ev p.2=t.ev p.2:= λp hp=>CG p.2 (Bo.2 ⟨p,hp,rfl⟩)
    have hp:(parts.toList.all λp=>Vi (t.ev p.2))=true:=Ax.2 λp hp=>by rw [<-hx p hp];exact Ax.1 jI p hp
    have Is:=qu rK
    obtain ⟨t',h1,h2,h3⟩:=y0 hl hn hx hed hp Is he
    refine ⟨t',h1,h2,h3,?_⟩
    simp only [Vn,hp,Vt]
    exact JR (Is.back hed hn)
  ·cases hs
def uP:List (Nat×AV×OB)->St->St->Prop
 | [],s,t=>s=t
 |q::Q,s,t=>Hv q.1 t/\uP Q s (Iq q.1 q.2.1 q.2.2 t)
theorem ub {o:Oper} : ∀(Q:List (Nat×AV×OB)) (s t s':St),uP Q s t->(∀q∈Q,p7 q.1 q.2.1 q.2.2/\(gJ o).all (gi q.1)=true/\o.dst≠some q.1)->Vn Γ s o=true->Em T Γ ops s o=some s'->
  ∃t',Em T Γ ops t o=some t'/\uP Q s' t'/\Vn Γ t o=true
 | [],s,t,s',h,_,hs,he=>by
  have h:s=t:=h
  subst h
  exact ⟨s',he,rfl,hs⟩
 |q::Q,s,t,s',⟨h1,h2⟩,hq,hs,he=>by
  obtain ⟨u',e1,e2,e3⟩:=ub Q s _ s' h2 (λp hp=>hq p (Am _ hp)) hs he
  obtain ⟨l1,l2,l3⟩:=hq q (by simp)
  obtain ⟨t',f1,f2,f3,f4⟩:=wP l1 h1 e3 l2 l3 e1
  exact ⟨t',f1,⟨f3,by rw [<-f2];exact e2⟩,f4⟩
theorem uc {q:Nat×AV×OB} : ∀(Q1:List (Nat×AV×OB)) {Q2:List (Nat×AV×OB)} {s t:St},uP (Q1++q::Q2) s t->(∀p∈Q1++q::Q2,p7 p.1 p.2.1 p.2.2)->(∀p∈Q1,p.1≠q.1)->
  Hv q.1 t/\uP (Q1++Q2) s (Iq q.1 q.2.1 q.2.2 t)
 | [],Q2,s,t,h,_,_=>h
 |p::Q1,Q2,s,t,⟨h1,h2⟩,hL,Is=>by
  have IY:=Is p (by simp)
  have hLp:=hL p (by simp)
  have hLq:=hL q (by simp)
  obtain ⟨g1,g2⟩:=uc Q1 h2 (λr hr=>hL r (Am _ hr)) λr hr=>Is r (Am _ hr)
  refine ⟨g1.back (Gl IY) h1,h1.plus IY (λh=>IY (hLq.v1 _ h)) (by rw [hLq.b1];simp),?_⟩
  show uP (Q1++Q2) s (Iq p.1 p.2.1 p.2.2 (Iq q.1 q.2.1 q.2.2 t))
  rw [tb (Gl IY)]
  exact g2
def ki (ops:Array Oper):Nat->Nat->Nat->Bool
 |0,_,_=>false
 |f+1,i,a=>Region.waitsFor .any ops i a||(List.range ops.size).any λk=>Region.waitsFor .any ops i k&&ki ops f k a
theorem jk {Af:Array Bool} (hc:Tb ops Af) {a:Nat} : ∀(f i:Nat),(∀x,Region.waitsFor .any ops i x=true->Af.getD x false=true)->ki ops f i a=true->Af.getD a false=true
 |0,_,_,h=>by cases h
 |f+1,i,hi,h=>by
  simp only [ki,Lk,Eu,Ag] at h
  rcases h with h|⟨k,_,h1,h2⟩
  ·exact hi a h
  ·exact jk hc f k (λx hx=>hc k x (hi k h1) hx) h2
def DI (P:List (Nat×Nat×AV×OB)) (Γ:Env) (ops:Array Oper) (st:St) (o:Oper) (i:Nat):Bool:=
 (P.all λa=>ki ops 5 i a.1)||(Vn Γ st o&&P.all λa=>ki ops 5 i a.1||((gJ o).all (gi a.2.1)&&(match o.dst with
  |some e=>!Nat.beq e a.2.1
  |none=>true)))
def YH (T:Tab) (Γ:Env) (ops:Array Oper) (P:List (Nat×Nat×AV×OB)) (K:St->Prop):Nat->Array Bool->St->Prop
 |0,Af,st=>Region.ready .any ops Af= []/\K st
 |f+1,Af,st=>Region.ready .any ops Af≠ []/\ ∀i∈Region.ready .any ops Af,∃o st',ops[i]?=some o/\DI P Γ ops st o i=true/\Em T Γ ops st o=some st'/\YH T Γ ops P K f (Af.setIfInBounds i true) st'
structure MH (lc la:Array Bool) (Q:List Nat):Prop where
 size:la.size=lc.size
 off: ∀k∈Q,k<la.size/\la.getD k false=false/\lc.getD k false=true
 same: ∀k,k∉Q->la.getD k false=lc.getD k false
theorem MH.ready {lc la:Array Bool} {Q:List Nat} (h:MH lc la Q) {i:Nat} (hi:i∈Region.ready .any ops la) (hn:i∉Q):i∈Region.ready .any ops lc:=by
 obtain ⟨h1,o,ho,Kp⟩:=mem_ready.1 hi
 have Jx:i<la.size:=by
  rcases Nat.lt_or_ge i la.size with h'|h'
  ·exact h'
  ·simp [Array.getElem?_eq_none h'] at h1
 have h2:=getD_both h1
 rw [h.same i hn] at h2
 refine mem_ready.2 ⟨getD_in (by rw [<-h.size];exact Jx) h2,o,ho,λe he hb=>?_⟩
 have h3:=Kp e he hb
 by_cases hq:e.on∈Q
 ·exact (h.off _ hq).2.2
 ·rw [<-h.same _ hq];exact h3
theorem MH.nil {lc la:Array Bool} (h:MH lc la []):la=lc:=by
 refine Array.ext h.size λk h1 h2=>?_
 have:=h.same k (by simp)
 simpa [h1,h2] using this
theorem MH.one {lc la:Array Bool} {Q Q':List Nat} {i:Nat} (h:MH lc la Q) (hi:i∈Q) (hs: ∀k,k∈Q'↔k∈Q/\k≠i):MH lc (la.setIfInBounds i true) Q':=by
 refine ⟨by simp [h.size],λk hk=>?_,λk hk=>?_⟩
 ·obtain ⟨h1,h2⟩:=(hs k).1 hk
  obtain ⟨g1,g2,g3⟩:=h.off k h1
  exact ⟨by simpa using g1,by rw [getD_set_ne false (Gl h2)];exact g2,g3⟩
 ·by_cases e:i=k
  ·subst e
   obtain ⟨g1,g2,g3⟩:=h.off i hi
   rw [g3]
   simp [g1]
  ·rw [getD_set_ne false e]
   exact h.same k λhq=>hk ((hs k).2 ⟨hq,Gl e⟩)
theorem MH.both {lc la:Array Bool} {Q:List Nat} {i:Nat} (h:MH lc la Q) (hi:i∉Q):MH (lc.setIfInBounds i true) (la.setIfInBounds i true) Q:=by
 refine ⟨by simp [h.size],λk hk=>?_,λk hk=>?_⟩
 ·obtain ⟨g1,g2,g3⟩:=h.off k hk
  have Is:i≠k:= λe=>hi (by rw [e];exact hk)
  exact ⟨by simpa using g1,by rw [getD_set_ne false Is];exact g2,by rw [getD_set_ne false Is];exact g3⟩
 ·by_cases e:i=k
  ·subst e
   have hs:=h.same i hi
   have hz:=h.size
   by_cases hl:i<la.size
   ·simp [hl,hz▸hl]
   ·have Nt: ¬i<lc.size:=by omega
    simp [hl,Nt]
  ·rw [getD_set_ne false e,getD_set_ne false e];exact h.same k hk
theorem DG {dst:Option Tmp} {d:Nat} (h:(match dst with
  |some e=>!Nat.beq e d
  |none=>true)=true):dst≠some d:= λe=>by
 subst e
 simp at h
theorem IA {P:List (Nat×Nat×AV×OB)} {K:St->Prop} (hP: ∀a∈P,∃o,ops[a.1]?=some o/\da T o=some a.2):
  ∀(n f:Nat) (Q:List (Nat×Nat×AV×OB)) (lc la:Array Bool) (s t:St),n=f+Q.length->YH T Γ ops P K f lc s->uP (Q.map (·.2)) s t->MH lc la (Q.map (·.1))->(∀a∈Q,a∈P)->
   (Q.Pairwise λa c=>a.2.1≠c.2.1/\a.1≠c.1)->Tb ops la->(∀a∈Q,∀x,Region.waitsFor .any ops a.1 x=true->la.getD x false=true)->anyS T Γ ops K n la t:=by
 intro n
 induction n with
 |zero=>
  intro f Q lc la s t hn hC hp hb hQ hpw Qp hw
  have hf:f=0:=by omega
  have hq:Q= []:=Dd (by omega)
  subst hf hq
  have hp:s=t:=hp
  subst hp
  rw [hb.nil]
  exact hC
 |succ n ih=>
  intro f Q lc la s t hn hC hp hb hQ hpw Qp hw
  refine ⟨?_,λi hi=>?_⟩
  ·cases Q with
   |nil=>
    rw [hb.nil]
    cases f with
    |zero=>simp at hn
    |succ f=>exact hC.1
   |cons a Q=>
    obtain ⟨o,ho,_⟩:=hP a (hQ a (by simp))
    obtain ⟨g1,g2,_⟩:=hb.off a.1 (by simp)
    have:a.1∈Region.ready .any ops la:=mem_ready.2 ⟨getD_in g1 g2,o,ho,λe he hbd=>hw a (by simp) e.on (by
     unfold Region.waitsFor
     rw [ho]
     exact Array.any_eq_true'.2 ⟨e,he,by simp [hbd]⟩)⟩
    intro e
    rw [e] at this
    cases this
  ·by_cases hiQ:i∈Q.map (·.1)
   ·obtain ⟨a,ha,rfl⟩:=Bo.1 hiQ
    obtain ⟨Q1,Q2,rfl⟩:=List.append_of_mem ha
    obtain ⟨o,ho,hal⟩:=hP a (hQ a ha)
    obtain ⟨_,_,Up⟩:=db (Γ:=Γ) (ops:=ops) hal
    have OU:=Js.1 hpw
    have Adp:=Lq.1 OU.2.1
    rw [Zu,Bw] at hp
    have hL: ∀p∈Q1.map (·.2)++a.2::Q2.map (·.2),p7 p.1 p.2.1 p.2.2:= λp vJ=>by
     have:p∈(Q1++a::Q2).map (·.2):=by rw [Zu,Bw];exact vJ
     obtain ⟨c,hc,rfl⟩:=Bo.1 this
     obtain ⟨o',_,Ahv⟩:=hP c (hQ c hc)
     exact (db (Γ:=Γ) (ops:=ops) Ahv).2.1
    obtain ⟨p1,p2⟩:=uc _ hp hL λp vJ=>by
     obtain ⟨c,hc,rfl⟩:=Bo.1 vJ
     exact (OU.2.2 c hc a (by simp)).1
    refine ⟨o,_,ho,Up t p1,ih f (Q1++Q2) lc _ s _ ?_ hC (by rw [Zu];exact p2) (hb.one hiQ λk=>?_) (λc hc=>hQ c ?_) ?_ (Qp.set hi) λc hc x hx=>getD_set_true (hw c ?_ x hx)⟩
    ·simp only [Ay,Bg] at hn⊢;omega
    ·simp only [Zu,Bw,Az,Ba]
     constructor
     ·intro h
      rcases h with h|h
      ·obtain ⟨c,hc,rfl⟩:=Bo.1 h
       exact ⟨.inl h,(OU.2.2 c hc a (by simp)).2⟩
      ·obtain ⟨c,hc,rfl⟩:=Bo.1 h
       exact ⟨.inr (.inr h),Gl (Adp.1 c hc).2⟩
     ·rintro ⟨h|h|h,Is⟩
      ·exact .inl h
      ·exact absurd h Is
      ·exact .inr h
    ·rcases Az.1 hc with hc|hc
     ·exact Bn _ hc
     ·exact Bx _ (Am _ hc)
    ·exact Js.2 ⟨OU.1,Adp.2,λc hc e he=>OU.2.2 c hc e (Am _ he)⟩
    ·rcases Az.1 hc with hc|hc
     ·exact Bn _ hc
     ·exact Bx _ (Am _ hc)
   ·have hic:=hb.ready hi hiQ
    cases f with
    |zero=>
     rw [hC.1] at hic
     cases hic
    |succ f=>
     obtain ⟨o,s',ho,fT,he,ey⟩:=hC.2 i hic
     have UO: ∀a∈Q,ki ops 5 i a.1=false:= λa ha=>by
      cases hwt:ki ops 5 i a.1 with
      |false=>rfl
      |true=>
       have h1:=jk Qp _ i (λx hx=>bt hi hx) hwt
       rw [(hb.off a.1 (Bo.2 ⟨a,ha,rfl⟩)).2.1] at h1
       cases h1
     have key: ∃t',Em T Γ ops t o=some t'/\uP (Q.map (·.2)) s' t':=by
      unfold DI at fT
      rw [Lk,Ag] at fT
      rcases fT with fT|⟨h1,h2⟩
      ·cases Q with
       |nil=>
        have hp:s=t:=hp
        subst hp
        exact ⟨s',he,rfl⟩
       |cons a Q=>
        have:=Ax.1 fT a (hQ a (by simp))
        rw [UO a (by simp)] at this
        cases this
      ·obtain ⟨t',g1,g2,_⟩:=ub (T:=T) (ops:=ops) _ s t s' hp (λq hq=>by
        obtain ⟨a,ha,rfl⟩:=Bo.1 hq
        obtain ⟨o',_,hal⟩:=hP a (hQ a ha)
        have h3:=Ax.1 h2 a (hQ a ha)
        rw [UO a ha,ab,Ag] at h3
        exact ⟨(db (Γ:=Γ) (ops:=ops) hal).2.1,h3.1,DG h3.2⟩) h1 he
       exact ⟨t',g1,g2⟩
     obtain ⟨t',g1,g2⟩:=key
     exact ⟨o,t',ho,g1,ih f Q _ _ s' t' (by omega) ey g2 (hb.both hiQ) hQ hpw (Qp.set hi) λc hc x hx=>getD_set_true (hw c hc x hx)⟩
def Xt (T:Tab) (ops:Array Oper) (Af:Array Bool):List (Nat×Nat×AV×OB):=(Region.ready .any ops Af).filterMap λi=>((ops[i]?).bind (da T)).map λr=>(i,r)
theorem uT {Af:Array Bool} {a:Nat×Nat×AV×OB} (h:a∈Xt T ops Af):a.1∈Region.ready .any ops Af/\ ∃o,ops[a.1]?=some o/\da T o=some a.2:=by
 unfold Xt at h
 obtain ⟨i,hi,he⟩:=List.mem_filterMap.1 h
 cases ho:ops[i]? with
 |none=>rw [ho] at he;cases he
 |some o=>
  rw [ho] at he
  simp only [Ev,Option.map_eq_some_iff] at he
  obtain ⟨r,h1,rfl⟩:=he
  exact ⟨hi,o,ho,h1⟩
theorem TP {Af:Array Bool} {Q:List Nat} (h: ∀i∈Q,i∈Region.ready .any ops Af):MH (Ee Q Af) Af Q:=by
 have hr: ∀i∈Q,i<Af.size/\Af.getD i false=false:= λi hi=>by
  have h1:=(mem_ready.1 (h i hi)).1
  refine ⟨?_,getD_both h1⟩
  rcases Nat.lt_or_ge i Af.size with h'|h'
  ·exact h'
  ·simp [Array.getElem?_eq_none h'] at h1
 exact ⟨(Vf Q Af).symm,λk hk=>⟨(hr k hk).1,(hr k hk).2,dw Q Af k hk (hr k hk).1⟩,λk hk=>(bP Q Af k hk).symm⟩
theorem zv: ∀(Q:List (Nat×Nat×AV×OB)) (t s:St),(∀a∈Q,∃o,ops[a.1]?=some o/\da T o=some a.2)->(∀a∈Q,Hv a.2.1 t)->(Q.Pairwise λa c=>a.2.1≠c.2.1)->Mk T Γ ops (Q.map (·.1)) t=some s->uP (Q.map (·.2)) s t
 | [],t,s,_,_,_,h=>by
  have h:some t=some s:=h
  exact (Aw h).symm
 |a::Q,t,s,hQ,hn,hp,h=>by
  obtain ⟨o,ho,hal⟩:=hQ a (by simp)
  obtain ⟨_,hL,Up⟩:=db (Γ:=Γ) (ops:=ops) hal
  obtain ⟨tH,tJ⟩:=Lq.1 hp
  simp only [Bw,Mk,ho] at h
  rw [Up t (hn a (by simp))] at h
  refine ⟨hn a (by simp),zv Q _ s (λc hc=>hQ c (Am _ hc)) (λc hc=>?_) tJ h⟩
  exact (hn c (Am _ hc)).plus (Gl (tH c hc)) (λh=>tH c hc (hL.v1 _ h).symm) (by rw [hL.b1];simp)
end
end Go.Proofs.Ytkkdpknjohcekaa
