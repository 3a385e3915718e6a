/-
  AX, part 3: the operations that make or write memory; regions; code.
-/
import Derived.Test.YtingphpncocimaaAx2
namespace Go.Proofs.Ytingphpncocimaa
open Go.RowKit

/-- A value made ready to be kept: what leads to a block of the call's own is read off, and the block is written no more. -/
def settleCells : Nat → St → List AC → Option (List AC × St)
  | 0, st, cs => if cs.all (·.settled) then some (cs, st) else none
  | n + 1, st, cs =>
    match cs.find? (fun c => !c.settled) with
    | none => some (cs, st)
    | some (.own l off len) => match st.at l with
      | some (.arr fr e _ xs) => settleCells n (st.freeze l fr e xs) (cs.map (freezeAC l fr e xs))
      | _ => none
    | some _ => none

def settle (st : St) : AV → Option (AV × St)
  | .at (.own l off len) => match st.at l with
    | some (.arr fr e _ xs) => some (.at (.data fr (.slice e) ((xs.drop off).take len)), st.freeze l fr e xs)
    | _ => none
  | .at a => if a.settled then some (.at a, st) else none
  | .agg cs => (settleCells cs.length st cs).map fun p => (.agg p.1, p.2)
  | .tup fr τ x => some (.tup fr τ x, st)

variable (T : Tab)

/-- The type number of cell i of a type. -/
def cellTid (t : TypeId) (τ : Ty) (i : Nat) : Option TypeId :=
  if τ.isStruct then (List.range 24).findSome? fun f => match T.off t f with
    | some (o, u) => if o = i then some u else none
    | none => none
  else some t

/-- A nil slice in a cell of a variable becomes a row of the call's own. -/
def promoteNil (key l i : Nat) (te : TypeId) (e : Ty) (st : St) : St :=
  match st.at l with
  | some (.var _ vs) => match vs[i]? with
    | some .nilv =>
      let s1 := st.new key (.arr true e te [])
      match s1.at l with
      | some (.var tid vs') => s1.setB l (.var tid (setL vs' i (.own key 0 0)))
      | _ => s1
    | _ => st
  | _ => st
def promote (l : Nat) (t : TypeId) (τ : Ty) : Nat → Nat → St → St
  | 0, _, st => st
  | n + 1, i, st =>
    promote l t τ n (i + 1) (match ((cellTid T t τ i).bind T.elem).bind fun te => (T.ty te).map fun e => (te, e) with
      | some (te, e) => promoteNil (100000 + l * 100 + i) l i te e st
      | none => st)

def zeroCells : (τ : Ty) → List AC
  | .unit => []
  | .pair a r => zeroCells a ++ zeroCells r
  | .slice _ => [.nilv]
  | .ptr _ => [.nilp]
  | τ => [.data true τ τ.zero]

def cellsOf (τ : Ty) : AV → Option (List AC)
  | .agg cs => if τ.isStruct && cs.length == τ.size then some cs else none
  | .at (.data fr τ' x) => if τ' = τ then some (explode fr τ' x) else none
  | .at .undef => none
  | .at .skip => none
  | .at a => if τ.isStruct then none else some [a]
  | _ => none

def mkVar (st : St) (l : Nat) (t : TypeId) (τ : Ty) (cs : List AC) : Option (AV × St) :=
  let s := promote T l t τ cs.length 0 (st.new l (.var t (cs.map (forgetAC l))))
  match s.at l with
  | some (.var _ _) => some (.at (.vptr l 0), s)
  | _ => none

def splice {α : Type} (xs : List α) (i : Nat) (ys : List α) : List α := xs.take i ++ ys ++ xs.drop (i + ys.length)

def evalStore (st : St) (t : TypeId) (p v : AV) : Option St :=
  match T.ty t, p with
  | some τ, .at (.vptr l i) => match st.at l, cellsOf τ v with
    | some (.var tid vs), some cs => if i + cs.length ≤ vs.length then some (st.setB l (.var tid (splice vs i cs))) else none
    | _, _ => none
  | some τ, .at (.eptr l j) => match settle st v with
    | some (v', st') => match st'.at l, viewAV st' τ v' with
      | some (.arr fr e tid xs), some (fr', x) => if h : τ = e then (if j < xs.length then some (st'.setB l (.arr (fr && fr') e tid (xs.set j (h ▸ x)))) else none) else none
      | _, _ => none
    | none => none
  | _, _ => none

def maxRow : Nat := 4294967296

def evalAppend (st : St) (dst : Nat) (t : TypeId) (x y : Operand) : Option (AV × St) :=
  match T.elem t with
  | none => none
  | some te => match T.ty te, settle st (st.ev y) with
    | some e, some (y', st') => match viewAV st' (.slice e) y' with
      | none => none
      | some (fr2, ys) => match st'.ev x with
        | .at .nilv => if ys.length ≤ maxRow then some (.at (.own dst 0 (0 + ys.length)), (st'.new dst (.arr true e te [])).new dst (.arr (true && fr2) e te (((([] : List e.den).drop 0).take 0) ++ ys))) else none
        | .at (.own l off len) => match st'.at l with
          | some (.arr fr e' tid xs) => if h : e' = e ∧ tid = te then
              (if len + ys.length ≤ maxRow then
                some (.at (.own l 0 (len + ys.length)), st'.new l (.arr (fr && fr2) e te ((((h.1 ▸ xs : List e.den).drop off).take len) ++ ys))) else none)
            else none
          | _ => none
        | _ => none
    | _, _ => none

def zeroOK : Ty → Bool
  | .int _ | .bool | .str | .slice _ => true
  | _ => false

def evalMake (st : St) (dst : Nat) (t : TypeId) (l c : AV) : Option (AV × St) :=
  match T.elem t, l, c with
  | some te, .at (.data _ (.int _) n), .at (.data _ (.int _) m) => match T.ty te with
    | some e => if inb n (maxRow + 1) = true ∧ n = m ∧ zeroOK e = true then some (.at (.own dst 0 n.toNat), st.new dst (.arr true e te (List.replicate n.toNat e.zero))) else none
    | none => none
  | _, _, _ => none

def buildParts (e : Ty) : Nat → List (Nat × Operand) → St → Option (Bool × List e.den × St)
  | _, [], st => some (true, [], st)
  | i, (j, x) :: r, st =>
    if i = j then match settle st (st.ev x) with
      | some (v, st') => match viewAV st' e v with
        | some (fr, y) => match buildParts e (i + 1) r st' with
          | some (fr', ys, st'') => some (fr && fr', y :: ys, st'')
          | none => none
        | none => none
      | none => none
    else none

def evalBuildSlice (st : St) (dst : Nat) (t : TypeId) (len : Nat) (parts : Array (Nat × Operand)) : Option (AV × St) :=
  match T.elem t with
  | none => none
  | some te => match T.ty te with
    | none => none
    | some e => if parts.size = len ∧ len ≤ 64 ∧ e.size ≤ 64 then (match buildParts e 0 parts.toList st with
      | some (fr, ys, st') => some (.at (.own dst 0 len), st'.new dst (.arr fr e te ys))
      | none => none) else none

def buildCells (st : St) (t : TypeId) : List (Nat × Operand) → List AC → Option (List AC)
  | [], cs => some cs
  | (i, x) :: r, cs =>
    match T.off t i with
    | some (o, u) => match T.ty u with
      | some ρ => match cellsOf ρ (st.ev x) with
        | some c => if o + c.length ≤ cs.length then buildCells st t r (splice cs o c) else none
        | none => none
      | none => none
    | none => none

def evalBuild (st : St) (t : TypeId) (parts : Array (Nat × Operand)) : Option AV :=
  match T.ty t with
  | none => none
  | some τ => if τ.isStruct then (buildCells T st t parts.toList (zeroCells τ)).map .agg else none

/-- An operation: the value that it yields, and the state behind it. -/
def evalOp (Γ : Env) (st : St) (o : Oper) : Option (AV × St) :=
  match o.op with
  | .assign x => match st.ev x, o.dst, (T.elem o.type).bind fun te => (T.ty te).map fun e => (te, e) with
    | .at .nilv, some d, some (te, e) => some (.at (.own d 0 0), st.new d (.arr true e te []))
    | v, _, _ => some (v, st)
  | .alloc t => match o.dst, T.ty t with
    | some d, some τ => mkVar T st d t τ (zeroCells τ)
    | _, _ => none
  | .box t x => match o.dst, T.ty t with
    | some d, some τ => match cellsOf τ (st.ev x) with
      | some cs => mkVar T st d t τ cs
      | none => none
    | _, _ => none
  | .store t p x => (evalStore T st t (st.ev p) (st.ev x)).map fun s => (.undef, s)
  | .makeSlice t l c => match o.dst with
    | some d => evalMake T st d t (st.ev l) (st.ev c)
    | none => none
  | .buildSlice t len parts => match o.dst with
    | some d => evalBuildSlice T st d t len parts
    | none => none
  | .build t parts => (evalBuild T st t parts).map fun v => (v, st)
  | .call { callee := .builtin .append, args, argTypes } => match o.dst, args.toList, argTypes.toList with
    | some d, [x, y], [t, t'] => if t = t' then evalAppend T st d t x y else none
    | _, _, _ => none
  | _ => (evalQ T Γ st o).map fun v => (v, st)

/-- Whether an operation makes or writes memory (or turns what is known). -/
def loudOp (o : Oper) : Bool :=
  match o.op with
  | .alloc _ | .box _ _ | .store _ _ _ | .makeSlice _ _ _ | .buildSlice _ _ _ | .build _ _ => true
  | .assign (.const _) => true
  | .call { callee := .builtin .append, .. } => true
  | _ => false

def evalStep (Γ : Env) (ops : Array Oper) (st : St) (o : Oper) : Option St :=
  match o.guard with
  | none => (evalOp T Γ st o).map fun r => r.2.put o.dst r.1
  | some (j, want) => match boolAt st ((ops[j]?).bind (·.dst)) with
    | some (some b) => if b == want then (evalOp T Γ st o).map fun r => r.2.put o.dst r.1 else some (st.put o.dst (.at .skip))
    | some none => some (st.put o.dst (.at .skip))
    | none => none

def evalOps (Γ : Env) (ops : Array Oper) : List Oper → St → Option St
  | [], st => some st
  | o :: r, st => match evalStep T Γ ops st o with
    | some st' => evalOps Γ ops r st'
    | none => none

/-- A region that draws its order: first what is quiet, then the rest, each behind the one before. -/
def tailOps (ops : Array Oper) : List Nat :=
  (List.range ops.size).foldl (init := []) fun acc i => match ops[i]? with
    | some o => if loudOp o || o.after.any (fun e => Region.binds .any e && acc.contains e.on) then acc ++ [i] else acc
    | none => acc
def headOps (ops : Array Oper) : List Nat := (List.range ops.size).filter fun i => !(tailOps ops).contains i

def seqOK (ops : Array Oper) : List Nat → Array Bool → Bool
  | [], listed => (Region.ready .any ops listed).isEmpty
  | k :: r, listed => decide (Region.ready .any ops listed = [k]) && seqOK ops r (listed.setIfInBounds k true)
def headOK (ops : Array Oper) (tl : List Nat) : List Nat → Array Bool → Bool
  | [], listed => seqOK ops tl listed
  | k :: r, listed => (Region.ready .any ops listed).contains k && Region.free .any ops listed k && headOK ops tl r (listed.setIfInBounds k true)
/-- Each of the head is waited for by the tail's first, or by one of the head behind it. -/
def sinkOK (ops : Array Oper) (hd : List Nat) : List Nat → Bool
  | [] => true
  | f :: r => (hd.all fun i => (f :: hd).any fun j => decide (i < j) && Region.waitsFor .any ops j i) && chain f r
where chain : Nat → List Nat → Bool
  | _, [] => true
  | k, t :: r => Region.waitsFor .any ops t k && chain t r
def orderOK (ops : Array Oper) : Bool :=
  Region.noSelect ops && ((headOps ops).length + (tailOps ops).length == ops.size) && headOK ops (tailOps ops) (headOps ops) (Array.replicate ops.size false) && sinkOK ops (headOps ops) (tailOps ops)

/-- What a quiet operation leaves in its slot. -/
def valQ (Γ : Env) (ops : Array Oper) (st : St) (o : Oper) : Option AV :=
  match o.guard with
  | none => evalQ T Γ st o
  | some (j, want) => match boolAt st ((ops[j]?).bind (·.dst)) with
    | some (some b) => if b == want then evalQ T Γ st o else some (.at .skip)
    | some none => some (.at .skip)
    | none => none
def evalOpsQ (Γ : Env) (ops : Array Oper) : List Nat → St → Option St
  | [], st => some st
  | i :: r, st => match ops[i]? with
    | none => none
    | some o => match valQ T Γ ops st o with
      | some v => evalOpsQ Γ ops r (st.put o.dst v)
      | none => none
def evalIdx (Γ : Env) (ops : Array Oper) : List Nat → St → Option St
  | [], st => some st
  | i :: r, st => match ops[i]? with
    | none => none
    | some o => match evalStep T Γ ops st o with
      | some st' => evalIdx Γ ops r st'
      | none => none

def evalRegion (Γ : Env) (ops : Array Oper) (draw : Bool) (st : St) : Option St :=
  if draw then (if orderOK ops then (match evalOpsQ T Γ ops (headOps ops) st with
    | some st' => evalIdx T Γ ops (tailOps ops) st'
    | none => none) else none)
  else evalOps T Γ ops ops.toList st

inductive AExit where
  | normal
  | exit (id : Nat)
  | ret

/-- The slots that some region reads ahead of writing them. -/
def exposedOps : List Oper → List Nat → List Nat
  | [], _ => []
  | o :: r, wr => (o.op.operands.toList.filterMap fun | .tmp t => if wr.contains t then none else some t | _ => none) ++ exposedOps r (match o.dst with | some d => d :: wr | none => wr)
def exposed : Code → List Nat
  | .region _ ops _ => exposedOps ops.toList []
  | .seq a b => exposed a ++ exposed b
  | .cond _ a b => exposed a ++ exposed b
  | .block _ c => exposed c
  | .loop c => exposed c
  | .scope c => exposed c
  | _ => []

def clearTmps (live : List Nat) : Nat → List AV → List AV
  | _, [] => []
  | i, v :: r => (if live.contains i then v else .undef) :: clearTmps live (i + 1) r
def AC.refs : AC → List Nat
  | .own l _ _ | .vptr l _ | .eptr l _ => [l]
  | _ => []
def AV.refs : AV → List Nat
  | .at a => a.refs
  | .agg cs => cs.flatMap AC.refs
  | .tup _ _ _ => []
def OB.refs : OB → List Nat
  | .arr _ _ _ _ => []
  | .var _ vs => vs.flatMap AC.refs
def forgetAll : List Nat → St → St
  | [], st => st
  | l :: r, st => forgetAll r (st.forget l)
/-- At a loop's head: only the slots that are read there. -/
def St.clean (live : List Nat) (st : St) : St :=
  let s : St := { st with tmps := clearTmps live 0 st.tmps }
  let r1 := s.tmps.flatMap AV.refs
  let r2 := r1 ++ (s.heap.filter fun p => r1.contains p.1).flatMap fun p => p.2.refs
  forgetAll ((s.heap.map (·.1)).filter fun l => !r2.contains l) s

def iter (body : St → Option (AExit × St)) (cl : St → St) : Nat → St → Option (AExit × St)
  | 0, _ => none
  | n + 1, st => match body (cl st) with
    | some (.normal, st') => iter body cl n st'
    | r => r

/-- A loop's number: that of its body's first region. -/
def headId : Code → Nat
  | .region id _ _ => id
  | .seq a _ => headId a
  | .cond _ a _ => headId a
  | .block _ c => headId c
  | .loop c => 1000 + headId c
  | _ => 0

/-- The slots read later on, and those of each loop's head. -/
def addL (a b : List Nat) : List Nat := a ++ b.filter fun t => !a.contains t
def liveOps : List Oper → List Nat → List Nat
  | [], out => out
  | o :: r, out => addL (o.op.operands.toList.filterMap fun | .tmp t => some t | _ => none) (match o.dst with | some d => (liveOps r out).filter (· != d) | none => liveOps r out)
def envGet : List (Nat × List Nat) → Nat → List Nat
  | [], _ => []
  | (k, l) :: r, id => if k = id then l else envGet r id
def liveC : Code → List (Nat × List Nat) → List Nat → List Nat → List Nat × List (Nat × List Nat)
  | .region _ ops _, _, _, out => (liveOps ops.toList out, [])
  | .seq a b, env, ret, out => let rb := liveC b env ret out; let ra := liveC a env ret rb.1; (ra.1, ra.2 ++ rb.2)
  | .cond c a b, env, ret, out => let ra := liveC a env ret out; let rb := liveC b env ret out
    (addL (match c with | .tmp t => [t] | _ => []) (addL ra.1 rb.1), ra.2 ++ rb.2)
  | .block id c, env, ret, out => liveC c ((id, out) :: env) ret out
  | .exit id, env, _, _ => (envGet env id, [])
  | .ret, _, ret, _ => (ret, [])
  | .loop c, env, ret, _ => let l := (liveC c env ret []).1; let r := liveC c env ret l; (l, (headId c, l) :: r.2)
  | _, _, _, out => (out, [])
def liveRes : List ResultVar → List Nat
  | [] => []
  | .tmp t :: r => t :: liveRes r
  | .cell p _ :: r => p :: liveRes r
def liveOf (fn : Func) (c : Code) : Nat → List Nat := let ret := liveRes fn.results.toList; envGet (liveC c [] ret ret).2

def evalCode (Γ : Env) (N : Nat) (live : Nat → List Nat) : Code → St → Option (AExit × St)
  | .skip, st => some (.normal, st)
  | .label _, st => some (.normal, st)
  | .region _ ops draw, st => (evalRegion T Γ ops draw st).map fun s => (.normal, s)
  | .seq a b, st => match evalCode Γ N live a st with
    | some (.normal, st') => evalCode Γ N live b st'
    | r => r
  | .cond c a b, st => match st.ev c with
    | .at (.data _ .bool t) => if t then evalCode Γ N live a st else evalCode Γ N live b st
    | _ => none
  | .block id c, st => match evalCode Γ N live c st with
    | some (.exit id', st') => if id' = id then some (.normal, st') else some (.exit id', st')
    | r => r
  | .loop c, st => iter (evalCode Γ N live c) (St.clean (live (headId c))) N st
  | .exit id, st => some (.exit id, st)
  | .ret, st => some (.ret, st)
  | _, _ => none

/-- The results of a function, as plain data. -/
def resAVs (st : St) : List ResultVar → Option (List AV)
  | [] => some []
  | .tmp t :: r => (resAVs st r).map fun l => st.get t :: l
  | .cell p t :: r => match evalLoad T st t (st.get p), resAVs st r with
    | some v, some l => some (v :: l)
    | _, _ => none
def evalRes (s : Spec) (fn : Func) (st : St) : Option (Bool × s.res.den) :=
  match resAVs T st fn.results.toList with
  | some [v] => if s.multi then none else viewAV st s.res v
  | some [v, u] => if s.multi then viewArgs st s.res [v, u] else none
  | some [v, u, t] => if s.multi then viewArgs st s.res [v, u, t] else none
  | _ => none

def argAVs : (τ : Ty) → τ.den → List AV
  | .pair a r, x => .at (.data false a x.1) :: argAVs r x.2
  | _, _ => []

/-- A function at its arguments. -/
def evalFn (Γ : Env) (N : Nat) (s : Spec) (fn : Func) (x : s.arg.den) : Option s.res.den :=
  match fn.body with
  | none => none
  | some c =>
    let as := argAVs s.arg x
    match evalCode T Γ N (liveOf fn c) c { tmps := as ++ List.replicate (fn.ntmps - as.length) .undef, heap := [] } with
    | some (.normal, st) | some (.ret, st) => match evalRes T s fn st with
      | some (fr, y) => if fr || !s.fresh then some y else none
      | none => none
    | _ => none
end Go.Proofs.Ytingphpncocimaa
