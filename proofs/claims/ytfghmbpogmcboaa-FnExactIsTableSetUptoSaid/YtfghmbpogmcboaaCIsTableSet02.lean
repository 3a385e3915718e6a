/-
  Part 3 of the proof that the statement FnExactIsTableSet holds.
-/
import Derived.Test.YtfghmbpogmcboaaCIsTableSet01
namespace Go.Proofs.Ytfghmbpogmcboaa
open Go.RowKit

/-- A value made ready to be kept: what leads to a block of the call's own is read off, and the block is written no more. -/
def settleCells : Nat → St → List AC → Option (List AC × St)
  | 0, st, cs => if cs.all (·.settled) then some (cs, st) else none
  | n + 1, st, cs =>
    match cs.find? (fun c => !c.settled) with
    | none => some (cs, st)
    | some (.own l _ _) => match st.at l with
      | some (.arr fr _ e _ xs) => settleCells n (st.freeze l fr e xs) (cs.map (freezeAC l fr e xs))
      | some (.xarr e _ xs) => settleCells n (st.freeze l false e xs) (cs.map (freezeAC l false e xs))
      | _ => none
    | some (.mapr l) => match st.at l with
      | some (.smp v m) => settleCells n (st.freezeMap l v m) (cs.map (freezeM l v m))
      | _ => none
    | some _ => none

def settle (st : St) : AV → Option (AV × St)
  | .at (.own l off len) => match st.at l with
    | some (.arr fr _ e _ xs) => some (.at (.data fr (.slice e) ((xs.drop off).take len)), st.freeze l fr e xs)
    | some (.xarr e _ xs) => some (.at (.data false (.slice e) ((xs.drop off).take len)), st.freeze l false e xs)
    | _ => none
  | .at (.mapr l) => match st.at l with
    | some (.smp v m) => some (.at (.data false (.smap v) m), st.freezeMap l v m)
    | _ => none
  | .at a => if a.settled then some (.at a, st) else none
  | .agg cs => (settleCells cs.length st cs).map fun p => (.agg p.1, p.2)
  | .tup fr τ x => some (.tup fr τ x, st)
  | .tupc _ => none

def AC.refs : AC → List Nat
  | .own l _ _ | .vptr l _ | .eptr l _ | .mapr l | .sub l _ _ => [l]
  | .clo _ caps => caps.map (·.1)
  | _ => []

def nodupB : List Nat → Bool
  | [] => true
  | a :: r => !r.contains a && nodupB r
/-- Types of whose values it can be told which blocks they lie in. -/
def Ty.tree : Ty → Bool
  | .int _ | .bool | .str | .unit => true
  | .slice e => e.tree
  | .pair a r => a.tree && r.tree
  | _ => false
/-- Values whose blocks are the call's own, and met by nothing else. -/
def treeCell (st : St) : AC → Bool
  | .data _ τ _ => τ.flat
  | .nilv => true
  | .own l _ _ => match st.at l with
    | some (.arr _ tr e _ _) => tr || e.flat
    | some (.xarr _ _ _) => true
    | _ => false
  | _ => false
def treeAV (st : St) : AV → Bool
  | .at a => treeCell st a
  | .agg cs => cs.all (treeCell st) && nodupB (cs.flatMap AC.refs)
  | _ => false

/-- Labels from here on stand for what was handed over, and stays in its place. -/
def pinFrom : Nat := 1000000000

variable (T : Tab)

/-- The type number of cell i of a type. -/
def cellTid (t : TypeId) (τ : Ty) (i : Nat) : Option TypeId :=
  if τ.isStruct then (List.range 24).findSome? fun f => match T.off t f with
    | some (o, u) => if o = i then some u else none
    | none => none
  else some t

/-- A nil slice in a cell of a variable becomes a row of the call's own. -/
def promoteNil (f0 t0 : Bool) (key l i : Nat) (te : TypeId) (e : Ty) (st : St) : St :=
  match st.at l with
  | some (.var _ vs) => match vs[i]? with
    | some .nilv =>
      let s1 := st.new key (.arr (f0 || e.flat) t0 e te [])
      match s1.at l with
      | some (.var tid vs') => s1.setB l (.var tid (setL vs' i (.own key 0 0)))
      | _ => s1
    | _ => st
  | _ => st
def promote (l : Nat) (t : TypeId) (τ : Ty) : Nat → Nat → St → St
  | 0, _, st => st
  | n + 1, i, st =>
    promote l t τ n (i + 1) (match ((cellTid T t τ i).bind T.elem).bind fun te => (T.ty te).map fun e => (te, e) with
      | some (te, e) => promoteNil T.fr0 T.tr0 (100000 + l * 100 + i) l i te e st
      | none => st)

/-- The same for what is stored into a variable, from cell 'off' on. -/
def promoteS (l off : Nat) (t : TypeId) (τ : Ty) : Nat → Nat → St → St
  | 0, _, st => st
  | n + 1, i, st =>
    promoteS l off t τ n (i + 1) (match ((cellTid T t τ i).bind T.elem).bind fun te => (T.ty te).map fun e => (te, e) with
      | some (te, e) => promoteNil T.fr0 T.tr0 (100000 + l * 100 + (off + i)) l (off + i) te e st
      | none => st)

def zeroCells : (τ : Ty) → List AC
  | .unit => []
  | .pair a r => zeroCells a ++ zeroCells r
  | .slice _ => [.nilv]
  | .oslice _ => [.nilv]
  | .ptr _ => [.nilp]
  | .optr _ => [.nilp]
  | .clo _ _ => [.undef]
  | τ => [.data true τ τ.zero]

def cellsOf (τ : Ty) : AV → Option (List AC)
  | .agg cs => if τ.isStruct && cs.length == τ.size then some cs else none
  | .at (.data fr τ' x) => if τ' = τ then some (explode fr τ' x) else none
  | .at .undef => none
  | .at .skip => none
  | .at a => if τ.isStruct then none else some [a]
  | _ => none

def mkVar (st : St) (l : Nat) (t : TypeId) (τ : Ty) (cs : List AC) : Option (AV × St) :=
  if pinFrom ≤ 100000 + l * 100 + cs.length then none else
  let s := promote T l t τ cs.length 0 (st.new l (.var t (cs.map (forgetAC l))))
  match s.at l with
  | some (.var _ _) => some (.at (.vptr l 0), s)
  | _ => none

def splice {α : Type} (xs : List α) (i : Nat) (ys : List α) : List α := xs.take i ++ ys ++ xs.drop (i + ys.length)

def evalStore (st : St) (t : TypeId) (p v : AV) : Option St :=
  match T.ty t, p with
  | some τ, .at (.vptr l i) => match st.at l, cellsOf τ v with
    | some (.var tid vs), some cs => if i + cs.length ≤ vs.length then some (if τ.isStruct && Nat.blt (100000 + l * 100 + (i + cs.length)) pinFrom then promoteS T l i t τ cs.length 0 (st.setB l (.var tid (splice vs i cs))) else st.setB l (.var tid (splice vs i cs))) else none
    | _, _ => none
  | some τ, .at (.eptr l j) => match settle st v with
    | some (v', st') => match st'.at l, viewAV st' τ v' with
      | some (.arr fr tr e tid xs), some (fr', x) => if h : τ = e then (if j < xs.length then some (st'.setB l (.arr (fr && fr') (tr && (treeAV st v && e.tree)) e tid (xs.set j (h ▸ x)))) else none) else none
      | _, _ => none
    | none => none
  | _, _ => none

def maxRow : Nat := 4294967296

def evalAppend (st : St) (dst : Nat) (t : TypeId) (x y : Operand) : Option (AV × St) :=
  match T.elem t with
  | none => none
  | some te => match T.ty te, settle st (st.ev y) with
    | some e, some (y', st') => match viewAV st' (.slice e) y' with
      | none => none
      | some (fr2, ys) =>
        let tr2 := e.flat || (treeAV st (st.ev y) && e.tree)
        match st'.ev x with
        | .at .nilv => if ys.length ≤ maxRow ∧ dst < pinFrom then some (.at (.own dst 0 (0 + ys.length)), (st'.new dst (.arr (T.fr0 || e.flat) T.tr0 e te [])).new dst (.arr ((T.fr0 || e.flat) && (fr2 || e.flat)) (T.tr0 && tr2) e te (((([] : List e.den).drop 0).take 0) ++ ys))) else none
        | .at (.own l off len) => match st'.at l with
          | some (.arr fr tr e' tid xs) => if h : e' = e ∧ tid = te then
              (if len + ys.length ≤ maxRow ∧ l < pinFrom then
                some (.at (.own l 0 (len + ys.length)), st'.new l (.arr (fr && (fr2 || e.flat)) (tr && tr2) e te ((((h.1 ▸ xs : List e.den).drop off).take len) ++ ys))) else none)
            else none
          | _ => none
        | _ => none
    | _, _ => none

def zeroOK : Ty → Bool
  | .int _ | .bool | .str | .slice _ => true
  | _ => false

/-- Types whose zero leads to no memory. -/
def zeroAll : Ty → Bool
  | .unit => true
  | .pair a r => zeroAll a && zeroAll r
  | e => zeroOK e

def evalMake (st : St) (dst : Nat) (t : TypeId) (l c : AV) : Option (AV × St) :=
  match T.elem t, l, c with
  | some te, .at (.data _ (.int _) n), .at (.data _ (.int _) m) => match T.ty te with
    | some e => if inb n (maxRow + 1) = true ∧ n = m ∧ zeroAll e = true ∧ dst < pinFrom then some (.at (.own dst 0 n.toNat), st.new dst (.arr (T.fr0 || e.flat) T.tr0 e te (List.replicate n.toNat e.zero))) else none
    | none => none
  | _, _, _ => none

def buildParts (e : Ty) : Nat → List (Nat × Operand) → St → Option (Bool × Bool × List e.den × St)
  | _, [], st => some (true, true, [], st)
  | i, (j, x) :: r, st =>
    if i = j then match settle st (st.ev x) with
      | some (v, st') => match viewAV st' e v with
        | some (fr, y) => match buildParts e (i + 1) r st' with
          | some (fr', tr', ys, st'') => some (fr && fr', treeAV st (st.ev x) && e.tree && tr', y :: ys, st'')
          | none => none
        | none => none
      | none => none
    else none

def evalBuildSlice (st : St) (dst : Nat) (t : TypeId) (len : Nat) (parts : Array (Nat × Operand)) : Option (AV × St) :=
  match T.elem t with
  | none => none
  | some te => match T.ty te with
    | none => none
    | some e => if parts.size = len ∧ len ≤ 64 ∧ e.size ≤ 64 ∧ dst < pinFrom then (match buildParts e 0 parts.toList st with
      | some (fr, tr, ys, st') => some (.at (.own dst 0 len), st'.new dst (.arr ((T.fr0 || e.flat) && fr) (T.tr0 && tr) e te ys))
      | none => none) else none

def evalMakeMap (st : St) (dst : Nat) (t : TypeId) : Option (AV × St) :=
  match T.mapOf t with
  | some v => if dst < pinFrom then some (.at (.mapr dst), st.new dst (.smp v fun _ => none)) else none
  | none => none
def upd1 {α : Type} (m : ByteArray → Option α) (k : ByteArray) (x : α) : ByteArray → Option α := fun s => if s = k then some x else m s
def evalMapSet (st : St) (t : TypeId) (m k x : AV) : Option St :=
  match T.mapOf t, m, k with
  | some v, .at (.mapr l), .at (.data _ .str s) => match st.at l, viewAV st v x with
    | some (.smp v' f), some (_, y) => if h : v' = v ∧ v.flat = true ∧ v.isStruct = false then some (st.setB l (.smp v (upd1 (h.1 ▸ f : ByteArray → Option v.den) s y))) else none
    | _, _ => none
  | _, _, _ => none
def evalCopy (st : St) (t t' : TypeId) (x y : AV) : Option (AV × St) :=
  match x, (T.elem t).bind T.ty with
  | .at (.own l off len), some e => if T.elem t = T.elem t' ∧ e.flat = true ∧ e.size = 1 then match st.at l, viewAV st (.slice e) y with
    | some (.arr fr _ e' tid xs), some (_, ys) => if h : e' = e ∧ T.elem t = some tid then
        some (.at (.data true (.int .i64) (min len ys.length : Nat)), st.setB l (.arr fr false e tid (splice (h.1 ▸ xs : List e.den) off (ys.take len))))
      else none
    | _, _ => none
    else none
  | _, _ => none
def evalClear (st : St) (t : TypeId) (x : AV) : Option St :=
  match x, (T.elem t).bind T.ty with
  | .at (.own l off len), some e => if e.flat = true ∧ zeroOK e = true then match st.at l with
    | some (.arr fr _ e' tid xs) => if h : e' = e ∧ T.elem t = some tid then
        some (st.setB l (.arr fr false e tid (splice (h.1 ▸ xs : List e.den) off (List.replicate len e.zero))))
      else none
    | _ => none
    else none
  | _, _ => none

def buildCells (st : St) (t : TypeId) : List (Nat × Operand) → List AC → Option (List AC)
  | [], cs => some cs
  | (i, x) :: r, cs =>
    match T.off t i with
    | some (o, u) => match T.ty u with
      | some ρ => match cellsOf ρ (st.ev x) with
        | some c => if o + c.length ≤ cs.length then buildCells st t r (splice cs o c) else none
        | none => none
      | none => none
    | none => none

def evalBuild (st : St) (t : TypeId) (parts : Array (Nat × Operand)) : Option AV :=
  match T.ty t with
  | none => none
  | some τ => if τ.isStruct then (buildCells T st t parts.toList (zeroCells τ)).map .agg else none

def rowL (io : Bool) (k : Nat) : Nat := if io then 1000000000 + k else 500000 + k
def resL (k : Nat) : Nat := 600000 + k
/-- A new row's label. -/
def newKey (dst : Nat) (k : Nat) : Nat := 1000000 * (dst + 1) + k

/-- Cells, gathered. -/
def groupA : List (Option Nat) → List AC → List AV
  | none :: s, a :: as => .at a :: groupA s as
  | some n :: s, as => .agg (as.take n) :: groupA s (as.drop n)
  | _, _ => []
def groupV : List (Option Nat) → List Value → List Value
  | none :: s, u :: us => u :: groupV s us
  | some n :: s, us => .agg (us.take n).toArray :: groupV s (us.drop n)
  | _, _ => []
def ungroup : List (Option Nat) → List AV → Option (List AC)
  | [], [] => some []
  | none :: s, .at a :: as => (ungroup s as).map fun r => a :: r
  | some n :: s, .agg cs :: as => if cs.length = n then (ungroup s as).map fun r => cs ++ r else none
  | _, _ => none

/-- A contract's row, as the state's. -/
def ckOB : (c : CK) → c.den → Option OB
  | .dat _, _ => none
  | .row e te, xs => some (.arr false false e te xs)
  | .xrow e te, xs => some (.xarr e te xs)
  | .part e te, x => some (.arr false false e te x.1)
def ckAC (l : Nat) : (c : CK) → c.den → AC
  | .dat τ, x => .data τ.flat τ x
  | .row _ _, xs => .own l 0 (List.length xs)
  | .xrow _ _, xs => .own l 0 (List.length xs)
  | .part _ _, x => .own l x.2.1 x.2.2
def consO {α : Type} (l : Nat) : Option α → List (Nat × α) → List (Nat × α)
  | none, r => r
  | some b, r => (l, b) :: r
def inOB : (k : Nat) → (cs : List (Bool × CK)) → Ins.den cs → List (Nat × OB)
  | _, [], _ => []
  | k, p :: r, x => consO (rowL p.1 k) (ckOB p.2 x.1) (inOB (k + 1) r x.2)
def inAC : (k : Nat) → (cs : List (Bool × CK)) → Ins.den cs → List AC
  | _, [], _ => []
  | k, p :: r, x => ckAC (rowL p.1 k) p.2 x.1 :: inAC (k + 1) r x.2

/-- A row that is handed over: the contract's label, where it lies (a row; a cell of an element of one). -/
inductive Loc where
  | row (l : Nat)
  | sub (l i c : Nat)
  | view (l : Nat)                         -- only read
  deriving DecidableEq
def Loc.lab : Loc → Nat
  | .row l => l
  | .sub l _ _ => l
  | .view l => l
def Loc.reads : Loc → Bool
  | .view _ => true
  | _ => false
/-- Variables that hold plain data alone. -/
def varsOK (st : St) (ls : List Nat) : Bool := ls.all fun l => match st.at l with | some (.var _ vs) => vs.all (·.settled) | _ => false
def views (k : Nat) (ls : List Nat) : List (Nat × Loc) := ls.map fun l => (rowL false k, .view l)
def takeC (st : St) (io : Bool) (k : Nat) : (c : CK) → AC → Option (c.den × List (Nat × Loc))
  | .dat τ, .own l off len => (viewAC st τ (.own l off len)).map fun p => (p.2, [(rowL false k, .view l)])
  | .dat τ, .clo g caps => if varsOK st (caps.map (·.1)) && !τ.isStruct then (viewTop st τ (.clo g caps)).map fun p => (p.2, views k (caps.map (·.1))) else none
  | .dat τ, .vptr l i => if varsOK st [l] && !τ.isStruct then (viewTop st τ (.vptr l i)).map fun p => (p.2, views k [l]) else none
  | .dat τ, a => if τ.flat || a.settled then (viewAC st τ a).map fun p => (p.2, []) else none
  | .row e te, .own l off len => match st.at l with
    | some (.arr _ _ e' te' xs) => if h : e' = e ∧ te' = te ∧ off = 0 ∧ len = xs.length then some ((h.1 ▸ xs : List e.den), [(rowL io k, .row l)]) else none
    | _ => none
  | .row e _, .sub l i c => match st.at l with
    | some (.xarr e' _ xs) => if h : e' = .slice e ∧ e.flat = true ∧ io = true ∧ c = 0 then xs[i]?.map fun y => ((h.1 ▸ y : (Ty.slice e).den), [(rowL io k, .sub l i c)]) else none
    | _ => none
  | .row _ _, .nilv => some ([], [])
  | .xrow e te, .own l off len => match st.at l with
    | some (.xarr e' te' xs) => if h : e' = e ∧ te' = te ∧ off = 0 ∧ len = xs.length then some ((h.1 ▸ xs : List e.den), [(rowL io k, .row l)]) else none
    | _ => none
  | .xrow e _, .sub l i c => match st.at l with
    | some (.xarr e' _ xs) => if h : e' = .slice e ∧ io = true ∧ c = 0 then xs[i]?.map fun y => ((h.1 ▸ y : (Ty.slice e).den), [(rowL io k, .sub l i c)]) else none
    | _ => none
  | .xrow _ _, .nilv => some ([], [])
  | .part e te, .own l off len => match st.at l with
    | some (.arr _ _ e' te' xs) => if h : e' = e ∧ te' = te ∧ e.flat = true ∧ io = true then some (((h.1 ▸ xs : List e.den), off, len), [(rowL io k, .row l)]) else none
    | _ => none
  | _, _ => none
def takeIn (st : St) : (k : Nat) → (cs : List (Bool × CK)) → List AC → Option (Ins.den cs × List (Nat × Loc))
  | _, [], [] => some ((), [])
  | k, p :: r, a :: as => match takeC st p.1 k p.2 a, takeIn st (k + 1) r as with
    | some (x, t1), some (y, t2) => some ((x, y), t1 ++ t2)
    | _, _ => none
  | _, _, _ => none

/-- What is handed back is put in its place. -/
def putC (st : St) : (c : CK) → c.den → AC → Option St
  | .row e _, ys, .own l _ len => match st.at l with
    | some (.arr fr tr e' te xs) => if h : e = e' ∧ List.length ys = len ∧ xs.length = len then some (st.setB l (.arr (fr && e'.flat) (tr && e'.flat) e' te (h.1 ▸ ys))) else none
    | _ => none
  | .xrow e _, ys, .own l _ len => match st.at l with
    | some (.xarr e' te xs) => if h : e = e' ∧ List.length ys = len ∧ xs.length = len then some (st.setB l (.xarr e' te (h.1 ▸ ys))) else none
    | _ => none
  | .row e _, ys, .sub l i _ => match st.at l with
    | some (.xarr e' te xs) => if h : .slice e = e' then (match xs[i]? with
      | some y => if List.length ys = List.length (h ▸ y : (Ty.slice e).den) then some (st.setB l (.xarr e' te (xs.set i (h ▸ (ys : (Ty.slice e).den))))) else none
      | none => none) else none
    | _ => none
  | .xrow e _, ys, .sub l i _ => match st.at l with
    | some (.xarr e' te xs) => if h : .slice e = e' then (match xs[i]? with
      | some y => if List.length ys = List.length (h ▸ y : (Ty.slice e).den) then some (st.setB l (.xarr e' te (xs.set i (h ▸ (ys : (Ty.slice e).den))))) else none
      | none => none) else none
    | _ => none
  | _, _, .nilv => some st
  | _, _, _ => none
def putP (st : St) (e : Ty) (ys : List e.den) : AC → Option St
  | .own l _ _ => match st.at l with
    | some (.arr fr tr e' te xs) => if h : e = e' ∧ List.length ys = xs.length then some (st.setB l (.arr fr tr e' te (h.1 ▸ ys))) else none
    | _ => none
  | _ => none
def putIO : (cs : List (Bool × CK)) → IOs.den cs → List AC → St → Option St
  | [], _, _, st => some st
  | (true, .dat _) :: r, x, _ :: as, st => putIO r x as st
  | (true, .row e te) :: r, x, a :: as, st => match putC st (.row e te) x.1 a with
    | some st' => putIO r x.2 as st'
    | none => none
  | (true, .xrow e te) :: r, x, a :: as, st => match putC st (.xrow e te) x.1 a with
    | some st' => putIO r x.2 as st'
    | none => none
  | (true, .part e _) :: r, x, a :: as, st => match putP st e x.1 a with
    | some st' => putIO r x.2 as st'
    | none => none
  | (false, _) :: r, x, _ :: as, st => putIO r x as st
  | _, _, _, _ => none

/-- Nothing more is said of what leads to these blocks; nor of the parts of those. -/
def forgetLs (dead part : List Nat) (c : AC) : AC := if c.refs.any (fun l => dead.contains l) then .undef else match c with
  | .sub l i c => if part.contains l then .undef else .sub l i c
  | c => c
def dropHs : List (Nat × OB) → List Nat → List (Nat × OB)
  | [], _ => []
  | (k, b) :: r, dead => if dead.contains k then dropHs r dead else (k, b) :: dropHs r dead
def St.forgetL (st : St) (dead part : List Nat) : St := let s := st.mapAC (forgetLs dead part); { s with heap := dropHs s.heap dead }

/-- What is handed back anew. -/
def newC (fr : Bool) : (c : CK) → c.den → Option OB
  | .dat _, _ => none
  | .row e te, xs => some (.arr (fr && e.flat) false e te xs)
  | .xrow e te, xs => some (.xarr e te xs)
  | .part e te, x => some (.arr (fr && e.flat) false e te x.1)
def insO (H : List (Nat × OB)) (l : Nat) : Option OB → List (Nat × OB)
  | some b => insH H l b
  | none => H
def putNew (fr : Bool) (key : Nat → Nat) : (k : Nat) → (cs : List CK) → CKs.den cs → List (Nat × OB) → List (Nat × OB)
  | _, [], _, H => H
  | k, c :: r, x, H => putNew fr key (k + 1) r x.2 (insO H (key k) (newC fr c x.1))
def outAC (key : Nat → Nat) : (k : Nat) → (cs : List CK) → CKs.den cs → List AC
  | _, [], _ => []
  | k, c :: r, x => (match c, x.1 with
    | .dat τ, y => .data τ.flat τ y
    | .row _ _, xs => .own (key k) 0 (List.length xs)
    | .xrow _ _, xs => .own (key k) 0 (List.length xs)
    | .part _ _, _ => .undef) :: outAC key (k + 1) r x.2

/-- A tuple's parts, or the value alone. -/
def partsA : List (Option Nat) → List AC → List (Bool × List AC)
  | none :: s, a :: as => (false, [a]) :: partsA s as
  | some n :: s, as => (true, as.take n) :: partsA s (as.drop n)
  | _, _ => []
def retA (multi : Bool) (sh : List (Option Nat)) (as : List AC) : Option AV :=
  if multi then some (.tupc (partsA sh as)) else match groupA sh as with
    | [v] => some v
    | [] => some .undef
    | _ => none

/-- The rows that the call has eaten, and those of which it has changed all. -/
def eaten (tks : List (Nat × Loc)) : List Nat := (tks.filter fun t => Nat.blt t.1 pinFrom && !t.2.reads).map fun t => t.2.lab
def whole (tks : List (Nat × Loc)) : List Nat := tks.flatMap fun t => match t.2 with | .row l => [l] | _ => []
def viewed (tks : List (Nat × Loc)) : List Nat := (tks.filter fun t => t.2.reads).map fun t => t.2.lab
/-- A row that is eaten lends its label to a result of its type. -/
def lends (ins : List (Bool × CK)) (te : TypeId) (used : List Nat) : List (Nat × Loc) → Option Nat
  | [] => none
  | (k, .row l) :: r => if Nat.blt k pinFrom && (!used.contains l && (match ins[k - 500000]? with
      | some (false, .row _ te') => decide (te' = te)
      | some (false, .xrow _ te') => decide (te' = te)
      | _ => false)) then some l else lends ins te used r
  | _ :: r => lends ins te used r
def keysOf (ins : List (Bool × CK)) (tks : List (Nat × Loc)) (d : Nat) : (k : Nat) → (used : List Nat) → List CK → List Nat
  | _, _, [] => []
  | k, used, c :: r => match (match c with
      | .row _ te => lends ins te used tks
      | .xrow _ te => lends ins te used tks
      | _ => none) with
    | some l => l :: keysOf ins tks d (k + 1) (l :: used) r
    | none => newKey d k :: keysOf ins tks d (k + 1) used r
def callKeys (s : MSpec) (tks : List (Nat × Loc)) (d : Nat) : List Nat := keysOf s.ins tks d 0 [] s.outs
def callKey (ks : List Nat) (j : Nat) : Nat := match ks[j]? with
  | some l => l
  | none => pinFrom + j
def keysOK (ks : List Nat) (n : Nat) : Bool := Nat.beq ks.length n && (nodupB ks && ks.all fun l => Nat.blt l pinFrom)
def frAll (st : St) (l : List Nat) : Bool := l.all fun k => match st.at k with | some (.arr fr _ _ _ _) => fr | _ => false

def evalCallM (st : St) (dst : Option Nat) (s : MSpec) (args : List AV) : Option (AV × St) :=
  match ungroup s.shapes args with
  | none => none
  | some as => match takeIn st 0 s.ins as with
    | none => none
    | some (x, tks) => if nodupB (tks.map fun t => t.2.lab) && keysOK (callKeys s tks (dst.getD 0)) s.outs.length && Nat.blt s.outs.length 1000 && Nat.blt s.ins.length 1000 then match s.fn x with
      | none => none
      | some (r, o) => match putIO s.ins o as st with
        | none => none
        | some st1 =>
          let key := callKey (callKeys s tks (dst.getD 0))
          let st2 := st1.forgetL (eaten tks ++ callKeys s tks (dst.getD 0) ++ (if s.flat then [] else viewed tks)) (whole tks)
          (retA s.multi s.rshapes (outAC key 0 s.outs r)).map fun v => (v, { st2 with heap := putNew (frAll st (eaten tks)) key 0 s.outs r st2.heap })
      else none

/-- Operands read off, and written no more. -/
def settleOps : List Operand → St → Option St
  | [], st => some st
  | x :: r, st => match settle st (st.ev x) with
    | some (_, st') => settleOps r st'
    | none => none
/-- What a call hands back may share its arguments' memory. -/
def needSettle (s : Spec) (args : List AV) : Bool := !(s.fresh || s.res.flat || args.all (·.settled))

/-- An operation: the value that it yields, and the state behind it. -/
def evalOp (Γ : Env) (st : St) (o : Oper) : Option (AV × St) :=
  match o.op with
  | .assign x => match st.ev x, o.dst, (T.elem o.type).bind fun te => (T.ty te).map fun e => (te, e) with
    | .at .nilv, some d, some (te, e) => if d < pinFrom then some (.at (.own d 0 0), st.new d (.arr (T.fr0 || e.flat) T.tr0 e te [])) else none
    | v, _, _ => some (v, st)
  | .alloc t => match o.dst, T.ty t with
    | some d, some τ => mkVar T st d t τ (zeroCells τ)
    | _, _ => none
  | .box t x => match o.dst, T.ty t with
    | some d, some τ => match cellsOf τ (st.ev x) with
      | some cs => mkVar T st d t τ cs
      | none => none
    | _, _ => none
  | .store t p x => (evalStore T st t (st.ev p) (st.ev x)).map fun s => (.undef, s)
  | .makeSlice t l c => match o.dst with
    | some d => evalMake T st d t (st.ev l) (st.ev c)
    | none => none
  | .makeMap t none => match o.dst with
    | some d => evalMakeMap T st d t
    | none => none
  | .mapUpdate t m k x => (evalMapSet T st t (st.ev m) (st.ev k) (st.ev x)).map fun s => (.undef, s)
  | .insert t m k x => (evalMapSet T st t (st.ev m) (st.ev k) (st.ev x)).map fun s => (.undef, s)
  | .buildSlice t len parts => match o.dst with
    | some d => evalBuildSlice T st d t len parts
    | none => none
  | .build t parts => (evalBuild T st t parts).map fun v => (v, st)
  | .call { callee := .builtin .append, args, argTypes } => match o.dst, args.toList, argTypes.toList with
    | some d, [x, y], [t, t'] => if t = t' then evalAppend T st d t x y else none
    | _, _, _ => none
  | .call { callee := .builtin .copy, args, argTypes } => match args.toList, argTypes.toList with
    | [x, y], [t, t'] => evalCopy T st t t' (st.ev x) (st.ev y)
    | _, _ => none
  | .call { callee := .builtin .clear, args, argTypes } => match args.toList, argTypes.toList with
    | [x], [t] => (evalClear T st t (st.ev x)).map fun s => (.undef, s)
    | _, _ => none
  | .call { callee := .value (.func f), args, ..  } => match Γ f with
    | some (.m s) => evalCallM st o.dst s (args.toList.map st.ev)
    | some (.q s) => if needSettle s (args.toList.map st.ev) then (match settleOps args.toList st with
      | some st1 => (evalQ T Γ st1 o).map fun v => (v, st1)
      | none => none) else (evalQ T Γ st o).map fun v => (v, st)
    | _ => (evalQ T Γ st o).map fun v => (v, st)
  | _ => (evalQ T Γ st o).map fun v => (v, st)

/-- A row's elements, where each is plain data. -/
def partsQ (e : Ty) : Nat → List (Nat × Operand) → St → Option (Bool × List e.den)
  | _, [], _ => some (true, [])
  | i, (j, x) :: r, st =>
    if i = j ∧ (st.ev x).settled = true then match viewAV st e (st.ev x), partsQ e (i + 1) r st with
      | some (fr, y), some (fr', ys) => some (fr && fr', y :: ys)
      | _, _ => none
    else none
def evalBuildQ (st : St) (t : TypeId) (len : Nat) (parts : Array (Nat × Operand)) : Option AV :=
  match T.elem t with
  | none => none
  | some te => match T.ty te with
    | none => none
    | some e => if parts.size = len ∧ len ≤ 64 ∧ e.size ≤ 64 then (partsQ e 0 parts.toList st).map fun p => .at (.data p.1 (.slice e) p.2) else none
/-- Quiet operations of a region that draws its order: those that make a row of plain data, too. -/
def evalB (Γ : Env) (st : St) (o : Oper) : Option AV :=
  match o.op with
  | .buildSlice t len parts => evalBuildQ T st t len parts
  | .build t parts => evalBuild T st t parts
  | _ => evalQ T Γ st o

/-- Whether an operation makes or writes memory (or turns what is known). -/
def loudOp (q : Bool) (Γ : Env) (o : Oper) : Bool :=
  match o.op with
  | .buildSlice _ _ _ | .build _ _ => !q
  | .alloc _ | .box _ _ | .store _ _ _ | .makeSlice _ _ _ | .makeMap _ _ | .mapUpdate _ _ _ _ | .insert _ _ _ _ => true
  | .assign (.const _) => true
  | .call { callee := .builtin .append, .. } => true
  | .call { callee := .builtin .copy, .. } => true
  | .call { callee := .builtin .clear, .. } => true
  | .call { callee := .value (.func f), .. } => match Γ f with
    | some (.m _) => true
    | _ => false
  | _ => false

def evalStep (Γ : Env) (ops : Array Oper) (st : St) (o : Oper) : Option St :=
  match o.guard with
  | none => (evalOp T Γ st o).map fun r => r.2.put o.dst r.1
  | some (j, want) => match boolAt st ((ops[j]?).bind (·.dst)) with
    | some (some b) => if b == want then (evalOp T Γ st o).map fun r => r.2.put o.dst r.1 else some (st.put o.dst (.at .skip))
    | some none => some (st.put o.dst (.at .skip))
    | none => none

def evalOps (Γ : Env) (ops : Array Oper) : List Oper → St → Option St
  | [], st => some st
  | o :: r, st => match evalStep T Γ ops st o with
    | some st' => evalOps Γ ops r st'
    | none => none

/-- A region that draws its order: first what is quiet, then the rest, each behind the one before. -/
def tailOps (q : Bool) (Γ : Env) (ops : Array Oper) : List Nat :=
  (List.range ops.size).foldl (init := []) fun acc i => match ops[i]? with
    | some o => if loudOp q Γ o || o.after.any (fun e => Region.binds .any e && acc.contains e.on) then acc ++ [i] else acc
    | none => acc
def headAll (q : Bool) (Γ : Env) (ops : Array Oper) : List Nat := (List.range ops.size).filter fun i => !(tailOps q Γ ops).contains i
/-- A copy of a slot for which none but a later one of the tail waits. -/
def isFloat (ops : Array Oper) (hd tl : List Nat) (i : Nat) : Bool :=
  match ops[i]? with
  | some o => (match o.op, o.guard with
    | .move (.tmp _), none => true
    | _, _ => false) && !((tl.take 1 ++ hd).any fun j => decide (i < j) && Region.waitsFor .any ops j i)
  | none => false
def floatOps (q : Bool) (Γ : Env) (ops : Array Oper) : List Nat := (headAll q Γ ops).filter fun i => isFloat ops (headAll q Γ ops) (tailOps q Γ ops) i
def headRest (q : Bool) (Γ : Env) (ops : Array Oper) : List Nat := (headAll q Γ ops).filter fun i => !isFloat ops (headAll q Γ ops) (tailOps q Γ ops) i
def headOps (q : Bool) (Γ : Env) (ops : Array Oper) : List Nat := floatOps q Γ ops ++ headRest q Γ ops

def seqOK (ops : Array Oper) : List Nat → Array Bool → Bool
  | [], listed => (Region.ready .any ops listed).isEmpty
  | k :: r, listed => decide (Region.ready .any ops listed = [k]) && seqOK ops r (listed.setIfInBounds k true)
def headOK (ops : Array Oper) (tl : List Nat) : List Nat → Array Bool → Bool
  | [], listed => seqOK ops tl listed
  | k :: r, listed => (Region.ready .any ops listed).contains k && Region.free .any ops listed k && headOK ops tl r (listed.setIfInBounds k true)
/-- Each of the head is waited for by the tail's first, or by one of the head behind it. -/
def sinkOK (ops : Array Oper) (hd : List Nat) : List Nat → Bool
  | [] => true
  | f :: r => (hd.all fun i => (f :: hd).any fun j => decide (i < j) && Region.waitsFor .any ops j i) && chain f r
where chain : Nat → List Nat → Bool
  | _, [] => true
  | k, t :: r => Region.waitsFor .any ops t k && chain t r
def floatOK (ops : Array Oper) (tl hd : List Nat) : List Nat → Array Bool → Bool
  | [], listed => headOK ops tl hd listed
  | k :: r, listed => (Region.ready .any ops listed).contains k && Region.free .any ops listed k && floatOK ops tl hd r (listed.setIfInBounds k true)
def orderOK (q : Bool) (Γ : Env) (ops : Array Oper) : Bool :=
  Region.noSelect ops && ((floatOps q Γ ops).length + ((headRest q Γ ops).length + (tailOps q Γ ops).length) == ops.size) && floatOK ops (tailOps q Γ ops) (headRest q Γ ops) (floatOps q Γ ops) (Array.replicate ops.size false) && sinkOK ops (headRest q Γ ops) (tailOps q Γ ops)

/-- What a quiet operation leaves in its slot. -/
def valQ (Γ : Env) (ops : Array Oper) (st : St) (o : Oper) : Option AV :=
  match o.guard with
  | none => evalB T Γ st o
  | some (j, want) => match boolAt st ((ops[j]?).bind (·.dst)) with
    | some (some b) => if b == want then evalB T Γ st o else some (.at .skip)
    | some none => some (.at .skip)
    | none => none
def evalOpsQ (Γ : Env) (ops : Array Oper) : List Nat → St → Option St
  | [], st => some st
  | i :: r, st => match ops[i]? with
    | none => none
    | some o => match valQ T Γ ops st o with
      | some v => evalOpsQ Γ ops r (st.put o.dst v)
      | none => none
def evalIdx (Γ : Env) (ops : Array Oper) : List Nat → St → Option St
  | [], st => some st
  | i :: r, st => match ops[i]? with
    | none => none
    | some o => match evalStep T Γ ops st o with
      | some st' => evalIdx Γ ops r st'
      | none => none

def evalRegion (Γ : Env) (ops : Array Oper) (draw : Bool) (st : St) : Option St :=
  if draw then (if orderOK false Γ ops then (match evalOpsQ T Γ ops (headOps false Γ ops) st with
    | some st' => evalIdx T Γ ops (tailOps false Γ ops) st'
    | none => none) else if orderOK true Γ ops then (match evalOpsQ T Γ ops (headOps true Γ ops) st with
    | some st' => evalIdx T Γ ops (tailOps true Γ ops) st'
    | none => none) else none)
  else evalOps T Γ ops ops.toList st

def isMoveT (ops : Array Oper) (i : Nat) : Bool := match ops[i]? with
  | some o => (match o.op, o.guard with
    | .move (.tmp _), none => true
    | _, _ => false)
  | none => false
/-- The copies of slots that can be taken at once. -/
def movesFrom (ops : Array Oper) : List Nat → Array Bool → List Nat
  | [], _ => []
  | i :: r, listed => if isMoveT ops i && ((Region.ready .any ops listed).contains i && Region.free .any ops listed i) then i :: movesFrom ops r (listed.setIfInBounds i true) else movesFrom ops r listed
def moves0 (ops : Array Oper) : List Nat := movesFrom ops (List.range ops.size) (Array.replicate ops.size false)
def listedAll : List Nat → Array Bool → Array Bool
  | [], listed => listed
  | i :: r, listed => listedAll r (listed.setIfInBounds i true)
def anyS (Γ : Env) (ops : Array Oper) (K : St → Prop) : Nat → Array Bool → St → Prop
  | 0, listed, st => Region.ready .any ops listed = [] ∧ K st
  | f + 1, listed, st => Region.ready .any ops listed ≠ [] ∧ ∀ i ∈ Region.ready .any ops listed, ∃ o st', ops[i]? = some o ∧ evalStep T Γ ops st o = some st' ∧ anyS Γ ops K f (listed.setIfInBounds i true) st'
/-- A region comes to states of which K holds. -/
def RegR (Γ : Env) (ops : Array Oper) (draw : Bool) (st : St) (K : St → Prop) : Prop :=
  (∃ st', evalRegion T Γ ops draw st = some st' ∧ K st') ∨
  (draw = true ∧ Region.noSelect ops = true ∧ ∃ st0, evalOpsQ T Γ ops (moves0 ops) st = some st0 ∧ anyS T Γ ops K (ops.size - (moves0 ops).length) (listedAll (moves0 ops) (Array.replicate ops.size false)) st0)

/-- The contracts in a region: where the order is drawn, those of the first kind. -/
def regEnv (Γ : Env) (draw : Bool) : Env := fun f => match Γ f with
  | some (.b s m) => some (if draw then .q s else .m m)
  | r => r

inductive AExit where
  | normal
  | exit (id : Nat)
  | ret

def clearTmps (live : List Nat) : Nat → List AV → List AV
  | _, [] => []
  | i, v :: r => (if live.contains i then v else .undef) :: clearTmps live (i + 1) r
def AV.refs : AV → List Nat
  | .at a => a.refs
  | .agg cs => cs.flatMap AC.refs
  | .tup _ _ _ => []
  | .tupc l => l.flatMap fun p => p.2.flatMap AC.refs
def OB.refs : OB → List Nat
  | .var _ vs => vs.flatMap AC.refs
  | _ => []
def forgetAll : List Nat → St → St
  | [], st => st
  | l :: r, st => forgetAll r (st.forget l)
/-- A row under another label. -/
def renL (l k m : Nat) : Nat := if m = l then k else m
def renAC (l k : Nat) : AC → AC
  | .own m off len => .own (renL l k m) off len
  | .vptr m i => .vptr (renL l k m) i
  | .eptr m i => .eptr (renL l k m) i
  | .clo f caps => .clo f (caps.map fun p => (renL l k p.1, p.2))
  | .mapr m => .mapr (renL l k m)
  | .sub m i c => .sub (renL l k m) i c
  | a => a
def St.rename (l k : Nat) (st : St) : St :=
  match hget st.heap k, hget st.heap l with
  | none, some b => if (Nat.blt l pinFrom && Nat.blt k pinFrom) = true then
      (let s := st.mapAC (renAC l k); { s with heap := insH (dropH s.heap l) k (b.map (renAC l k)) }) else st
  | _, _ => st
/-- Rows are named by the first slot that leads to them. -/
def renameRows : Nat → Nat → St → St
  | 0, _, st => st
  | n + 1, t, st => renameRows n (t + 1) (match st.get t with
    | .at (.own l _ _) => match hget st.heap l with
      | some (.arr _ _ _ _ _) => if (st.tmps.take t).any (fun v => v.refs.contains l) then st else st.rename l (700000 + t)
      | _ => st
    | _ => st)
/-- The mark that rows are to be renamed at loops' heads. -/
def renMark : Nat := 1000000007
/-- Flags that are let go: of rows of flat elements, that they are new; of a row that is named, all. -/
def OB.weak (flat all : Bool) : OB → OB
  | .arr fr tr e tid xs => .arr (fr && !(all || (flat && e.flat))) (tr && !all) e tid xs
  | b => b
def weakMark : Nat := 1000000009
def weakBase : Nat := 1100000000
def St.weak (live : List Nat) (st : St) : St := { st with heap := st.heap.map fun p => (p.1, p.2.weak (live.contains weakMark) (live.contains (weakBase + p.1))) }
/-- At a loop's head: only the slots that are read there. -/
def St.clean (live : List Nat) (st : St) : St :=
  let s : St := { st with tmps := clearTmps live 0 st.tmps }
  let r1 := s.tmps.flatMap AV.refs
  let r2 := r1 ++ (s.heap.filter fun p => r1.contains p.1).flatMap fun p => p.2.refs
  let s2 := forgetAll ((s.heap.map (·.1)).filter fun l => !r2.contains l && Nat.blt l pinFrom) s
  let s3 := if live.contains renMark then renameRows s2.tmps.length 0 s2 else s2
  if live.any (fun t => Nat.ble weakMark t) then s3.weak live else s3

/-- A loop's number: that of its body's first region. -/
def headId : Code → Nat
  | .region id _ _ => id
  | .seq a _ => headId a
  | .cond _ a _ => headId a
  | .block _ c => headId c
  | .loop c => 1000 + headId c
  | _ => 0

/-- The slots read later on, and those of each loop's head. -/
def addL (a b : List Nat) : List Nat := a ++ b.filter fun t => !a.contains t
def liveOps : List Oper → List Nat → List Nat
  | [], out => out
  | o :: r, out => addL (o.op.operands.toList.filterMap fun | .tmp t => some t | _ => none) (match o.dst with | some d => (liveOps r out).filter (· != d) | none => liveOps r out)
def envGet : List (Nat × List Nat) → Nat → List Nat
  | [], _ => []
  | (k, l) :: r, id => if k = id then l else envGet r id
def liveC : Code → List (Nat × List Nat) → List Nat → List Nat → List Nat × List (Nat × List Nat)
  | .region _ ops _, _, _, out => (liveOps ops.toList out, [])
  | .seq a b, env, ret, out => let rb := liveC b env ret out; let ra := liveC a env ret rb.1; (ra.1, ra.2 ++ rb.2)
  | .cond c a b, env, ret, out => let ra := liveC a env ret out; let rb := liveC b env ret out
    (addL (match c with | .tmp t => [t] | _ => []) (addL ra.1 rb.1), ra.2 ++ rb.2)
  | .block id c, env, ret, out => liveC c ((id, out) :: env) ret out
  | .exit id, env, _, _ => (envGet env id, [])
  | .ret, _, ret, _ => (ret, [])
  | .loop c, env, ret, _ => let l := (liveC c env ret []).1; let r := liveC c env ret l; (l, (headId c, l) :: r.2)
  | _, _, _, out => (out, [])
def liveRes : List ResultVar → List Nat
  | [] => []
  | .tmp t :: r => t :: liveRes r
  | .cell p _ :: r => p :: liveRes r
def liveOf (marks : List Nat) (fn : Func) (c : Code) : Nat → List Nat := let ret := liveRes fn.results.toList; let g := envGet (liveC c [] ret ret).2; match marks with
  | [] => g
  | m => fun id => g id ++ m

def onward (K : St → Prop) (Q : AExit → St → Prop) : AExit → St → Prop
  | .normal, s => K s
  | e, s => Q e s
def inBlk (id : Nat) (Q : AExit → St → Prop) : AExit → St → Prop
  | .exit id', s => if id' = id then Q .normal s else Q (.exit id') s
  | e, s => Q e s
/-- The plain run of the code comes, in whatever order, to an exit and a state of which Q holds. -/
inductive Runs (Γ : Env) (live : Nat → List Nat) : Code → St → (AExit → St → Prop) → Prop where
  | skip {st : St} {Q : AExit → St → Prop} : Q .normal st → Runs Γ live .skip st Q
  | label {l : Nat} {st : St} {Q : AExit → St → Prop} : Q .normal st → Runs Γ live (.label l) st Q
  | exit {id : Nat} {st : St} {Q : AExit → St → Prop} : Q (.exit id) st → Runs Γ live (.exit id) st Q
  | ret {st : St} {Q : AExit → St → Prop} : Q .ret st → Runs Γ live .ret st Q
  | region {id : Nat} {ops : Array Oper} {draw : Bool} {st : St} {Q : AExit → St → Prop} : RegR T (regEnv Γ draw) ops draw st (Q .normal) → Runs Γ live (.region id ops draw) st Q
  | seq {x y : Code} {st : St} {Q : AExit → St → Prop} (Q1 : AExit → St → Prop) : Runs Γ live x st Q1 → (∀ s, Q1 .normal s → Runs Γ live y s Q) → (∀ e s, e ≠ .normal → Q1 e s → Q e s) → Runs Γ live (.seq x y) st Q
  | cond {c : Operand} {x y : Code} {st : St} {fr t : Bool} {Q : AExit → St → Prop} : st.ev c = .at (.data fr .bool t) → (t = true → Runs Γ live x st Q) → (t = false → Runs Γ live y st Q) → Runs Γ live (.cond c x y) st Q
  | block {id : Nat} {c : Code} {st : St} {Q : AExit → St → Prop} (Q1 : AExit → St → Prop) : Runs Γ live c st Q1 → (∀ e s, Q1 e s → inBlk id Q e s) → Runs Γ live (.block id c) st Q
  | loop {c : Code} {st : St} {Q : AExit → St → Prop} (Q1 : AExit → St → Prop) : Runs Γ live c (st.clean (live (headId c))) Q1 → (∀ s, Q1 .normal s → Runs Γ live (.loop c) s Q) → (∀ e s, e ≠ .normal → Q1 e s → Q e s) → Runs Γ live (.loop c) st Q

/-- The results of a function, as plain data. -/
def resAVs (st : St) : List ResultVar → Option (List AV)
  | [] => some []
  | .tmp t :: r => (resAVs st r).map fun l => st.get t :: l
  | .cell p t :: r => match evalLoad T st t (st.get p), resAVs st r with
    | some v, some l => some (v :: l)
    | _, _ => none
def evalRes (s : Spec) (fn : Func) (st : St) : Option (Bool × s.res.den) :=
  match resAVs T st fn.results.toList with
  | some [v] => if s.multi then none else viewAV st s.res v
  | some [v, u] => if s.multi then viewArgs st s.res [v, u] else none
  | some [v, u, t] => if s.multi then viewArgs st s.res [v, u, t] else none
  | _ => none

def argAVs : (τ : Ty) → τ.den → List AV
  | .pair a r, x => .at (.data a.flat a x.1) :: argAVs r x.2
  | _, _ => []

def outC (st : St) : (c : CK) → AC → Option (c.den × List Nat)
  | .dat τ, a => if τ.flat || a.settled then (viewAC st τ a).map fun p => (p.2, []) else none
  | .row e te, .own l off len => match st.at l with
    | some (.arr _ _ e' te' xs) => if h : e' = e ∧ te' = te then some ((((h.1 ▸ xs : List e.den).drop off).take len), [l]) else none
    | _ => none
  | .row _ _, .nilv => some ([], [])
  | .xrow e te, .own l off len => match st.at l with
    | some (.arr _ tr e' te' xs) => if h : e' = e ∧ te' = te ∧ (tr || e.flat) = true then some ((((h.1 ▸ xs : List e.den).drop off).take len), [l]) else none
    | some (.xarr e' te' xs) => if h : e' = e ∧ te' = te then some ((((h.1 ▸ xs : List e.den).drop off).take len), [l]) else none
    | _ => none
  | .xrow _ _, .nilv => some ([], [])
  | _, _ => none
def outCs (st : St) : (cs : List CK) → List AC → Option (CKs.den cs × List Nat)
  | [], [] => some ((), [])
  | c :: r, a :: as => match outC st c a, outCs st r as with
    | some (x, t1), some (y, t2) => some ((x, y), t1 ++ t2)
    | _, _ => none
  | _, _ => none
def backC (st : St) (l : Nat) : (c : CK) → Option c.den
  | .dat _ => none
  | .row e te => match st.at l with
    | some (.arr _ _ e' te' xs) => if h : e' = e ∧ te' = te then some (h.1 ▸ xs) else none
    | _ => none
  | .xrow e te => match st.at l with
    | some (.xarr e' te' xs) => if h : e' = e ∧ te' = te then some (h.1 ▸ xs) else none
    | _ => none
  | .part _ _ => none
def backIO (st : St) : (k : Nat) → (cs : List (Bool × CK)) → Option (IOs.den cs)
  | _, [] => some ()
  | k, (true, .dat _) :: r => backIO st (k + 1) r
  | k, (true, .row e te) :: r => match backC st (rowL true k) (.row e te), backIO st (k + 1) r with
    | some x, some y => some (x, y)
    | _, _ => none
  | k, (true, .xrow e te) :: r => match backC st (rowL true k) (.xrow e te), backIO st (k + 1) r with
    | some x, some y => some (x, y)
    | _, _ => none
  | k, (true, .part e te) :: r => match backC st (rowL true k) (.row e te), backIO st (k + 1) r with
    | some x, some y => some (x, y)
    | _, _ => none
  | k, (false, _) :: r => backIO st (k + 1) r
def ioLabs : (k : Nat) → List (Bool × CK) → List Nat
  | _, [] => []
  | k, (true, .dat _) :: r => ioLabs (k + 1) r
  | k, (true, _) :: r => rowL true k :: ioLabs (k + 1) r
  | k, (false, _) :: r => ioLabs (k + 1) r
def evalResM (s : MSpec) (fn : Func) (st : St) : Option (CKs.den s.outs × IOs.den s.ins) :=
  match resAVs T st fn.results.toList with
  | none => none
  | some l => if s.multi = Nat.blt 1 l.length then match ungroup s.rshapes l with
    | none => none
    | some as => match outCs st s.outs as, backIO st 0 s.ins with
      | some (r, ls), some o => if (nodupB (ls ++ ioLabs 0 s.ins) && Nat.blt s.ins.length 1000 && s.mixOK) = true then some (r, o) else none
      | _, _ => none
    else none

/-- A function of the second kind at its arguments. -/
def RunsM (Γ : Env) (s : MSpec) (fn : Func) (x : Ins.den s.ins) (P : CKs.den s.outs × IOs.den s.ins → Prop) : Prop :=
  Nat.blt s.ins.length 1000 = true ∧ ∃ c, fn.body = some c ∧ Runs T Γ (liveOf T.marks fn c) c { tmps := groupA s.shapes (inAC 0 s.ins x) ++ List.replicate (fn.ntmps - (groupA s.shapes (inAC 0 s.ins x)).length) .undef, heap := inOB 0 s.ins x }
    (fun e st => (∀ id, e ≠ .exit id) ∧ ∃ y, evalResM T s fn st = some y ∧ P y)

/-- A function at its arguments. -/
def RunsF (Γ : Env) (s : Spec) (fn : Func) (x : s.arg.den) (P : s.res.den → Prop) : Prop :=
  ∃ c, fn.body = some c ∧ Runs T Γ (liveOf T.marks fn c) c { tmps := argAVs s.arg x ++ List.replicate (fn.ntmps - (argAVs s.arg x).length) .undef, heap := [] }
    (fun e st => (∀ id, e ≠ .exit id) ∧ ∃ fr y, evalRes T s fn st = some (fr, y) ∧ (fr || !s.fresh) = true ∧ P y)
end Go.Proofs.Ytfghmbpogmcboaa
