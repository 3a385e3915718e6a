/-
  AX, part 2: the plain state of a walk and the plain run of operations and code.
-/
import Derived.Test.YtingphpncocimaaAx1
namespace Go.Proofs.Ytingphpncocimaa
open Go.RowKit

/-- What is known of one cell. -/
inductive AC where
  | undef
  | skip                                   -- what an operation leaves that was not carried out
  | nilv
  | nilp                                   -- the nil pointer
  | data (fr : Bool) (τ : Ty) (x : τ.den)
  | own (l off len : Nat)
  | vptr (l i : Nat)
  | eptr (l i : Nat)

/-- What is known of a slot. -/
inductive AV where
  | at (a : AC)
  | agg (cs : List AC)
  | tup (fr : Bool) (τ : Ty) (x : τ.den)

@[reducible] def AV.undef : AV := .at .undef

/-- A block of the call's own. -/
inductive OB where
  | arr (fr : Bool) (e : Ty) (tid : TypeId) (xs : List e.den)
  | var (tid : TypeId) (vs : List AC)

structure St where
  tmps : List AV
  heap : List (Nat × OB)

def hget : List (Nat × OB) → Nat → Option OB
  | [], _ => none
  | (k, b) :: r, l => if k = l then some b else hget r l

def St.get (st : St) (t : Nat) : AV := st.tmps.getD t .undef
def St.at (st : St) (l : Nat) : Option OB := hget st.heap l

def setL {α : Type} : List α → Nat → α → List α
  | [], _, _ => []
  | _ :: r, 0, y => y :: r
  | x :: r, n + 1, y => x :: setL r n y

def St.put (st : St) (dst : Option Tmp) (v : AV) : St :=
  match dst with
  | some d => { st with tmps := setL st.tmps d v }
  | none => st

/-- All that is known of cells, turned. -/
def AV.map (f : AC → AC) : AV → AV
  | .at a => .at (f a)
  | .agg cs => .agg (cs.map f)
  | .tup fr τ x => .tup fr τ x
def OB.map (f : AC → AC) : OB → OB
  | .arr fr e t xs => .arr fr e t xs
  | .var t vs => .var t (vs.map f)
def dropH : List (Nat × OB) → Nat → List (Nat × OB)
  | [], _ => []
  | (k, b) :: r, l => if k = l then dropH r l else (k, b) :: dropH r l
def St.mapAC (st : St) (f : AC → AC) : St := { tmps := st.tmps.map (·.map f), heap := st.heap.map fun p => (p.1, p.2.map f) }

/-- Nothing more is said of what leads to block l. -/
def forgetAC (l : Nat) : AC → AC
  | .own k off len => if k = l then .undef else .own k off len
  | .vptr k i => if k = l then .undef else .vptr k i
  | .eptr k i => if k = l then .undef else .eptr k i
  | a => a
def St.forget (st : St) (l : Nat) : St := let s := st.mapAC (forgetAC l); { s with heap := dropH s.heap l }
/-- Block l is written no more. -/
def freezeAC (l : Nat) (fr : Bool) (e : Ty) (xs : List e.den) : AC → AC
  | .own k off len => if k = l then .data fr (.slice e) ((xs.drop off).take len) else .own k off len
  | .eptr k i => if k = l then .undef else .eptr k i
  | .vptr k i => if k = l then .undef else .vptr k i
  | a => a
def St.freeze (st : St) (l : Nat) (fr : Bool) (e : Ty) (xs : List e.den) : St := let s := st.mapAC (freezeAC l fr e xs); { s with heap := dropH s.heap l }
/-- Into its place: the keys stand in order. -/
def insH : List (Nat × OB) → Nat → OB → List (Nat × OB)
  | [], l, b => [(l, b)]
  | (k, c) :: r, l, b => if l < k then (l, b) :: (k, c) :: r else (k, c) :: insH r l b
def St.new (st : St) (l : Nat) (b : OB) : St := let s := st.forget l; { s with heap := insH s.heap l b }
def setH : List (Nat × OB) → Nat → OB → List (Nat × OB)
  | [], _, _ => []
  | (k, b) :: r, l, b' => if k = l then (k, b') :: r else (k, b) :: setH r l b'
def St.setB (st : St) (l : Nat) (b : OB) : St := { st with heap := setH st.heap l b }

/-- The tables: what the program's type numbers are. -/
structure Tab where
  ty : TypeId → Option Ty
  elem : TypeId → Option TypeId
  off : TypeId → Nat → Option (Nat × TypeId)

def Ty.zero : (τ : Ty) → τ.den
  | .int _ => (0 : Int)
  | .bool => false
  | .str => (ByteArray.empty)
  | .slice _ => []
  | .ptr a => a.zero
  | .unit => ()
  | .pair a r => (a.zero, r.zero)

/-- The fields of a struct, cell by cell. -/
def explode (fr : Bool) : (τ : Ty) → τ.den → List AC
  | .unit, _ => []
  | .pair a r, x => explode fr a x.1 ++ explode fr r x.2
  | τ, x => [.data fr τ x]

/-- A cell as plain data of a type. -/
def viewAC (st : St) : (τ : Ty) → AC → Option (Bool × τ.den)
  | τ, .data fr τ' x => if h : τ' = τ then some (fr || τ.flat, h ▸ x) else none
  | .slice _, .nilv => some (true, [])
  | .slice e, .own l off len => match st.at l with
    | some (.arr fr e' _ xs) => if h : e' = e then some (fr, ((h ▸ xs : List e.den).drop off).take len) else none
    | _ => none
  | _, _ => none

def viewCells (st : St) : (τ : Ty) → List AC → Option (Bool × τ.den)
  | .unit, [] => some (true, ())
  | .unit, _ :: _ => none
  | .pair a r, cs =>
    match viewCells st a (cs.take a.size), viewCells st r (cs.drop a.size) with
    | some (f1, x), some (f2, y) => some (f1 && f2, (x, y))
    | _, _ => none
  | τ, [c] => viewAC st τ c
  | _, _ => none

def viewAV (st : St) (τ : Ty) : AV → Option (Bool × τ.den)
  | .at (.data fr τ' x) => if h : τ' = τ then some (fr || τ.flat, h ▸ x) else none
  | .at a => if τ.isStruct then none else viewAC st τ a
  | .agg cs => if τ.isStruct then viewCells st τ cs else none
  | _ => none

/-- Arguments, one by one. -/
def viewArgs (st : St) : (τ : Ty) → List AV → Option (Bool × τ.den)
  | .unit, [] => some (true, ())
  | .pair a r, v :: vs =>
    match viewAV st a v, viewArgs st r vs with
    | some (f1, x), some (f2, y) => some (f1 && f2, (x, y))
    | _, _ => none
  | _, _ => none

/-- No cell leads to a block of the call's own. -/
def AC.settled : AC → Bool
  | .data _ _ _ | .nilv | .nilp => true
  | _ => false
def AV.settled : AV → Bool
  | .at a => a.settled
  | .agg cs => cs.all (·.settled)
  | .tup _ _ _ => true

/-- A function as its callers see it. 'fresh': its result lies in new memory (or leads to none). 'multi': it hands back a tuple. -/
structure Spec where
  arg : Ty
  res : Ty
  multi : Bool
  fresh : Bool
  fn : arg.den → Option res.den

abbrev Env := FuncId → Option Spec

def constAV : Value → AV
  | .int k n => .at (.data true (.int k) n)
  | .bool b => .at (.data true .bool b)
  | .string s => .at (.data true .str s)
  | .slice none 0 0 => .at .nilv
  | .pointer none => .at .nilp
  | _ => .undef

def St.ev (st : St) : Operand → AV
  | .tmp t => st.get t
  | .const v => constAV v
  | _ => .undef

def idx {α : Type} (xs : List α) (i : Int) : Option α := if 0 ≤ i then xs[i.toNat]? else none

/-- An index that is one. -/
def inb (n : Int) (len : Nat) : Bool := decide (0 ≤ n) && decide (n < len)
theorem inb_iff {n : Int} {len : Nat} : inb n len = true ↔ 0 ≤ n ∧ n < len := by simp [inb]

def bInt (k : IntKind) (n : Int) : Option AV := some (.at (.data true (.int k) n))
def bBool (b : Bool) : Option AV := some (.at (.data true .bool b))

def intBin (op : BinOp) (k : IntKind) (a b : Int) : Option AV :=
  match op with
  | .add => bInt k (k.wrap (a + b))
  | .sub => bInt k (k.wrap (a - b))
  | .mul => bInt k (k.wrap (a * b))
  | .quo => if b = 0 then none else bInt k (k.wrap (a.tdiv b))
  | .rem => if b = 0 then none else bInt k (a.tmod b)
  | .and => bInt k (k.wrap (BitVec.ofInt k.bits a &&& BitVec.ofInt k.bits b).toNat)
  | .or => bInt k (k.wrap (BitVec.ofInt k.bits a ||| BitVec.ofInt k.bits b).toNat)
  | .eql => bBool (a == b)
  | .neq => bBool (a != b)
  | .lss => bBool (decide (a < b))
  | .leq => bBool (decide (a ≤ b))
  | .gtr => bBool (decide (a > b))
  | .geq => bBool (decide (a ≥ b))
  | _ => none

def evalBin (op : BinOp) (x y : AV) : Option AV :=
  match x, y with
  | .at (.data _ (.int k) a), .at (.data _ (.int k') b) =>
    match op with
    | .shl => if b < 0 then none else bInt k (k.wrap (a * 2 ^ (min b.toNat k.bits)))
    | .shr => if b < 0 then none else bInt k (a.fdiv (2 ^ (min b.toNat k.bits)))
    | _ => if k = k' then intBin op k a b else none
  | .at (.data _ .str a), .at (.data _ .str b) =>
    match op with
    | .eql => bBool (a.toList == b.toList)
    | .neq => bBool (!(a.toList == b.toList))
    | .add => if a.size + b.size ≤ 4294967296 then some (.at (.data true .str (a ++ b))) else none
    | _ => none
  | _, _ => none

def evalUn (op : UnOp) (x : AV) : Option AV :=
  match op, x with
  | .not, .at (.data _ .bool b) => bBool (!b)
  | .neg, .at (.data _ (.int k) n) => bInt k (k.wrap (0 - n))
  | _, _ => none

def evalPick (c x y : AV) : Option AV :=
  match c with
  | .at (.data _ .bool b) => some (if b then x else y)
  | _ => none

def lenAV : AV → Option Int
  | .at .nilv => some 0
  | .at (.data _ (.slice _) xs) => some xs.length
  | .at (.data _ .str s) => some s.size
  | .at (.own _ _ len) => some (len : Int)
  | _ => none

def lenSl : AV → Option Int
  | .at .nilv => some 0
  | .at (.data _ (.slice _) xs) => some xs.length
  | .at (.own _ _ len) => some (len : Int)
  | _ => none
def lenSt : AV → Option Int
  | .at (.data _ .str s) => some s.size
  | _ => none

/-- A field of a struct that reads as plain data: at a cell's offset, of a type. -/
def fieldOf : (τ : Ty) → τ.den → Nat → (ρ : Ty) → Option ρ.den
  | .pair a r, x, o, ρ => if o = 0 then (if h : a = ρ then some (h ▸ x.1) else none) else if o < a.size then none else fieldOf r x.2 (o - a.size) ρ
  | _, _, _, _ => none

variable (T : Tab)

def evalLoad (st : St) (t : TypeId) (p : AV) : Option AV :=
  match T.ty t, p with
  | some τ, .at (.data fr (.ptr τ') x) => if τ' = τ then some (.at (.data fr τ' x)) else none
  | some τ, .at (.vptr l i) => match st.at l with
    | some (.var _ vs) => if τ.isStruct then (if i + τ.size ≤ vs.length then some (.agg ((vs.drop i).take τ.size)) else none) else vs[i]?.map .at
    | _ => none
  | some τ, .at (.eptr l i) => match st.at l with
    | some (.arr fr e _ xs) => if e = τ then xs[i]?.map fun x => .at (.data fr e x) else none
    | _ => none
  | _, _ => none

def evalIndexAddr (st : St) (t : TypeId) (x i : AV) : Option AV :=
  match x, i with
  | .at (.data fr (.slice e) xs), .at (.data _ (.int _) n) => if (T.elem t).bind T.ty = some e then (idx xs n).map fun x => .at (.data fr (.ptr e) x) else none
  | .at (.own l off len), .at (.data _ (.int _) n) => match st.at l with
    | some (.arr _ e tid _) => if T.elem t = some tid ∧ T.ty tid = some e ∧ inb n len = true then some (.at (.eptr l (off + n.toNat))) else none
    | _ => none
  | _, _ => none

def evalFieldAddr (s : TypeId) (x : AV) (f : Nat) : Option AV :=
  match T.off s f, x with
  | some (o, _), .at (.vptr l i) => some (.at (.vptr l (i + o)))
  | some (o, t), .at (.data fr (.ptr τ) x) => if T.ty s = some τ then (T.ty t).bind fun ρ => (fieldOf τ x o ρ).map fun y => .at (.data fr (.ptr ρ) y) else none
  | _, _ => none

def evalField (s : TypeId) (x : AV) (f : Nat) : Option AV :=
  match T.off s f, x with
  | some (o, t), .agg cs => (T.ty t).bind fun ρ => if ρ.isStruct then none else cs[o]?.map .at
  | some (o, t), .at (.data fr τ x) => if T.ty s = some τ then (T.ty t).bind fun ρ => (fieldOf τ x o ρ).map fun y => .at (.data fr ρ y) else none
  | _, _ => none

def bnd (v : Option AV) (d : Int) : Option Int :=
  match v with
  | none => some d
  | some (.at (.data _ (.int _) n)) => some n
  | _ => none

def evalSlice (st : St) (t : TypeId) (x : AV) (lo hi : Option AV) : Option AV :=
  match lenAV x with
  | none => none
  | some n =>
    match bnd lo 0, bnd hi n with
    | some l, some h =>
      if 0 ≤ l ∧ l ≤ h ∧ h ≤ n then
        match x with
        | .at (.data fr (.slice e) xs) => if (T.elem t).bind T.ty = some e then some (.at (.data fr (.slice e) ((xs.take h.toNat).drop l.toNat))) else none
        | .at (.own k off len) => match st.at k with
          | some (.arr _ e tid _) => if T.elem t = some tid ∧ T.ty tid = some e then some (.at (.own k (off + l.toNat) (h.toNat - l.toNat))) else none
          | _ => none
        | .at (.data _ .str s) => if T.ty t = some .str then some (.at (.data true .str (s.extract l.toNat h.toNat))) else none
        | _ => none
      else none
    | _, _ => none

def evalIndex (t : TypeId) (x i : AV) : Option AV :=
  match x, i with
  | .at (.data _ .str s), .at (.data _ (.int _) n) => if T.ty t = some .str then (if 0 ≤ n then s[n.toNat]?.map fun b => .at (.data true (.int .u8) b.toNat) else none) else none
  | _, _ => none

def evalCall (Γ : Env) (st : St) (f : FuncId) (args : List AV) : Option AV :=
  match Γ f with
  | none => none
  | some s =>
    if s.fresh || s.res.flat || args.all (·.settled) then
      match viewArgs st s.arg args with
      | none => none
      | some (_, x) => (s.fn x).map fun y => if s.multi then .tup (s.fresh || s.res.flat) s.res y else .at (.data (s.fresh || s.res.flat) s.res y)
    else none

/-- Component i of a tuple. -/
def tupAt (fr : Bool) : (τ : Ty) → τ.den → Nat → Option AV
  | .pair a _, x, 0 => some (.at (.data fr a x.1))
  | .pair _ r, x, n + 1 => tupAt fr r x.2 n
  | _, _, _ => none

def evalMM (mx : Bool) : List AV → Option AV
  | [.at (.data _ (.int k) a), .at (.data _ (.int k') b)] => if k = k' then bInt k (if mx then (if b > a then b else a) else (if b < a then b else a)) else none
  | _ => none

def evalBinT (op : BinOp) (t : TypeId) (x y : AV) : Option AV :=
  match op, x, y with
  | .eql, .at (.data _ .bool a), .at (.data _ .bool b) => if T.ty t = some .bool then bBool (a == b) else none
  | .neq, .at (.data _ .bool a), .at (.data _ .bool b) => if T.ty t = some .bool then bBool (!(a == b)) else none
  | op, x, y => evalBin op x y

/-- Operations that make no memory of the walk's own and write none. -/
def evalQ (Γ : Env) (st : St) (o : Oper) : Option AV :=
  match o.op with
  | .move x => some (st.ev x)
  | .assign x => some (st.ev x)
  | .pick c a b => evalPick (st.ev c) (st.ev a) (st.ev b)
  | .load t a => evalLoad T st t (st.ev a)
  | .nilCheck x => match st.ev x with
    | .at (.data fr (.ptr τ) x) => some (.at (.data fr (.ptr τ) x))
    | .at (.vptr l i) => some (.at (.vptr l i))
    | .at (.eptr l i) => some (.at (.eptr l i))
    | _ => none
  | .binOp op t x y _ => evalBinT T op t (st.ev x) (st.ev y)
  | .unOp op _ x => evalUn op (st.ev x)
  | .convert s t x => match T.ty s, T.ty t, st.ev x with
    | some _, some (.int k), .at (.data _ (.int _) n) => bInt k (k.wrap n)
    | _, _, _ => none
  | .slice t x lo hi mx => if mx.isSome then none else evalSlice T st t (st.ev x) (lo.map st.ev) (hi.map st.ev)
  | .fieldAddr s x f => evalFieldAddr T s (st.ev x) f
  | .field s x f => evalField T s (st.ev x) f
  | .indexAddr t x i => evalIndexAddr T st t (st.ev x) (st.ev i)
  | .index t x i => evalIndex T t (st.ev x) (st.ev i)
  | .extract x i => match st.ev x with
    | .tup fr τ y => tupAt fr τ y i
    | _ => none
  | .call { callee := .value (.func f), args, .. } => evalCall Γ st f (args.toList.map st.ev)
  | .call { callee := .builtin .len, args, argTypes } => match args.toList, argTypes.toList with
    | [x], [t] => match T.ty t with
      | some (.slice _) => (lenSl (st.ev x)).bind (bInt .i64)
      | some .str => (lenSt (st.ev x)).bind (bInt .i64)
      | _ => none
    | _, _ => none
  | .call { callee := .builtin .min, args, .. } => evalMM false (args.toList.map st.ev)
  | .call { callee := .builtin .max, args, .. } => evalMM true (args.toList.map st.ev)
  | _ => none

/-- What a guard's slot holds: a bool, or nothing. -/
def boolAt (st : St) (t : Option Tmp) : Option (Option Bool) :=
  match t with
  | some t => match st.get t with
    | .at (.data _ .bool b) => some (some b)
    | .at .skip => some none
    | _ => none
  | none => none
end Go.Proofs.Ytingphpncocimaa
