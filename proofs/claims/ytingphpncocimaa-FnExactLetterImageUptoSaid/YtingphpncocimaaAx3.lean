/-
  AX, part 3: the operations that make or write memory; regions; code.
-/
import Derived.Test.YtingphpncocimaaAx2
namespace Go.Proofs.Ytingphpncocimaa
open Go.RowKit

/-- A value made ready to be kept: what leads to a block of the call's own is read off, and the block is written no more. -/
def settleCells : Nat → St → List AC → Option (List AC × St)
  | 0, st, cs => if cs.all (·.settled) then some (cs, st) else none
  | n + 1, st, cs =>
    match cs.find? (fun c => !c.settled) with
    | none => some (cs, st)
    | some (.own l _ _) => match st.at l with
      | some (.arr fr _ e _ xs) => settleCells n (st.freeze l fr e xs) (cs.map (freezeAC l fr e xs))
      | some (.xarr e _ xs) => settleCells n (st.freeze l false e xs) (cs.map (freezeAC l false e xs))
      | _ => none
    | some (.mapr l) => match st.at l with
      | some (.smp v m) => settleCells n (st.freezeMap l v m) (cs.map (freezeM l v m))
      | _ => none
    | some _ => none

def settle (st : St) : AV → Option (AV × St)
  | .at (.own l off len) => match st.at l with
    | some (.arr fr _ e _ xs) => some (.at (.data fr (.slice e) ((xs.drop off).take len)), st.freeze l fr e xs)
    | some (.xarr e _ xs) => some (.at (.data false (.slice e) ((xs.drop off).take len)), st.freeze l false e xs)
    | _ => none
  | .at (.mapr l) => match st.at l with
    | some (.smp v m) => some (.at (.data false (.smap v) m), st.freezeMap l v m)
    | _ => none
  | .at a => if a.settled then some (.at a, st) else none
  | .agg cs => (settleCells cs.length st cs).map fun p => (.agg p.1, p.2)
  | .tup fr τ x => some (.tup fr τ x, st)
  | .tupc _ => none

def AC.refs : AC → List Nat
  | .own l _ _ | .vptr l _ | .eptr l _ | .mapr l => [l]
  | .clo _ caps => caps.map (·.1)
  | _ => []

def nodupB : List Nat → Bool
  | [] => true
  | a :: r => !r.contains a && nodupB r
/-- Types of whose values it can be told which blocks they lie in. -/
def Ty.tree : Ty → Bool
  | .int _ | .bool | .str | .unit => true
  | .slice e => e.tree
  | .pair a r => a.tree && r.tree
  | _ => false
/-- Values whose blocks are the call's own, and met by nothing else. -/
def treeCell (st : St) : AC → Bool
  | .data _ τ _ => τ.flat
  | .nilv => true
  | .own l _ _ => match st.at l with
    | some (.arr _ tr e _ _) => tr || e.flat
    | some (.xarr _ _ _) => true
    | _ => false
  | _ => false
def treeAV (st : St) : AV → Bool
  | .at a => treeCell st a
  | .agg cs => cs.all (treeCell st) && nodupB (cs.flatMap AC.refs)
  | _ => false

/-- Labels from here on stand for what was handed over, and stays in its place. -/
def pinFrom : Nat := 1000000000

variable (T : Tab)

/-- The type number of cell i of a type. -/
def cellTid (t : TypeId) (τ : Ty) (i : Nat) : Option TypeId :=
  if τ.isStruct then (List.range 24).findSome? fun f => match T.off t f with
    | some (o, u) => if o = i then some u else none
    | none => none
  else some t

/-- A nil slice in a cell of a variable becomes a row of the call's own. -/
def promoteNil (f0 t0 : Bool) (key l i : Nat) (te : TypeId) (e : Ty) (st : St) : St :=
  match st.at l with
  | some (.var _ vs) => match vs[i]? with
    | some .nilv =>
      let s1 := st.new key (.arr (f0 || e.flat) t0 e te [])
      match s1.at l with
      | some (.var tid vs') => s1.setB l (.var tid (setL vs' i (.own key 0 0)))
      | _ => s1
    | _ => st
  | _ => st
def promote (l : Nat) (t : TypeId) (τ : Ty) : Nat → Nat → St → St
  | 0, _, st => st
  | n + 1, i, st =>
    promote l t τ n (i + 1) (match ((cellTid T t τ i).bind T.elem).bind fun te => (T.ty te).map fun e => (te, e) with
      | some (te, e) => promoteNil T.fr0 T.tr0 (100000 + l * 100 + i) l i te e st
      | none => st)

def zeroCells : (τ : Ty) → List AC
  | .unit => []
  | .pair a r => zeroCells a ++ zeroCells r
  | .slice _ => [.nilv]
  | .oslice _ => [.nilv]
  | .ptr _ => [.nilp]
  | .optr _ => [.nilp]
  | .clo _ _ => [.undef]
  | τ => [.data true τ τ.zero]

def cellsOf (τ : Ty) : AV → Option (List AC)
  | .agg cs => if τ.isStruct && cs.length == τ.size then some cs else none
  | .at (.data fr τ' x) => if τ' = τ then some (explode fr τ' x) else none
  | .at .undef => none
  | .at .skip => none
  | .at a => if τ.isStruct then none else some [a]
  | _ => none

def mkVar (st : St) (l : Nat) (t : TypeId) (τ : Ty) (cs : List AC) : Option (AV × St) :=
  if pinFrom ≤ 100000 + l * 100 + cs.length then none else
  let s := promote T l t τ cs.length 0 (st.new l (.var t (cs.map (forgetAC l))))
  match s.at l with
  | some (.var _ _) => some (.at (.vptr l 0), s)
  | _ => none

def splice {α : Type} (xs : List α) (i : Nat) (ys : List α) : List α := xs.take i ++ ys ++ xs.drop (i + ys.length)

def evalStore (st : St) (t : TypeId) (p v : AV) : Option St :=
  match T.ty t, p with
  | some τ, .at (.vptr l i) => match st.at l, cellsOf τ v with
    | some (.var tid vs), some cs => if i + cs.length ≤ vs.length then some (st.setB l (.var tid (splice vs i cs))) else none
    | _, _ => none
  | some τ, .at (.eptr l j) => match settle st v with
    | some (v', st') => match st'.at l, viewAV st' τ v' with
      | some (.arr fr _ e tid xs), some (fr', x) => if h : τ = e then (if j < xs.length then some (st'.setB l (.arr (fr && fr') false e tid (xs.set j (h ▸ x)))) else none) else none
      | _, _ => none
    | none => none
  | _, _ => none

def maxRow : Nat := 4294967296

def evalAppend (st : St) (dst : Nat) (t : TypeId) (x y : Operand) : Option (AV × St) :=
  match T.elem t with
  | none => none
  | some te => match T.ty te, settle st (st.ev y) with
    | some e, some (y', st') => match viewAV st' (.slice e) y' with
      | none => none
      | some (fr2, ys) =>
        let tr2 := treeAV st (st.ev y) && e.tree
        match st'.ev x with
        | .at .nilv => if ys.length ≤ maxRow ∧ dst < pinFrom then some (.at (.own dst 0 (0 + ys.length)), (st'.new dst (.arr (T.fr0 || e.flat) T.tr0 e te [])).new dst (.arr ((T.fr0 || e.flat) && fr2) (T.tr0 && tr2) e te (((([] : List e.den).drop 0).take 0) ++ ys))) else none
        | .at (.own l off len) => match st'.at l with
          | some (.arr fr tr e' tid xs) => if h : e' = e ∧ tid = te then
              (if len + ys.length ≤ maxRow ∧ l < pinFrom then
                some (.at (.own l 0 (len + ys.length)), st'.new l (.arr (fr && fr2) (tr && tr2) e te ((((h.1 ▸ xs : List e.den).drop off).take len) ++ ys))) else none)
            else none
          | _ => none
        | _ => none
    | _, _ => none

def zeroOK : Ty → Bool
  | .int _ | .bool | .str | .slice _ => true
  | _ => false

def evalMake (st : St) (dst : Nat) (t : TypeId) (l c : AV) : Option (AV × St) :=
  match T.elem t, l, c with
  | some te, .at (.data _ (.int _) n), .at (.data _ (.int _) m) => match T.ty te with
    | some e => if inb n (maxRow + 1) = true ∧ n = m ∧ zeroOK e = true ∧ dst < pinFrom then some (.at (.own dst 0 n.toNat), st.new dst (.arr (T.fr0 || e.flat) false e te (List.replicate n.toNat e.zero))) else none
    | none => none
  | _, _, _ => none

def buildParts (e : Ty) : Nat → List (Nat × Operand) → St → Option (Bool × Bool × List e.den × St)
  | _, [], st => some (true, true, [], st)
  | i, (j, x) :: r, st =>
    if i = j then match settle st (st.ev x) with
      | some (v, st') => match viewAV st' e v with
        | some (fr, y) => match buildParts e (i + 1) r st' with
          | some (fr', tr', ys, st'') => some (fr && fr', treeAV st (st.ev x) && e.tree && tr', y :: ys, st'')
          | none => none
        | none => none
      | none => none
    else none

def evalBuildSlice (st : St) (dst : Nat) (t : TypeId) (len : Nat) (parts : Array (Nat × Operand)) : Option (AV × St) :=
  match T.elem t with
  | none => none
  | some te => match T.ty te with
    | none => none
    | some e => if parts.size = len ∧ len ≤ 64 ∧ e.size ≤ 64 ∧ dst < pinFrom then (match buildParts e 0 parts.toList st with
      | some (fr, tr, ys, st') => some (.at (.own dst 0 len), st'.new dst (.arr ((T.fr0 || e.flat) && fr) (T.tr0 && tr) e te ys))
      | none => none) else none

/-! ### Maps, copies -/
def evalMakeMap (st : St) (dst : Nat) (t : TypeId) : Option (AV × St) :=
  match T.mapOf t with
  | some v => if dst < pinFrom then some (.at (.mapr dst), st.new dst (.smp v fun _ => none)) else none
  | none => none
def upd1 {α : Type} (m : ByteArray → Option α) (k : ByteArray) (x : α) : ByteArray → Option α := fun s => if s = k then some x else m s
def evalMapSet (st : St) (t : TypeId) (m k x : AV) : Option St :=
  match T.mapOf t, m, k with
  | some v, .at (.mapr l), .at (.data _ .str s) => match st.at l, viewAV st v x with
    | some (.smp v' f), some (_, y) => if h : v' = v ∧ v.flat = true ∧ v.isStruct = false then some (st.setB l (.smp v (upd1 (h.1 ▸ f : ByteArray → Option v.den) s y))) else none
    | _, _ => none
  | _, _, _ => none
def evalCopy (st : St) (t t' : TypeId) (x y : AV) : Option (AV × St) :=
  match x, (T.elem t).bind T.ty with
  | .at (.own l off len), some e => if T.elem t = T.elem t' ∧ e.flat = true ∧ e.size = 1 then match st.at l, viewAV st (.slice e) y with
    | some (.arr fr _ e' tid xs), some (_, ys) => if h : e' = e ∧ T.elem t = some tid then
        some (.at (.data true (.int .i64) (min len ys.length : Nat)), st.setB l (.arr fr false e tid (splice (h.1 ▸ xs : List e.den) off (ys.take len))))
      else none
    | _, _ => none
    else none
  | _, _ => none
def evalClear (st : St) (t : TypeId) (x : AV) : Option St :=
  match x, (T.elem t).bind T.ty with
  | .at (.own l off len), some e => if e.flat = true ∧ zeroOK e = true then match st.at l with
    | some (.arr fr _ e' tid xs) => if h : e' = e ∧ T.elem t = some tid then
        some (st.setB l (.arr fr false e tid (splice (h.1 ▸ xs : List e.den) off (List.replicate len e.zero))))
      else none
    | _ => none
    else none
  | _, _ => none

def buildCells (st : St) (t : TypeId) : List (Nat × Operand) → List AC → Option (List AC)
  | [], cs => some cs
  | (i, x) :: r, cs =>
    match T.off t i with
    | some (o, u) => match T.ty u with
      | some ρ => match cellsOf ρ (st.ev x) with
        | some c => if o + c.length ≤ cs.length then buildCells st t r (splice cs o c) else none
        | none => none
      | none => none
    | none => none

def evalBuild (st : St) (t : TypeId) (parts : Array (Nat × Operand)) : Option AV :=
  match T.ty t with
  | none => none
  | some τ => if τ.isStruct then (buildCells T st t parts.toList (zeroCells τ)).map .agg else none

/-! ### Calls that are handed rows, or hand them back -/
def rowL (io : Bool) (i j : Nat) : Nat := if io then 1000000000 + i * 100 + j else 500000 + i * 100 + j
def objL (i : Nat) : Nat := 1000000000 + i * 100 + 99
def resL (i j : Nat) : Nat := 600000 + i * 100 + j

/-- A contract's cell as the state's, with its row. -/
def ckAC (l : Nat) : (c : CK) → c.den → AC
  | .dat τ, x => .data false τ x
  | .row _ _, xs => .own l 0 (List.length xs)
  | .xrow _ _, xs => .own l 0 (List.length xs)
def ckOB (l : Nat) : (c : CK) → c.den → List (Nat × OB)
  | .dat _, _ => []
  | .row e te, xs => [(l, .arr false false e te xs)]
  | .xrow e te, xs => [(l, .xarr e te xs)]
def cksAC (lab : Nat → Nat) : (j : Nat) → (cs : List CK) → CKs.den cs → List AC
  | _, [], _ => []
  | j, c :: r, x => ckAC (lab j) c x.1 :: cksAC lab (j + 1) r x.2
def cksOB (lab : Nat → Nat) : (j : Nat) → (cs : List CK) → CKs.den cs → List (Nat × OB)
  | _, [], _ => []
  | j, c :: r, x => ckOB (lab j) c x.1 ++ cksOB lab (j + 1) r x.2
def pkAV (i : Nat) : (p : PK) → p.den → AV
  | .one c io, x => .at (ckAC (rowL io i 0) c x)
  | .agg cs io, x => .agg (cksAC (rowL io i) 0 cs x)
  | .obj _ _, _ => .at (.vptr (objL i) 0)
def pkOB (i : Nat) : (p : PK) → p.den → List (Nat × OB)
  | .one c io, x => ckOB (rowL io i 0) c x
  | .agg cs io, x => cksOB (rowL io i) 0 cs x
  | .obj t cs, x => cksOB (rowL false i) 0 cs x ++ [(objL i, .var t (cksAC (rowL false i) 0 cs x))]
def psAV : (i : Nat) → (ps : List PK) → PKs.den ps → List AV
  | _, [], _ => []
  | i, p :: r, x => pkAV i p x.1 :: psAV (i + 1) r x.2
def psOB : (i : Nat) → (ps : List PK) → PKs.den ps → List (Nat × OB)
  | _, [], _ => []
  | i, p :: r, x => pkOB i p x.1 ++ psOB (i + 1) r x.2
/-- What is handed back of a parameter. -/
def poOB (i : Nat) : (p : PK) → p.out → List (Nat × OB)
  | .one (.dat _) _, _ => []
  | .one (.row e te) true, x => ckOB (rowL true i 0) (.row e te) x
  | .one (.xrow e te) true, x => ckOB (rowL true i 0) (.xrow e te) x
  | .one (.row _ _) false, _ => []
  | .one (.xrow _ _) false, _ => []
  | .agg cs true, x => cksOB (rowL true i) 0 cs x
  | .agg _ false, _ => []
  | .obj t cs, x => cksOB (rowL false i) 0 cs x ++ [(objL i, .var t (cksAC (rowL false i) 0 cs x))]
def posOB : (i : Nat) → (ps : List PK) → PKs.out ps → List (Nat × OB)
  | _, [], _ => []
  | i, p :: r, x => poOB i p x.1 ++ posOB (i + 1) r x.2
def rkOB (i : Nat) : (p : RK) → p.den → List (Nat × OB)
  | .one c, x => ckOB (resL i 0) c x
  | .agg cs, x => cksOB (resL i) 0 cs x
def rsOB : (i : Nat) → (ps : List RK) → RKs.den ps → List (Nat × OB)
  | _, [], _ => []
  | i, p :: r, x => rkOB i p x.1 ++ rsOB (i + 1) r x.2
def rkAV (i : Nat) : (p : RK) → p.den → Bool × List AC
  | .one c, x => (false, [ckAC (resL i 0) c x])
  | .agg cs, x => (true, cksAC (resL i) 0 cs x)
def rsAV : (i : Nat) → (ps : List RK) → RKs.den ps → List (Bool × List AC)
  | _, [], _ => []
  | i, p :: r, x => rkAV i p x.1 :: rsAV (i + 1) r x.2

/-- A row that is handed over: the contract's label, the state's, the part. -/
structure Tk where
  c : Nat
  l : Nat
  off : Nat
  len : Nat
  all : Nat
  fr : Bool

/-- A cell of the state as a contract's. 'res': a row that was built of own parts is handed back with them. -/
def takeC (res : Bool) (st : St) (lc : Nat) : (c : CK) → AC → Option (Bool × c.den × List Tk)
  | .dat τ, a => if τ.flat || a.settled then (viewAC st τ a).map fun p => (p.1, p.2, []) else none
  | .row e te, .own l off len => match st.at l with
    | some (.arr fr _ e' te' xs) => if h : e' = e ∧ te' = te then some (fr, (((h.1 ▸ xs : List e.den).drop off).take len), [⟨lc, l, off, len, xs.length, fr⟩]) else none
    | _ => none
  | .row _ _, .nilv => some (true, [], [])
  | .xrow e te, .own l off len => match st.at l with
    | some (.xarr e' te' xs) => if h : e' = e ∧ te' = te then some (true, (((h.1 ▸ xs : List e.den).drop off).take len), [⟨lc, l, off, len, xs.length, false⟩]) else none
    | some (.arr true true e' te' xs) => if h : e' = e ∧ te' = te ∧ res = true then some (true, (((h.1 ▸ xs : List e.den).drop off).take len), [⟨lc, l, off, len, xs.length, true⟩]) else none
    | _ => none
  | .xrow _ _, .nilv => some (true, [], [])
  | _, _ => none
def takeCs (res : Bool) (st : St) (lab : Nat → Nat) : (j : Nat) → (cs : List CK) → List AC → Option (Bool × CKs.den cs × List Tk)
  | _, [], [] => some (true, (), [])
  | j, c :: r, a :: as => match takeC res st (lab j) c a, takeCs res st lab (j + 1) r as with
    | some (f1, x, t1), some (f2, y, t2) => some (f1 && f2, (x, y), t1 ++ t2)
    | _, _ => none
  | _, _, _ => none

/-- An argument; plain data that leads to memory is written no more. -/
def takeP (st : St) (i : Nat) (p : PK) (x : Operand) : Option (Bool × p.den × List Tk × St) :=
  match p with
  | .one (.dat τ) _ => if τ.flat then (viewAV st τ (st.ev x)).map fun p => (p.1, p.2, [], st) else match settle st (st.ev x) with
    | some (v, st') => (viewAV st' τ v).map fun p => (p.1, p.2, [], st')
    | none => none
  | .one (.row e te) io => match st.ev x with
    | .at a => (takeC false st (rowL io i 0) (.row e te) a).map fun p => (p.1, p.2.1, p.2.2, st)
    | _ => none
  | .one (.xrow e te) io => match st.ev x with
    | .at a => (takeC false st (rowL io i 0) (.xrow e te) a).map fun p => (p.1, p.2.1, p.2.2, st)
    | _ => none
  | .agg cs io => match st.ev x with
    | .agg as => (takeCs false st (rowL io i) 0 cs as).map fun p => (p.1, p.2.1, p.2.2, st)
    | _ => none
  | .obj t cs => match st.ev x with
    | .at (.vptr l 0) => match st.at l with
      | some (.var t' as) => if t' = t then (takeCs false st (rowL false i) 0 cs as).map fun p => (p.1, p.2.1, p.2.2 ++ [⟨objL i, l, 0, 0, 0, true⟩], st) else none
      | _ => none
    | _ => none
def takePs (st : St) : (i : Nat) → (ps : List PK) → List Operand → Option (Bool × PKs.den ps × List Tk × St)
  | _, [], [] => some (true, (), [], st)
  | i, p :: r, x :: xs => match takeP st i p x with
    | some (f1, a, t1, st1) => match takePs st1 (i + 1) r xs with
      | some (f2, b, t2, st2) => some (f1 && f2, (a, b), t1 ++ t2, st2)
      | none => none
    | none => none
  | _, _, _ => none

/-- The labels whose rows stay in their places, and those that are let go. -/
def Tk.stays (t : Tk) : Bool := Nat.ble pinFrom t.c
def wholeTks : List Tk → Prop
  | [] => True
  | t :: r => t.off = 0 ∧ t.len = t.all ∧ wholeTks r
instance : (l : List Tk) → Decidable (wholeTks l)
  | [] => .isTrue trivial
  | t :: r => match decEq t.off 0, decEq t.len t.all, instDecidableWholeTks r with
    | .isTrue a, .isTrue b, .isTrue c => .isTrue ⟨a, b, c⟩
    | .isFalse a, _, _ => .isFalse fun h => a h.1
    | _, .isFalse b, _ => .isFalse fun h => b h.2.1
    | _, _, .isFalse c => .isFalse fun h => c h.2.2

def forgetLs (dead : List Nat) (c : AC) : AC := if c.refs.any (fun l => dead.contains l) then .undef else c
def dropHs : List (Nat × OB) → List Nat → List (Nat × OB)
  | [], _ => []
  | (k, b) :: r, dead => if dead.contains k then dropHs r dead else (k, b) :: dropHs r dead
def St.forgetL (st : St) (dead : List Nat) : St := let s := st.mapAC (forgetLs dead); { s with heap := dropHs s.heap dead }

/-- What is handed back, in the state's labels. -/
def relab (tks : List Tk) (key : Nat → Nat) (c : Nat) : Nat :=
  match tks with
  | [] => key c
  | t :: r => if t.c = c then t.l else relab r key c
def relabAC (tks : List Tk) (key : Nat → Nat) (fr : Bool) : AC → AC
  | .data _ τ x => .data fr τ x
  | .own c off len => .own (relab tks key c) off len
  | .vptr c i => .vptr (relab tks key c) i
  | _ => .undef
def relabOB (tks : List Tk) (key : Nat → Nat) (fr fri : Bool) : OB → OB
  | .arr _ _ e t xs => .arr (fri && (fr || e.flat)) false e t xs
  | .var t vs => .var t (vs.map (relabAC tks key fr))
  | b => b
def putHs (tks : List Tk) (key : Nat → Nat) (fr fri : Bool) : List (Nat × OB) → List (Nat × OB) → List (Nat × OB)
  | [], H => H
  | (c, b) :: r, H =>
    let l := relab tks key c
    putHs tks key fr fri r (match hget H l with
      | some _ => setH H l (relabOB tks key fr fri b)
      | none => insH H l (relabOB tks key fr fri b))
/-- A new row's label. -/
def newKey (dst : Nat) (c : Nat) : Nat := 1000000 * (dst + 1) + c
def deadOf (tks : List Tk) (key : Nat → Nat) (news : List Nat) : List Nat := (tks.filter fun t => !t.stays).map (·.l) ++ (news.filter fun c => !tks.any (fun t => t.c = c)).map key
def labsOK (tks : List Tk) (key : Nat → Nat) (news : List Nat) : Bool := news.all fun c => tks.any (fun t => t.c == c) || Nat.blt (key c) pinFrom
def evalCallM (st : St) (dst : Option Nat) (s : MSpec) (args : List Operand) : Option (AV × St) :=
  match takePs st 0 s.ins args with
  | none => none
  | some (fr, x, tks, st1) =>
    if nodupB (tks.map (·.l)) = true ∧ wholeTks tks then
      match s.fn x with
      | none => none
      | some (r, o) =>
        let key := newKey (dst.getD 0)
        let fri := tks.all (·.fr)
        let H := posOB 0 s.ins o ++ rsOB 0 s.outs r
        if labsOK tks key (H.map (·.1)) = false then none else
        let st2 := st1.forgetL (deadOf tks key (H.map (·.1)))
        let st3 : St := { st2 with heap := putHs tks key fr fri H st2.heap }
        match (rsAV 0 s.outs r).map fun p => (p.1, p.2.map (relabAC tks key fr)) with
        | [] => some (.undef, st3)
        | [p] => (avOf p).map fun v => (v, st3)
        | l => some (.tupc l, st3)
    else none

/-- An operation: the value that it yields, and the state behind it. -/
def evalOp (Γ : Env) (st : St) (o : Oper) : Option (AV × St) :=
  match o.op with
  | .assign x => match st.ev x, o.dst, (T.elem o.type).bind fun te => (T.ty te).map fun e => (te, e) with
    | .at .nilv, some d, some (te, e) => if d < pinFrom then some (.at (.own d 0 0), st.new d (.arr (T.fr0 || e.flat) T.tr0 e te [])) else none
    | v, _, _ => some (v, st)
  | .alloc t => match o.dst, T.ty t with
    | some d, some τ => mkVar T st d t τ (zeroCells τ)
    | _, _ => none
  | .box t x => match o.dst, T.ty t with
    | some d, some τ => match cellsOf τ (st.ev x) with
      | some cs => mkVar T st d t τ cs
      | none => none
    | _, _ => none
  | .store t p x => (evalStore T st t (st.ev p) (st.ev x)).map fun s => (.undef, s)
  | .makeSlice t l c => match o.dst with
    | some d => evalMake T st d t (st.ev l) (st.ev c)
    | none => none
  | .makeMap t none => match o.dst with
    | some d => evalMakeMap T st d t
    | none => none
  | .mapUpdate t m k x => (evalMapSet T st t (st.ev m) (st.ev k) (st.ev x)).map fun s => (.undef, s)
  | .buildSlice t len parts => match o.dst with
    | some d => evalBuildSlice T st d t len parts
    | none => none
  | .build t parts => (evalBuild T st t parts).map fun v => (v, st)
  | .call { callee := .builtin .append, args, argTypes } => match o.dst, args.toList, argTypes.toList with
    | some d, [x, y], [t, t'] => if t = t' then evalAppend T st d t x y else none
    | _, _, _ => none
  | .call { callee := .builtin .copy, args, argTypes } => match args.toList, argTypes.toList with
    | [x, y], [t, t'] => evalCopy T st t t' (st.ev x) (st.ev y)
    | _, _ => none
  | .call { callee := .builtin .clear, args, argTypes } => match args.toList, argTypes.toList with
    | [x], [t] => (evalClear T st t (st.ev x)).map fun s => (.undef, s)
    | _, _ => none
  | .call { callee := .value (.func f), ..  } => match Γ f with
    | some (.m _) => none
    | _ => (evalQ T Γ st o).map fun v => (v, st)
  | _ => (evalQ T Γ st o).map fun v => (v, st)

/-- Whether an operation makes or writes memory (or turns what is known). -/
def loudOp (Γ : Env) (o : Oper) : Bool :=
  match o.op with
  | .alloc _ | .box _ _ | .store _ _ _ | .makeSlice _ _ _ | .buildSlice _ _ _ | .build _ _ | .makeMap _ _ | .mapUpdate _ _ _ _ => true
  | .assign (.const _) => true
  | .call { callee := .builtin .append, .. } => true
  | .call { callee := .builtin .copy, .. } => true
  | .call { callee := .builtin .clear, .. } => true
  | .call { callee := .value (.func f), .. } => match Γ f with
    | some (.m _) => true
    | _ => false
  | _ => false

def evalStep (Γ : Env) (ops : Array Oper) (st : St) (o : Oper) : Option St :=
  match o.guard with
  | none => (evalOp T Γ st o).map fun r => r.2.put o.dst r.1
  | some (j, want) => match boolAt st ((ops[j]?).bind (·.dst)) with
    | some (some b) => if b == want then (evalOp T Γ st o).map fun r => r.2.put o.dst r.1 else some (st.put o.dst (.at .skip))
    | some none => some (st.put o.dst (.at .skip))
    | none => none

def evalOps (Γ : Env) (ops : Array Oper) : List Oper → St → Option St
  | [], st => some st
  | o :: r, st => match evalStep T Γ ops st o with
    | some st' => evalOps Γ ops r st'
    | none => none

/-- A region that draws its order: first what is quiet, then the rest, each behind the one before. -/
def tailOps (Γ : Env) (ops : Array Oper) : List Nat :=
  (List.range ops.size).foldl (init := []) fun acc i => match ops[i]? with
    | some o => if loudOp Γ o || o.after.any (fun e => Region.binds .any e && acc.contains e.on) then acc ++ [i] else acc
    | none => acc
def headOps (Γ : Env) (ops : Array Oper) : List Nat := (List.range ops.size).filter fun i => !(tailOps Γ ops).contains i

def seqOK (ops : Array Oper) : List Nat → Array Bool → Bool
  | [], listed => (Region.ready .any ops listed).isEmpty
  | k :: r, listed => decide (Region.ready .any ops listed = [k]) && seqOK ops r (listed.setIfInBounds k true)
def headOK (ops : Array Oper) (tl : List Nat) : List Nat → Array Bool → Bool
  | [], listed => seqOK ops tl listed
  | k :: r, listed => (Region.ready .any ops listed).contains k && Region.free .any ops listed k && headOK ops tl r (listed.setIfInBounds k true)
/-- Each of the head is waited for by the tail's first, or by one of the head behind it. -/
def sinkOK (ops : Array Oper) (hd : List Nat) : List Nat → Bool
  | [] => true
  | f :: r => (hd.all fun i => (f :: hd).any fun j => decide (i < j) && Region.waitsFor .any ops j i) && chain f r
where chain : Nat → List Nat → Bool
  | _, [] => true
  | k, t :: r => Region.waitsFor .any ops t k && chain t r
def orderOK (Γ : Env) (ops : Array Oper) : Bool :=
  Region.noSelect ops && ((headOps Γ ops).length + (tailOps Γ ops).length == ops.size) && headOK ops (tailOps Γ ops) (headOps Γ ops) (Array.replicate ops.size false) && sinkOK ops (headOps Γ ops) (tailOps Γ ops)

/-- What a quiet operation leaves in its slot. -/
def valQ (Γ : Env) (ops : Array Oper) (st : St) (o : Oper) : Option AV :=
  match o.guard with
  | none => evalQ T Γ st o
  | some (j, want) => match boolAt st ((ops[j]?).bind (·.dst)) with
    | some (some b) => if b == want then evalQ T Γ st o else some (.at .skip)
    | some none => some (.at .skip)
    | none => none
def evalOpsQ (Γ : Env) (ops : Array Oper) : List Nat → St → Option St
  | [], st => some st
  | i :: r, st => match ops[i]? with
    | none => none
    | some o => match valQ T Γ ops st o with
      | some v => evalOpsQ Γ ops r (st.put o.dst v)
      | none => none
def evalIdx (Γ : Env) (ops : Array Oper) : List Nat → St → Option St
  | [], st => some st
  | i :: r, st => match ops[i]? with
    | none => none
    | some o => match evalStep T Γ ops st o with
      | some st' => evalIdx Γ ops r st'
      | none => none

def evalRegion (Γ : Env) (ops : Array Oper) (draw : Bool) (st : St) : Option St :=
  if draw then (if orderOK Γ ops then (match evalOpsQ T Γ ops (headOps Γ ops) st with
    | some st' => evalIdx T Γ ops (tailOps Γ ops) st'
    | none => none) else none)
  else evalOps T Γ ops ops.toList st

inductive AExit where
  | normal
  | exit (id : Nat)
  | ret

/-- The slots that some region reads ahead of writing them. -/
def exposedOps : List Oper → List Nat → List Nat
  | [], _ => []
  | o :: r, wr => (o.op.operands.toList.filterMap fun | .tmp t => if wr.contains t then none else some t | _ => none) ++ exposedOps r (match o.dst with | some d => d :: wr | none => wr)
def exposed : Code → List Nat
  | .region _ ops _ => exposedOps ops.toList []
  | .seq a b => exposed a ++ exposed b
  | .cond _ a b => exposed a ++ exposed b
  | .block _ c => exposed c
  | .loop c => exposed c
  | .scope c => exposed c
  | _ => []

def clearTmps (live : List Nat) : Nat → List AV → List AV
  | _, [] => []
  | i, v :: r => (if live.contains i then v else .undef) :: clearTmps live (i + 1) r
def AV.refs : AV → List Nat
  | .at a => a.refs
  | .agg cs => cs.flatMap AC.refs
  | .tup _ _ _ => []
  | .tupc l => l.flatMap fun p => p.2.flatMap AC.refs
def OB.refs : OB → List Nat
  | .var _ vs => vs.flatMap AC.refs
  | _ => []
def forgetAll : List Nat → St → St
  | [], st => st
  | l :: r, st => forgetAll r (st.forget l)
/-- At a loop's head: only the slots that are read there. -/
def St.clean (live : List Nat) (st : St) : St :=
  let s : St := { st with tmps := clearTmps live 0 st.tmps }
  let r1 := s.tmps.flatMap AV.refs
  let r2 := r1 ++ (s.heap.filter fun p => r1.contains p.1).flatMap fun p => p.2.refs
  forgetAll ((s.heap.map (·.1)).filter fun l => !r2.contains l) s

def iter (body : St → Option (AExit × St)) (cl : St → St) : Nat → St → Option (AExit × St)
  | 0, _ => none
  | n + 1, st => match body (cl st) with
    | some (.normal, st') => iter body cl n st'
    | r => r

/-- A loop's number: that of its body's first region. -/
def headId : Code → Nat
  | .region id _ _ => id
  | .seq a _ => headId a
  | .cond _ a _ => headId a
  | .block _ c => headId c
  | .loop c => 1000 + headId c
  | _ => 0

/-- The slots read later on, and those of each loop's head. -/
def addL (a b : List Nat) : List Nat := a ++ b.filter fun t => !a.contains t
def liveOps : List Oper → List Nat → List Nat
  | [], out => out
  | o :: r, out => addL (o.op.operands.toList.filterMap fun | .tmp t => some t | _ => none) (match o.dst with | some d => (liveOps r out).filter (· != d) | none => liveOps r out)
def envGet : List (Nat × List Nat) → Nat → List Nat
  | [], _ => []
  | (k, l) :: r, id => if k = id then l else envGet r id
def liveC : Code → List (Nat × List Nat) → List Nat → List Nat → List Nat × List (Nat × List Nat)
  | .region _ ops _, _, _, out => (liveOps ops.toList out, [])
  | .seq a b, env, ret, out => let rb := liveC b env ret out; let ra := liveC a env ret rb.1; (ra.1, ra.2 ++ rb.2)
  | .cond c a b, env, ret, out => let ra := liveC a env ret out; let rb := liveC b env ret out
    (addL (match c with | .tmp t => [t] | _ => []) (addL ra.1 rb.1), ra.2 ++ rb.2)
  | .block id c, env, ret, out => liveC c ((id, out) :: env) ret out
  | .exit id, env, _, _ => (envGet env id, [])
  | .ret, _, ret, _ => (ret, [])
  | .loop c, env, ret, _ => let l := (liveC c env ret []).1; let r := liveC c env ret l; (l, (headId c, l) :: r.2)
  | _, _, _, out => (out, [])
def liveRes : List ResultVar → List Nat
  | [] => []
  | .tmp t :: r => t :: liveRes r
  | .cell p _ :: r => p :: liveRes r
def liveOf (fn : Func) (c : Code) : Nat → List Nat := let ret := liveRes fn.results.toList; envGet (liveC c [] ret ret).2

def evalCode (Γ : Env) (N : Nat) (live : Nat → List Nat) : Code → St → Option (AExit × St)
  | .skip, st => some (.normal, st)
  | .label _, st => some (.normal, st)
  | .region _ ops draw, st => (evalRegion T Γ ops draw st).map fun s => (.normal, s)
  | .seq a b, st => match evalCode Γ N live a st with
    | some (.normal, st') => evalCode Γ N live b st'
    | r => r
  | .cond c a b, st => match st.ev c with
    | .at (.data _ .bool t) => if t then evalCode Γ N live a st else evalCode Γ N live b st
    | _ => none
  | .block id c, st => match evalCode Γ N live c st with
    | some (.exit id', st') => if id' = id then some (.normal, st') else some (.exit id', st')
    | r => r
  | .loop c, st => iter (evalCode Γ N live c) (St.clean (live (headId c))) N st
  | .exit id, st => some (.exit id, st)
  | .ret, st => some (.ret, st)
  | _, _ => none

/-- The results of a function, as plain data. -/
def resAVs (st : St) : List ResultVar → Option (List AV)
  | [] => some []
  | .tmp t :: r => (resAVs st r).map fun l => st.get t :: l
  | .cell p t :: r => match evalLoad T st t (st.get p), resAVs st r with
    | some v, some l => some (v :: l)
    | _, _ => none
def evalRes (s : Spec) (fn : Func) (st : St) : Option (Bool × s.res.den) :=
  match resAVs T st fn.results.toList with
  | some [v] => if s.multi then none else viewAV st s.res v
  | some [v, u] => if s.multi then viewArgs st s.res [v, u] else none
  | some [v, u, t] => if s.multi then viewArgs st s.res [v, u, t] else none
  | _ => none

def argAVs : (τ : Ty) → τ.den → List AV
  | .pair a r, x => .at (.data false a x.1) :: argAVs r x.2
  | _, _ => []

/-! ### What a function of the second kind hands back -/
def CK.plainIn : CK → Bool
  | .dat τ => τ.flat
  | .row e _ => e.flat
  | .xrow _ _ => true
/-- Nothing handed back leads to shared memory. -/
def MSpec.plain (s : MSpec) : Bool :=
  (s.outs.all fun | .one c => c.plainIn | .agg cs => cs.all (·.plainIn)) && (s.ins.all fun | .one c _ => c.plainIn | .agg cs _ => cs.all (·.plainIn) | .obj _ cs => cs.all (·.plainIn))
def takeRs (res : Bool) (st : St) : (i : Nat) → (ps : List RK) → List AV → Option (Bool × RKs.den ps × List Tk)
  | _, [], [] => some (true, (), [])
  | i, .one (.dat τ) :: r, v :: vs => match (if τ.flat || v.settled then viewAV st τ v else none), takeRs res st (i + 1) r vs with
    | some (f1, a), some (f2, b, t2) => some (f1 && f2, (a, b), t2)
    | _, _ => none
  | i, .one (.row e te) :: r, .at a :: vs => match takeC res st (resL i 0) (.row e te) a, takeRs res st (i + 1) r vs with
    | some (f1, a, t1), some (f2, b, t2) => some (f1 && f2, (a, b), t1 ++ t2)
    | _, _ => none
  | i, .one (.xrow e te) :: r, .at a :: vs => match takeC res st (resL i 0) (.xrow e te) a, takeRs res st (i + 1) r vs with
    | some (f1, a, t1), some (f2, b, t2) => some (f1 && f2, (a, b), t1 ++ t2)
    | _, _ => none
  | i, .agg cs :: r, .agg as :: vs => match takeCs res st (resL i) 0 cs as, takeRs res st (i + 1) r vs with
    | some (f1, a, t1), some (f2, b, t2) => some (f1 && f2, (a, b), t1 ++ t2)
    | _, _ => none
  | _, _, _ => none
def takeO (st : St) (i : Nat) : (p : PK) → Option (p.out × List Tk)
  | .one (.dat _) _ => some ((), [])
  | .one (.row e te) true => match hget st.heap (rowL true i 0) with
    | some (.arr _ _ e' te' xs) => if h : e' = e ∧ te' = te then some ((h.1 ▸ xs : List e.den), [⟨rowL true i 0, rowL true i 0, 0, xs.length, xs.length, false⟩]) else none
    | _ => none
  | .one (.xrow e te) true => match hget st.heap (rowL true i 0) with
    | some (.xarr e' te' xs) => if h : e' = e ∧ te' = te then some ((h.1 ▸ xs : List e.den), [⟨rowL true i 0, rowL true i 0, 0, xs.length, xs.length, false⟩]) else none
    | _ => none
  | .one (.row _ _) false => some ((), [])
  | .one (.xrow _ _) false => some ((), [])
  | .agg _ true => none
  | .agg _ false => some ((), [])
  | .obj t cs => match hget st.heap (objL i) with
    | some (.var t' as) => if t' = t then (takeCs false st (rowL false i) 0 cs as).map fun p => (p.2.1, p.2.2 ++ [⟨objL i, objL i, 0, 0, 0, false⟩]) else none
    | _ => none
def takeOs (st : St) : (i : Nat) → (ps : List PK) → Option (PKs.out ps × List Tk)
  | _, [] => some ((), [])
  | i, p :: r => match takeO st i p, takeOs st (i + 1) r with
    | some (a, t1), some (b, t2) => some ((a, b), t1 ++ t2)
    | _, _ => none
def evalResM (s : MSpec) (fn : Func) (st : St) : Option (RKs.den s.outs × PKs.out s.ins) :=
  match resAVs T st fn.results.toList with
  | none => none
  | some l => match takeRs s.plain st 0 s.outs l, takeOs st 0 s.ins with
    | some (_, r, t1), some (o, t2) => if nodupB ((t2 ++ t1).map (·.l)) = true then some (r, o) else none
    | _, _ => none

/-- A function of the second kind at its arguments. -/
def evalFnM (Γ : Env) (N : Nat) (s : MSpec) (fn : Func) (x : PKs.den s.ins) : Option (RKs.den s.outs × PKs.out s.ins) :=
  match fn.body with
  | none => none
  | some c =>
    let as := psAV 0 s.ins x
    match evalCode T Γ N (liveOf fn c) c { tmps := as ++ List.replicate (fn.ntmps - as.length) .undef, heap := psOB 0 s.ins x } with
    | some (.normal, st) | some (.ret, st) => evalResM T s fn st
    | _ => none

/-- A function at its arguments. -/
def evalFn (Γ : Env) (N : Nat) (s : Spec) (fn : Func) (x : s.arg.den) : Option s.res.den :=
  match fn.body with
  | none => none
  | some c =>
    let as := argAVs s.arg x
    match evalCode T Γ N (liveOf fn c) c { tmps := as ++ List.replicate (fn.ntmps - as.length) .undef, heap := [] } with
    | some (.normal, st) | some (.ret, st) => match evalRes T s fn st with
      | some (fr, y) => if fr || !s.fresh then some y else none
      | none => none
    | _ => none
end Go.Proofs.Ytingphpncocimaa
