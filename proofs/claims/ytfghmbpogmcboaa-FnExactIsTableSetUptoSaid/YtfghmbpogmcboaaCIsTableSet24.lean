/-
  Part 25 of the proof that the statement FnExactIsTableSet holds.
-/
import Derived.Test.YtfghmbpogmcboaaCIsTableSet23
namespace Go.Proofs.Ytfghmbpogmcboaa
open Go.RowKit

/-- Both ways of a test. -/
inductive Br (b : Bool) (A B : Prop) : Prop
  | mk (t : b = true → A) (f : b = false → B)

/-- A loop over plain variables: some invariant and some measure. -/
inductive WLoop {V : Type} (step : V → (V → Prop) → Prop) (v0 : V) : Prop
  | mk (I : V → Prop) (μ : V → Nat) (h0 : I v0) (h : ∀ v, I v → step v (fun v' => I v' ∧ μ v' < μ v))

/-- A state, and the tests whose outcome is known. -/
structure WS where
  kn : List (Nat × Bool)
  st : St

def kget : List (Nat × Bool) → Nat → Option Bool
  | [], _ => none
  | (k, b) :: r, t => if k = t then some b else kget r t
def kdrop : List (Nat × Bool) → Nat → List (Nat × Bool)
  | [], _ => []
  | (k, b) :: r, t => if k = t then kdrop r t else (k, b) :: kdrop r t
def WS.put (w : WS) (dst : Option Tmp) (v : AV) : WS :=
  match dst with
  | some d => { kn := kdrop w.kn d, st := w.st.put (some d) v }
  | none => w
/-- A constant's slot, or a known slot's copy: its outcome is known, too. -/
def opdKnows (kn : List (Nat × Bool)) : Operand → Option Bool
  | .const (.bool b) => some b
  | .tmp t => kget kn t
  | _ => none
def opKnows (kn : List (Nat × Bool)) (o : Oper) : Option Bool :=
  match o.op with
  | .assign x => opdKnows kn x
  | .move x => opdKnows kn x
  | .unOp .not _ x => (opdKnows kn x).map (!·)
  | .pick c a b => match opdKnows kn c with
    | some true => opdKnows kn a
    | some false => opdKnows kn b
    | none => none
  | _ => none
def WS.putK (w : WS) (o : Oper) (v : AV) : WS :=
  match o.dst, opKnows w.kn o with
  | some d, some b => match (w.st.put (some d) v).get d with
    | .at (.data _ .bool _) => { kn := (d, b) :: kdrop w.kn d, st := w.st.put (some d) v }
    | _ => w.put (some d) v
  | dst, _ => w.put dst v
def WS.to (w : WS) (st : St) : WS := { kn := w.kn, st := st }

def brT (w : WS) (t : Nat) (K : Bool → WS → Prop) : Prop :=
  match kget w.kn t with
  | some b => K b w
  | none => match w.st.get t with
    | .at (.data _ .bool b) => Br b (K true { kn := (t, true) :: w.kn, st := w.st }) (K false { kn := (t, false) :: w.kn, st := w.st })
    | _ => False
def brO (w : WS) (c : Operand) (K : Bool → WS → Prop) : Prop :=
  match c with
  | .tmp t => brT w t K
  | .const (.bool b) => K b w
  | _ => False

def optW {α : Type} (o : Option α) (K : α → Prop) : Prop := match o with | some x => K x | none => False

def sliceU (T : Tab) (st : St) (t : TypeId) (x : AV) (l h : Int) : Option AV :=
  match x with
  | .at (.data fr (.slice e) xs) => if (T.elem t).bind T.ty = some e then some (.at (.data fr (.slice e) ((xs.take h.toNat).drop l.toNat))) else none
  | .at (.own k off _) => match st.at k with
    | some (.arr _ _ e tid _) => if T.elem t = some tid ∧ T.ty tid = some e then some (.at (.own k (off + l.toNat) (h.toNat - l.toNat))) else none
    | _ => none
  | .at (.data _ .str s) => if T.ty t = some .str then some (.at (.data true .str (s.extract l.toNat h.toNat))) else none
  | _ => none

variable (T : Tab) (Γ : Env)

def binW (op : BinOp) (t : TypeId) (x y : AV) (K : AV → Prop) : Prop :=
  match op, x, y with
  | .quo, .at (.data _ (.int k) a), .at (.data _ (.int k') b) => if k = k' then b ≠ 0 ∧ K (.at (.data true (.int k) (k.wrap (a.tdiv b)))) else False
  | .rem, .at (.data _ (.int k) a), .at (.data _ (.int k') b) => if k = k' then b ≠ 0 ∧ K (.at (.data true (.int k) (a.tmod b))) else False
  | .shl, .at (.data _ (.int k) a), .at (.data _ (.int _) b) => ¬ b < 0 ∧ K (.at (.data true (.int k) (k.wrap (a * 2 ^ (min b.toNat k.bits)))))
  | .shr, .at (.data _ (.int k) a), .at (.data _ (.int _) b) => ¬ b < 0 ∧ K (.at (.data true (.int k) (a.fdiv (2 ^ (min b.toNat k.bits)))))
  | .add, .at (.data _ .str a), .at (.data _ .str b) => a.size + b.size ≤ 4294967296 ∧ K (.at (.data true .str (a ++ b)))
  | op, x, y => optW (evalBinT T op t x y) K

def loadW (st : St) (t : TypeId) (p : AV) (K : AV → Prop) : Prop :=
  match p with
  | .at (.eptr l i) => optW (T.ty t) fun τ => match st.at l with
    | some (.arr fr _ e _ xs) => if e = τ then ∃ x, xs[i]? = some x ∧ K (.at (.data (fr || e.flat) e x)) else False
    | some (.xarr e _ xs) => if e = τ then ∃ x, xs[i]? = some x ∧ K (if e.isStruct then .agg (subACs l i 0 e x) else .at ((subACs l i 0 e x).headD .undef)) else False
    | _ => False
  | .at (.data fr (.optr τ') x) => optW (T.ty t) fun τ => if τ' = τ then ∃ y, x = some y ∧ K (.at (.data (fr || τ'.flat) τ' y)) else False
  | p => optW (evalLoad T st t p) K
/-- A field of what a pointer leads to that may be nil. -/
def fieldAddrW (s : TypeId) (x : AV) (f : Nat) (K : AV → Prop) : Prop :=
  match x with
  | .at (.data fr (.optr τ) x) => ∃ y, x = some y ∧ optW (evalFieldAddr T s (.at (.data fr (.ptr τ) y)) f) K
  | x => optW (evalFieldAddr T s x f) K
def nilCheckW (st : St) (x : Operand) (K : AV → Prop) (d : Option AV) : Prop :=
  match st.ev x with
  | .at (.data fr (.optr τ) x) => ∃ y, x = some y ∧ K (.at (.data fr (.ptr τ) y))
  | _ => optW d K

def sliceW (st : St) (t : TypeId) (x : AV) (lo hi : Option AV) (K : AV → Prop) : Prop :=
  optW (lenAV x) fun n => optW (bnd lo 0) fun l => optW (bnd hi n) fun h => (0 ≤ l ∧ l ≤ h ∧ h ≤ n) ∧ optW (sliceU T st t x l h) K

def indexAddrW (st : St) (t : TypeId) (x i : AV) (K : AV → Prop) : Prop :=
  match x, i with
  | .at (.data fr (.slice e) xs), .at (.data _ (.int _) n) => if (T.elem t).bind T.ty = some e then ∃ x, idx xs n = some x ∧ K (.at (.data fr (.ptr e) x)) else False
  | .at (.own l off len), .at (.data _ (.int _) n) => match st.at l with
    | some (.arr _ _ e tid _) => if T.elem t = some tid ∧ T.ty tid = some e then (0 ≤ n ∧ n < len) ∧ K (.at (.eptr l (off + n.toNat))) else False
    | some (.xarr e tid _) => if T.elem t = some tid ∧ T.ty tid = some e then (0 ≤ n ∧ n < len) ∧ K (.at (.eptr l (off + n.toNat))) else False
    | _ => False
  | _, _ => False

def indexW (t : TypeId) (x i : AV) (K : AV → Prop) : Prop :=
  match x, i with
  | .at (.data _ .str s), .at (.data _ (.int _) n) => if T.ty t = some .str then 0 ≤ n ∧ ∃ b, s[n.toNat]? = some b ∧ K (.at (.data true (.int .u8) b.toNat)) else False
  | _, _ => False

def callW (st : St) (f : FuncId) (args : List AV) (K : AV → Prop) : Prop :=
  optW (match Γ f with | some (.q s) => some s | _ => none) fun s => match s.fresh || s.res.flat || args.all (·.settled) with
    | true => optW (viewArgs st s.arg args) fun p => ∃ y, s.fn p.2 = some y ∧ K (if s.multi then .tup (s.fresh || s.res.flat) s.res y else .at (.data (s.fresh || s.res.flat) s.res y))
    | false => False

def callVW (st : St) (v : AV) (args : List AV) (K : AV → Prop) : Prop :=
  match v with
  | .at (.data fr (.clo f τ) x) => match τ.chain with | true => callW Γ st f (args ++ capAVs fr τ x) K | false => False
  | .at (.clo f caps) => callW Γ st f (args ++ caps.map fun p => .at (.vptr p.1 p.2)) K
  | _ => False

/-- A quiet operation. -/
def qW (w : WS) (o : Oper) (K : AV → WS → Prop) : Prop :=
  match o.op with
  | .pick c a b => brO w c fun t w' => match t with | true => K (w'.st.ev a) w' | false => K (w'.st.ev b) w'
  | .load t a => loadW T w.st t (w.st.ev a) fun v => K v w
  | .binOp op t x y _ => binW T op t (w.st.ev x) (w.st.ev y) fun v => K v w
  | .slice t x lo hi mx => match mx with
    | none => sliceW T w.st t (w.st.ev x) (lo.map w.st.ev) (hi.map w.st.ev) fun v => K v w
    | some _ => False
  | .indexAddr t x i => indexAddrW T w.st t (w.st.ev x) (w.st.ev i) fun v => K v w
  | .index t x i => indexW T t (w.st.ev x) (w.st.ev i) fun v => K v w
  | .call { callee := .value (.func f), args, .. } => callW Γ w.st f (args.toList.map w.st.ev) fun v => K v w
  | .call { callee := .value (.tmp t), args, .. } => callVW Γ w.st (w.st.get t) (args.toList.map w.st.ev) fun v => K v w
  | .fieldAddr s x f => fieldAddrW T s (w.st.ev x) f fun v => K v w
  | .nilCheck x => nilCheckW w.st x (fun v => K v w) (evalQ T Γ w.st o)
  | _ => optW (evalQ T Γ w.st o) fun v => K v w

def storeW (st : St) (t : TypeId) (p v : AV) (K : St → Prop) : Prop :=
  match p with
  | .at (.eptr l j) => optW (T.ty t) fun τ => optW (settle st v) fun q => match q.2.at l with
    | some (.arr fr tr e tid xs) => optW (viewAV q.2 τ q.1) fun u => if h : τ = e then j < xs.length ∧ K (q.2.setB l (.arr (fr && u.1) (tr && (treeAV st v && e.tree)) e tid (xs.set j (h ▸ u.2)))) else False
    | _ => False
  | p => optW (evalStore T st t p v) K

def appendW (st : St) (dst : Nat) (t : TypeId) (x y : Operand) (K : AV → St → Prop) : Prop :=
  optW (T.elem t) fun te => optW (T.ty te) fun e => optW (settle st (st.ev y)) fun q => optW (viewAV q.2 (.slice e) q.1) fun u => match q.2.ev x with
    | .at .nilv => match Nat.blt dst pinFrom with
      | true => List.length u.2 ≤ maxRow ∧ K (.at (.own dst 0 (List.length u.2))) ((q.2.new dst (.arr (T.fr0 || e.flat) T.tr0 e te [])).new dst (.arr ((T.fr0 || e.flat) && (u.1 || e.flat)) (T.tr0 && (e.flat || (treeAV st (st.ev y) && e.tree))) e te u.2))
      | false => False
    | .at (.own l off len) => match q.2.at l with
      | some (.arr fr tr e' tid xs) => if h : e' = e ∧ tid = te ∧ Nat.blt l pinFrom = true then
          off = 0 ∧ len = xs.length ∧ len + List.length u.2 ≤ maxRow ∧ K (.at (.own l 0 (List.length ((h.1 ▸ xs : List e.den) ++ u.2)))) (q.2.new l (.arr (fr && (u.1 || e.flat)) (tr && (e.flat || (treeAV st (st.ev y) && e.tree))) e te ((h.1 ▸ xs : List e.den) ++ u.2)))
        else False
      | _ => False
    | _ => False

def makeW (st : St) (dst : Nat) (t : TypeId) (l c : AV) (K : AV → St → Prop) : Prop :=
  match l, c with
  | .at (.data _ (.int _) n), .at (.data _ (.int _) m) => optW (T.elem t) fun te => optW (T.ty te) fun e => match zeroAll e && Nat.blt dst pinFrom with
    | true => (0 ≤ n ∧ n < maxRow + 1) ∧ n = m ∧ K (.at (.own dst 0 (List.replicate n.toNat e.zero).length)) (st.new dst (.arr (T.fr0 || e.flat) T.tr0 e te (List.replicate n.toNat e.zero)))
    | false => False
  | _, _ => False

def takeCW (st : St) (io : Bool) (k : Nat) : (c : CK) → AC → (c.den → List (Nat × Loc) → Prop) → Prop
  | .dat τ, .own l off len, K => optW (viewAC st τ (.own l off len)) fun p => K p.2 [(rowL false k, .view l)]
  | .dat τ, .clo g caps, K => match varsOK st (caps.map (·.1)) && !τ.isStruct with
    | true => optW (viewTop st τ (.clo g caps)) fun p => K p.2 (views k (caps.map (·.1)))
    | false => False
  | .dat τ, .vptr l i, K => match varsOK st [l] && !τ.isStruct with
    | true => optW (viewTop st τ (.vptr l i)) fun p => K p.2 (views k [l])
    | false => False
  | .dat τ, a, K => match τ.flat || a.settled with
    | true => optW (viewAC st τ a) fun p => K p.2 []
    | false => False
  | .row e te, .own l off len, K => match st.at l with
    | some (.arr _ _ e' te' xs) => if h : e' = e ∧ te' = te then off = 0 ∧ len = xs.length ∧ K (h.1 ▸ xs : List e.den) [(rowL io k, .row l)] else False
    | _ => False
  | .row e _, .sub l i c, K => match st.at l with
    | some (.xarr e' _ xs) => if h : e' = .slice e ∧ e.flat = true ∧ io = true ∧ c = 0 then ∃ y, xs[i]? = some y ∧ K (h.1 ▸ y : (Ty.slice e).den) [(rowL io k, .sub l i c)] else False
    | _ => False
  | .row _ _, .nilv, K => K [] []
  | .xrow e te, .own l off len, K => match st.at l with
    | some (.xarr e' te' xs) => if h : e' = e ∧ te' = te then off = 0 ∧ len = xs.length ∧ K (h.1 ▸ xs : List e.den) [(rowL io k, .row l)] else False
    | _ => False
  | .xrow e _, .sub l i c, K => match st.at l with
    | some (.xarr e' _ xs) => if h : e' = .slice e ∧ io = true ∧ c = 0 then ∃ y, xs[i]? = some y ∧ K (h.1 ▸ y : (Ty.slice e).den) [(rowL io k, .sub l i c)] else False
    | _ => False
  | .xrow _ _, .nilv, K => K [] []
  | .part e te, .own l off len, K => match st.at l with
    | some (.arr _ _ e' te' xs) => if h : e' = e ∧ te' = te ∧ e.flat = true ∧ io = true then K ((h.1 ▸ xs : List e.den), off, len) [(rowL io k, .row l)] else False
    | _ => False
  | _, _, _ => False
def takeInW (st : St) : (k : Nat) → (cs : List (Bool × CK)) → List AC → (Ins.den cs → List (Nat × Loc) → Prop) → Prop
  | _, [], [], K => K () []
  | k, p :: r, a :: as, K => takeCW st p.1 k p.2 a fun x t1 => takeInW st (k + 1) r as fun y t2 => K (x, y) (t1 ++ t2)
  | _, _, _, _ => False
def putCW (st : St) : (c : CK) → c.den → AC → (St → Prop) → Prop
  | .row e _, ys, .own l _ len, K => match st.at l with
    | some (.arr fr tr e' te xs) => if h : e = e' then (List.length ys = len ∧ xs.length = len) ∧ K (st.setB l (.arr (fr && e'.flat) (tr && e'.flat) e' te (h ▸ ys))) else False
    | _ => False
  | .xrow e _, ys, .own l _ len, K => match st.at l with
    | some (.xarr e' te xs) => if h : e = e' then (List.length ys = len ∧ xs.length = len) ∧ K (st.setB l (.xarr e' te (h ▸ ys))) else False
    | _ => False
  | .row e _, ys, .sub l i _, K => match st.at l with
    | some (.xarr e' te xs) => if h : .slice e = e' then ∃ y, xs[i]? = some y ∧ List.length ys = List.length (h ▸ y : (Ty.slice e).den) ∧ K (st.setB l (.xarr e' te (xs.set i (h ▸ (ys : (Ty.slice e).den))))) else False
    | _ => False
  | .xrow e _, ys, .sub l i _, K => match st.at l with
    | some (.xarr e' te xs) => if h : .slice e = e' then ∃ y, xs[i]? = some y ∧ List.length ys = List.length (h ▸ y : (Ty.slice e).den) ∧ K (st.setB l (.xarr e' te (xs.set i (h ▸ (ys : (Ty.slice e).den))))) else False
    | _ => False
  | _, _, .nilv, K => K st
  | _, _, _, _ => False
def putPW (st : St) (e : Ty) (ys : List e.den) : AC → (St → Prop) → Prop
  | .own l _ _, K => match st.at l with
    | some (.arr fr tr e' te xs) => if h : e = e' then List.length ys = xs.length ∧ K (st.setB l (.arr fr tr e' te (h ▸ ys))) else False
    | _ => False
  | _, _ => False
def putIOW : (cs : List (Bool × CK)) → IOs.den cs → List AC → St → (St → Prop) → Prop
  | [], _, _, st, K => K st
  | (true, .dat _) :: r, x, _ :: as, st, K => putIOW r x as st K
  | (true, .row e te) :: r, x, a :: as, st, K => putCW st (.row e te) x.1 a fun st' => putIOW r x.2 as st' K
  | (true, .xrow e te) :: r, x, a :: as, st, K => putCW st (.xrow e te) x.1 a fun st' => putIOW r x.2 as st' K
  | (true, .part e _) :: r, x, a :: as, st, K => putPW st e x.1 a fun st' => putIOW r x.2 as st' K
  | (false, _) :: r, x, _ :: as, st, K => putIOW r x as st K
  | _, _, _, _, _ => False
def callMW (st : St) (dst : Option Nat) (s : MSpec) (args : List AV) (K : AV → St → Prop) : Prop :=
  optW (ungroup s.shapes args) fun as => takeInW st 0 s.ins as fun x tks =>
    match nodupB (tks.map fun t => t.2.lab) && keysOK (callKeys s tks (dst.getD 0)) s.outs.length && Nat.blt s.outs.length 1000 && Nat.blt s.ins.length 1000 with
    | true => ∃ p, s.fn x = some p ∧ putIOW s.ins p.2 as st fun st1 => optW (retA s.multi s.rshapes (outAC (callKey (callKeys s tks (dst.getD 0))) 0 s.outs p.1)) fun v =>
        K v { tmps := (st1.forgetL (eaten tks ++ callKeys s tks (dst.getD 0) ++ (if s.flat then [] else viewed tks)) (whole tks)).tmps,
              heap := putNew (frAll st (eaten tks)) (callKey (callKeys s tks (dst.getD 0))) 0 s.outs p.1 (st1.forgetL (eaten tks ++ callKeys s tks (dst.getD 0) ++ (if s.flat then [] else viewed tks)) (whole tks)).heap }
    | false => False

/-- An operation. -/
def opW (w : WS) (o : Oper) (K : AV → WS → Prop) : Prop :=
  match o.op with
  | .store t p x => storeW T w.st t (w.st.ev p) (w.st.ev x) fun s => K .undef (w.to s)
  | .makeSlice t l c => optW o.dst fun d => makeW T w.st d t (w.st.ev l) (w.st.ev c) fun v s => K v (w.to s)
  | .call { callee := .builtin .append, args, argTypes } => match o.dst, args.toList, argTypes.toList with
    | some d, [x, y], [t, t'] => if t = t' then appendW T w.st d t x y fun v s => K v (w.to s) else False
    | _, _, _ => False
  | .assign _ => optW (evalOp T Γ w.st o) fun r => K r.1 (w.to r.2)
  | .alloc _ => optW (evalOp T Γ w.st o) fun r => K r.1 (w.to r.2)
  | .box _ _ => optW (evalOp T Γ w.st o) fun r => K r.1 (w.to r.2)
  | .buildSlice _ _ _ => optW (evalOp T Γ w.st o) fun r => K r.1 (w.to r.2)
  | .build _ _ => optW (evalOp T Γ w.st o) fun r => K r.1 (w.to r.2)
  | .makeMap _ _ => optW (evalOp T Γ w.st o) fun r => K r.1 (w.to r.2)
  | .mapUpdate _ _ _ _ => optW (evalOp T Γ w.st o) fun r => K r.1 (w.to r.2)
  | .insert _ _ _ _ => optW (evalOp T Γ w.st o) fun r => K r.1 (w.to r.2)
  | .call { callee := .builtin .copy, .. } => optW (evalOp T Γ w.st o) fun r => K r.1 (w.to r.2)
  | .call { callee := .builtin .clear, .. } => optW (evalOp T Γ w.st o) fun r => K r.1 (w.to r.2)
  | .call { callee := .value (.func f), args, .. } => match Γ f with
    | some (.m s) => callMW w.st o.dst s (args.toList.map w.st.ev) fun v s' => K v (w.to s')
    | some (.q s) => match needSettle s (args.toList.map w.st.ev) with
      | true => optW (settleOps args.toList w.st) fun st1 => qW T Γ (w.to st1) o K
      | false => qW T Γ w o K
    | _ => qW T Γ w o K
  | _ => qW T Γ w o K

def AV.isSkip : AV → Bool
  | .at .skip => true
  | _ => false

/-- A quiet operation of a region that draws its order. -/
def bW (w : WS) (o : Oper) (K : AV → WS → Prop) : Prop :=
  match o.op with
  | .buildSlice t len parts => optW (evalBuildQ T w.st t len parts) fun v => K v w
  | .build t parts => optW (evalBuild T w.st t parts) fun v => K v w
  | _ => qW T Γ w o K

/-- A guarded step. -/
def stepW (ops : Array Oper) (w : WS) (o : Oper) (run : (AV → WS → Prop) → WS → Prop) (K : WS → Prop) : Prop :=
  match o.guard with
  | none => run (fun v w' => K (w'.putK o v)) w
  | some (j, want) => optW ((ops[j]?).bind (·.dst)) fun t => match (w.st.get t).isSkip with
    | true => K (w.put o.dst (.at .skip))
    | false => brT w t fun b w' => match b, want with
      | true, true => run (fun v w'' => K (w''.putK o v)) w'
      | false, false => run (fun v w'' => K (w''.putK o v)) w'
      | _, _ => K (w'.put o.dst (.at .skip))

def opsW (ops : Array Oper) : List Oper → WS → (WS → Prop) → Prop
  | [], w, K => K w
  | o :: r, w, K => stepW ops w o (fun k w' => opW T Γ w' o k) fun w' => opsW ops r w' K
def idxW (ops : Array Oper) : List Nat → WS → (WS → Prop) → Prop
  | [], w, K => K w
  | i :: r, w, K => optW ops[i]? fun o => stepW ops w o (fun k w' => opW T Γ w' o k) fun w' => idxW ops r w' K
def headW (ops : Array Oper) : List Nat → WS → (WS → Prop) → Prop
  | [], w, K => K w
  | i :: r, w, K => optW ops[i]? fun o => stepW ops w o (fun k w' => bW T Γ w' o k) fun w' => headW ops r w' K

def allW : List Nat → (Nat → Prop) → Prop
  | [], _ => True
  | [i], P => P i
  | i :: j :: r, P => P i ∧ allW (j :: r) P
/-- Each order in turn. -/
def anyW (ops : Array Oper) : Nat → Array Bool → WS → (WS → Prop) → Prop
  | 0, listed, w, K => match Region.ready .any ops listed with
    | [] => K w
    | _ :: _ => False
  | f + 1, listed, w, K => match Region.ready .any ops listed with
    | [] => False
    | i :: r => allW (i :: r) fun k => optW ops[k]? fun o => stepW ops w o (fun kk w' => opW T Γ w' o kk) fun w' => anyW ops f (listed.setIfInBounds k true) w' K
def regionW (ops : Array Oper) (draw : Bool) (w : WS) (K : WS → Prop) : Prop :=
  match draw with
  | true => match orderOK false Γ ops with
    | true => headW T Γ ops (headOps false Γ ops) w fun w' => idxW T Γ ops (tailOps false Γ ops) w' K
    | false => match orderOK true Γ ops with
      | true => headW T Γ ops (headOps true Γ ops) w fun w' => idxW T Γ ops (tailOps true Γ ops) w' K
      | false => match Region.noSelect ops && Nat.ble (ops.size - (moves0 ops).length) 8 with
        | true => headW T Γ ops (moves0 ops) w fun w' => anyW T Γ ops (ops.size - (moves0 ops).length) (listedAll (moves0 ops) (Array.replicate ops.size false)) w' K
        | false => False
  | false => opsW T Γ ops ops.toList w K

def acV : AC → Type → Type
  | .data _ τ _, R => τ.den × R
  | _, R => R
def acsV : List AC → Type → Type
  | [], R => R
  | c :: r, R => acV c (acsV r R)
def avV : AV → Type → Type
  | .at a, R => acV a R
  | .agg cs, R => acsV cs R
  | .tup _ τ _, R => τ.den × R
  | .tupc _, R => R
def obV : OB → Type → Type
  | .arr _ _ e _ _, R => List e.den × R
  | .xarr e _ _, R => List e.den × R
  | .var _ vs, R => acsV vs R
  | .smp v _, R => (ByteArray → Option v.den) × R
def tmpsV : List AV → Type → Type
  | [], R => R
  | v :: r, R => avV v (tmpsV r R)
def heapV : List (Nat × OB) → Type → Type
  | [], R => R
  | p :: r, R => obV p.2 (heapV r R)
def stV (s : St) : Type := tmpsV s.tmps (heapV s.heap Unit)

def acGet : (c : AC) → {R : Type} → R → acV c R
  | .data _ _ x, _, r => (x, r)
  | .undef, _, r => r
  | .skip, _, r => r
  | .nilv, _, r => r
  | .nilp, _, r => r
  | .own _ _ _, _, r => r
  | .vptr _ _, _, r => r
  | .eptr _ _, _, r => r
  | .clo _ _, _, r => r
  | .mapr _, _, r => r
  | .sub _ _ _, _, r => r
def acsGet : (l : List AC) → {R : Type} → R → acsV l R
  | [], _, r => r
  | c :: l, _, r => acGet c (acsGet l r)
def avGet : (c : AV) → {R : Type} → R → avV c R
  | .at a, _, r => acGet a r
  | .agg cs, _, r => acsGet cs r
  | .tup _ _ x, _, r => (x, r)
  | .tupc _, _, r => r
def obGet : (b : OB) → {R : Type} → R → obV b R
  | .arr _ _ _ _ xs, _, r => (xs, r)
  | .xarr _ _ xs, _, r => (xs, r)
  | .var _ vs, _, r => acsGet vs r
  | .smp _ m, _, r => (m, r)
def tmpsGet : (l : List AV) → {R : Type} → R → tmpsV l R
  | [], _, r => r
  | c :: l, _, r => avGet c (tmpsGet l r)
def heapGet : (l : List (Nat × OB)) → {R : Type} → R → heapV l R
  | [], _, r => r
  | p :: l, _, r => obGet p.2 (heapGet l r)
def stGet (s : St) : stV s := tmpsGet s.tmps (heapGet s.heap ())

def acRead : (c d : AC) → {R : Type} → R → Option (acV c R)
  | .data fr τ _, .data fr' τ' x, _, r => if h : τ' = τ ∧ fr' = fr then some (h.1 ▸ x, r) else none
  | .undef, .undef, _, r => some r
  | .skip, .skip, _, r => some r
  | .nilv, .nilv, _, r => some r
  | .nilp, .nilp, _, r => some r
  | .own l _ _, .own l' _ _, _, r => if l = l' then some r else none
  | .vptr l i, .vptr l' i', _, r => if l = l' ∧ i = i' then some r else none
  | .eptr l i, .eptr l' i', _, r => if l = l' ∧ i = i' then some r else none
  | .clo f c, .clo f' c', _, r => if f = f' ∧ c = c' then some r else none
  | .mapr l, .mapr l', _, r => if l = l' then some r else none
  | .sub l i c, .sub l' i' c', _, r => if l = l' ∧ i = i' ∧ c = c' then some r else none
  | _, _, _, _ => none
def acsRead : (l m : List AC) → {R : Type} → R → Option (acsV l R)
  | [], [], _, r => some r
  | c :: l, d :: m, _, r => (acsRead l m r).bind fun r' => acRead c d r'
  | _, _, _, _ => none
def avRead : (c d : AV) → {R : Type} → R → Option (avV c R)
  | .at a, .at b, _, r => acRead a b r
  | .agg cs, .agg ds, _, r => acsRead cs ds r
  | .tup fr τ _, .tup fr' τ' x, _, r => if h : τ' = τ ∧ fr' = fr then some (h.1 ▸ x, r) else none
  | _, _, _, _ => none
def obRead : (b d : OB) → {R : Type} → R → Option (obV b R)
  | .arr fr tr e tid _, .arr fr' tr' e' tid' xs, _, r => if h : e' = e ∧ fr' = fr ∧ tr' = tr ∧ tid' = tid then some (h.1 ▸ xs, r) else none
  | .xarr e tid _, .xarr e' tid' xs, _, r => if h : e' = e ∧ tid' = tid then some (h.1 ▸ xs, r) else none
  | .smp v _, .smp v' m, _, r => if h : v' = v then some (h ▸ m, r) else none
  | .var t vs, .var t' us, _, r => if t' = t then acsRead vs us r else none
  | _, _, _, _ => none
def tmpsRead : (l m : List AV) → {R : Type} → R → Option (tmpsV l R)
  | [], [], _, r => some r
  | c :: l, d :: m, _, r => (tmpsRead l m r).bind fun r' => avRead c d r'
  | _, _, _, _ => none
def heapRead : (l m : List (Nat × OB)) → {R : Type} → R → Option (heapV l R)
  | [], [], _, r => some r
  | p :: l, q :: m, _, r => if q.1 = p.1 then (heapRead l m r).bind fun r' => obRead p.2 q.2 r' else none
  | _, _, _, _ => none
def stRead (s t : St) : Option (stV s) := (heapRead s.heap t.heap ()).bind fun r => tmpsRead s.tmps t.tmps r

def acFill : (c : AC) → {R : Type} → acV c R → AC × R
  | .data fr τ _, _, v => (.data fr τ v.1, v.2)
  | .undef, _, r => (.undef, r)
  | .skip, _, r => (.skip, r)
  | .nilv, _, r => (.nilv, r)
  | .nilp, _, r => (.nilp, r)
  | .own l off len, _, r => (.own l off len, r)
  | .vptr l i, _, r => (.vptr l i, r)
  | .eptr l i, _, r => (.eptr l i, r)
  | .clo f c, _, r => (.clo f c, r)
  | .mapr l, _, r => (.mapr l, r)
  | .sub l i c, _, r => (.sub l i c, r)
def acsFill : (l : List AC) → {R : Type} → acsV l R → List AC × R
  | [], _, r => ([], r)
  | c :: l, _, v => ((acFill c v).1 :: (acsFill l (acFill c v).2).1, (acsFill l (acFill c v).2).2)
def avFill : (c : AV) → {R : Type} → avV c R → AV × R
  | .at a, _, v => (.at (acFill a v).1, (acFill a v).2)
  | .agg cs, _, v => (.agg (acsFill cs v).1, (acsFill cs v).2)
  | .tup fr τ _, _, v => (.tup fr τ v.1, v.2)
  | .tupc l, _, r => (.tupc l, r)
def obFill : (b : OB) → {R : Type} → obV b R → OB × R
  | .arr fr tr e tid _, _, v => (.arr fr tr e tid v.1, v.2)
  | .xarr e tid _, _, v => (.xarr e tid v.1, v.2)
  | .smp w _, _, v => (.smp w v.1, v.2)
  | .var t vs, _, v => (.var t (acsFill vs v).1, (acsFill vs v).2)
def tmpsFill : (l : List AV) → {R : Type} → tmpsV l R → List AV × R
  | [], _, r => ([], r)
  | c :: l, _, v => ((avFill c v).1 :: (tmpsFill l (avFill c v).2).1, (tmpsFill l (avFill c v).2).2)
def heapFill : (l : List (Nat × OB)) → {R : Type} → heapV l R → List (Nat × OB) × R
  | [], _, r => ([], r)
  | p :: l, _, v => ((p.1, (obFill p.2 v).1) :: (heapFill l (obFill p.2 v).2).1, (heapFill l (obFill p.2 v).2).2)
def stFill (s : St) (v : stV s) : St := { tmps := (tmpsFill s.tmps v).1, heap := (heapFill s.heap (tmpsFill s.tmps v).2).1 }

def lenOf (H : List (Nat × OB)) (l : Nat) : Nat := match hget H l with | some (.arr _ _ _ _ xs) => xs.length | some (.xarr _ _ xs) => xs.length | _ => 0
/-- Where the parts lie. -/
def baseOf (ps : List Nat) : List AV → List (Nat × Nat × Nat)
  | [] => []
  | .at (.own l off len) :: r => if ps.contains l then (l, off, len) :: baseOf ps r else baseOf ps r
  | _ :: r => baseOf ps r
def offB : List (Nat × Nat × Nat) → Nat → Nat
  | [], _ => 0
  | (k, o, _) :: r, l => if k = l then o else offB r l
def lenB : List (Nat × Nat × Nat) → List (Nat × OB) → Nat → Nat
  | [], H, l => lenOf H l
  | (k, _, n) :: r, H, l => if k = l then n else lenB r H l
def wholeAC (B : List (Nat × Nat × Nat)) (H : List (Nat × OB)) : AC → AC
  | .own l _ _ => .own l (offB B l) (lenB B H l)
  | c => c
def St.whole (B : List (Nat × Nat × Nat)) (s : St) : St := s.mapAC (wholeAC B s.heap)
def acWhole (B : List (Nat × Nat × Nat)) (H : List (Nat × OB)) (c : AC) (K : Prop) : Prop := match c with
  | .own l off len => off = offB B l ∧ len = lenB B H l ∧ K
  | _ => K
def acsWhole (B : List (Nat × Nat × Nat)) (H : List (Nat × OB)) : List AC → Prop → Prop
  | [], K => K
  | c :: r, K => acWhole B H c (acsWhole B H r K)
def avWhole (B : List (Nat × Nat × Nat)) (H : List (Nat × OB)) (c : AV) (K : Prop) : Prop := match c with
  | .at a => acWhole B H a K
  | .agg cs => acsWhole B H cs K
  | .tup _ _ _ => K
  | .tupc _ => False
def tmpsWhole (B : List (Nat × Nat × Nat)) (H : List (Nat × OB)) : List AV → Prop → Prop
  | [], K => K
  | c :: r, K => avWhole B H c (tmpsWhole B H r K)
def heapWhole (B : List (Nat × Nat × Nat)) (H : List (Nat × OB)) : List (Nat × OB) → Prop → Prop
  | [], K => K
  | p :: r, K => match p.2 with
    | .var _ vs => acsWhole B H vs (heapWhole B H r K)
    | _ => heapWhole B H r K
def stWhole (B : List (Nat × Nat × Nat)) (s : St) (K : Prop) : Prop := tmpsWhole B s.heap s.tmps (heapWhole B s.heap s.heap K)

def AV.isData : AV → Bool
  | .at (.data _ _ _) => true
  | _ => false
def fixedL (p : Nat → Bool) : Nat → List AV → List Bool
  | _, [] => []
  | i, v :: r => (v.isData && p i) :: fixedL p (i + 1) r
def stays (live : Nat → List Nat) (c : Code) (t : Nat) : Bool := !(writes c).contains t && keptIn live c t
def maskL : List Bool → List AV → List AV
  | true :: f, _ :: r => .undef :: maskL f r
  | false :: f, v :: r => v :: maskL f r
  | _, l => l
def overL : List Bool → List AV → List AV → List AV
  | true :: f, a :: s, _ :: r => a :: overL f s r
  | false :: f, _ :: s, v :: r => v :: overL f s r
  | _, _, l => l
def St.mask (fx : List Bool) (s : St) : St := { tmps := maskL fx s.tmps, heap := s.heap }
def St.over (fx : List Bool) (s0 s : St) : St := { tmps := overL fx s0.tmps s.tmps, heap := s.heap }

def forceAC (c : AC) (k : AC → Prop) : Prop := match c with
  | .undef => k .undef
  | .skip => k .skip
  | .nilv => k .nilv
  | .nilp => k .nilp
  | .data fr τ x => match fr with
    | true => k (.data true τ x)
    | false => k (.data false τ x)
  | .own l off len => k (.own l off len)
  | .vptr l i => k (.vptr l i)
  | .eptr l i => k (.eptr l i)
  | .clo f c => k (.clo f c)
  | .mapr l => k (.mapr l)
  | .sub l i c => k (.sub l i c)
def forceACs : List AC → (List AC → Prop) → Prop
  | [], k => k []
  | c :: r, k => forceAC c fun c' => forceACs r fun r' => k (c' :: r')
def forceAV (c : AV) (k : AV → Prop) : Prop := match c with
  | .at a => forceAC a fun a' => k (.at a')
  | .agg cs => forceACs cs fun cs' => k (.agg cs')
  | .tup fr τ x => k (.tup fr τ x)
  | .tupc l => k (.tupc l)
def forceAVs : List AV → (List AV → Prop) → Prop
  | [], k => k []
  | c :: r, k => forceAV c fun c' => forceAVs r fun r' => k (c' :: r')
def forceOB (b : OB) (k : OB → Prop) : Prop := match b with
  | .arr fr tr e tid xs => match fr, tr with
    | true, true => k (.arr true true e tid xs)
    | true, false => k (.arr true false e tid xs)
    | false, true => k (.arr false true e tid xs)
    | false, false => k (.arr false false e tid xs)
  | .xarr e tid xs => k (.xarr e tid xs)
  | .var t vs => forceACs vs fun vs' => k (.var t vs')
  | .smp v m => k (.smp v m)
def forceH : List (Nat × OB) → (List (Nat × OB) → Prop) → Prop
  | [], k => k []
  | (l, b) :: r, k => forceOB b fun b' => forceH r fun r' => k ((l, b') :: r')
def forceW (w : WS) (k : WS → Prop) : Prop := forceAVs w.st.tmps fun t => forceH w.st.heap fun h => k { kn := w.kn, st := { tmps := t, heap := h } }
def forceS (s : St) (k : St → Prop) : Prop := forceAVs s.tmps fun t => forceH s.heap fun h => k { tmps := t, heap := h }
def forceBs : List Bool → (List Bool → Prop) → Prop
  | [], k => k []
  | true :: r, k => forceBs r fun r' => k (true :: r')
  | false :: r, k => forceBs r fun r' => k (false :: r')
theorem forceAC_iff {c : AC} {k : AC → Prop} : forceAC c k ↔ k c := by
  cases c <;> simp only [forceAC]
  split <;> rfl
theorem forceACs_iff : ∀ {l : List AC} {k : List AC → Prop}, forceACs l k ↔ k l
  | [], k => Iff.rfl
  | c :: r, k => by simp only [forceACs]; rw [forceAC_iff, forceACs_iff]
theorem forceAV_iff {c : AV} {k : AV → Prop} : forceAV c k ↔ k c := by
  cases c <;> simp only [forceAV]
  · exact forceAC_iff
  · exact forceACs_iff
theorem forceAVs_iff : ∀ {l : List AV} {k : List AV → Prop}, forceAVs l k ↔ k l
  | [], k => Iff.rfl
  | c :: r, k => by simp only [forceAVs]; rw [forceAV_iff, forceAVs_iff]
theorem forceOB_iff {b : OB} {k : OB → Prop} : forceOB b k ↔ k b := by
  cases b <;> simp only [forceOB]
  · split <;> rfl
  · exact forceACs_iff
theorem forceH_iff : ∀ {l : List (Nat × OB)} {k : List (Nat × OB) → Prop}, forceH l k ↔ k l
  | [], k => Iff.rfl
  | (l, b) :: r, k => by simp only [forceH]; rw [forceOB_iff, forceH_iff]
theorem forceS_eq {s : St} {k : St → Prop} : forceS s k = k s := by
  unfold forceS
  exact propext (by rw [forceAVs_iff, forceH_iff])
theorem forceBs_eq : ∀ {l : List Bool} {k : List Bool → Prop}, forceBs l k = k l
  | [], k => rfl
  | true :: r, k => by simp only [forceBs]; rw [forceBs_eq]
  | false :: r, k => by simp only [forceBs]; rw [forceBs_eq]
theorem forceW_iff {w : WS} {k : WS → Prop} : forceW w k ↔ k w := by
  unfold forceW
  rw [forceAVs_iff, forceH_iff]

def codeW (live : Nat → List Nat) : Code → WS → (AExit → WS → Prop) → Prop
  | .skip, w, Q => Q .normal w
  | .label _, w, Q => Q .normal w
  | .region _ ops draw, w, Q => regionW T (regEnv Γ draw) ops draw w fun w' => forceW w' (Q .normal)
  | .seq a b, w, Q => codeW live a w fun e w' => match e with
    | .normal => codeW live b w' Q
    | .exit id => Q (.exit id) w'
    | .ret => Q .ret w'
  | .cond c a b, w, Q => brO w c fun t w' => match t with
    | true => codeW live a w' Q
    | false => codeW live b w' Q
  | .block id c, w, Q => codeW live c w fun e w' => match e with
    | .normal => Q .normal w'
    | .exit id' => if id' = id then Q .normal w' else Q (.exit id') w'
    | .ret => Q .ret w'
  | .loop c, w, Q =>
    forceS (w.st.clean (live (headId c))) fun s0 => forceBs (fixedL (stays live c) 0 s0.tmps) fun fx => forceS (s0.mask fx) fun m =>
    stWhole (baseOf T.parts s0.tmps) s0 (WLoop (V := stV m) (fun v k => forceS ((St.over fx s0 (stFill m v)).whole (baseOf T.parts s0.tmps)) fun sb => codeW live c ⟨[], sb⟩ fun e w' => match e with
      | .normal => forceS (w'.st.clean (live (headId c))) fun s1 => stWhole (baseOf T.parts s0.tmps) s1 (optW (stRead m (s1.mask fx)) k)
      | .exit id => Q (.exit id) w'
      | .ret => Q .ret w') (stGet m))
  | .exit id, w, Q => Q (.exit id) w
  | .ret, w, Q => Q .ret w
  | _, _, _ => False

def endW (s : Spec) (fn : Func) (P : s.res.den → Prop) (st : St) : Prop :=
  optW (evalRes T s fn st) fun p => match p.1 || !s.fresh with | true => P p.2 | false => False

/-- A function of the second kind at its arguments. -/
@[irreducible] def fnMW (s : MSpec) (fn : Func) (x : Ins.den s.ins) (P : CKs.den s.outs × IOs.den s.ins → Prop) : Prop :=
  match Nat.blt s.ins.length 1000 with
  | false => False
  | true => optW fn.body fun c => codeW T Γ (liveOf T.marks fn c) c { kn := [], st := { tmps := groupA s.shapes (inAC 0 s.ins x) ++ List.replicate (fn.ntmps - (groupA s.shapes (inAC 0 s.ins x)).length) .undef, heap := inOB 0 s.ins x } } fun e w => match e with
    | .normal => optW (evalResM T s fn w.st) P
    | .ret => optW (evalResM T s fn w.st) P
    | .exit _ => False

/-- A function at its arguments. -/
@[irreducible] def fnW (s : Spec) (fn : Func) (x : s.arg.den) (P : s.res.den → Prop) : Prop :=
  optW fn.body fun c => codeW T Γ (liveOf T.marks fn c) c { kn := [], st := { tmps := argAVs s.arg x ++ List.replicate (fn.ntmps - (argAVs s.arg x).length) .undef, heap := [] } } fun e w => match e with
    | .normal => endW T s fn P w.st
    | .ret => endW T s fn P w.st
    | .exit _ => False
end Go.Proofs.Ytfghmbpogmcboaa
