/- Parts of the proof, joined by program: AmIr, AmCode0. -/
import GoSem.Step
import Derived.Test.YtfaphhcloanhnaaPa0
import Derived.KernelRfl
set_option linter.unusedSimpArgs false
set_option linter.unusedVariables false
namespace Go.Am

/-! ### Maps from numbers -/
inductive Tr (α : Type) where
  | nil
  | node (v : Option α) (l r : Tr α)

def Tr.get {α : Type} : Tr α → Nat → Option α
  | .nil, _ => none
  | .node v _ _, 0 => v
  | .node _ l r, n + 1 => if n % 2 = 0 then l.get (n / 2) else r.get (n / 2)
def Tr.val {α : Type} : Tr α → Option α | .nil => none | .node v _ _ => v
def Tr.left {α : Type} : Tr α → Tr α | .nil => .nil | .node _ l _ => l
def Tr.right {α : Type} : Tr α → Tr α | .nil => .nil | .node _ _ r => r
def Tr.setAux {α : Type} : Nat → Tr α → Nat → Option α → Tr α
  | 0, t, _, _ => t
  | _ + 1, t, 0, v => .node v t.left t.right
  | f + 1, t, n + 1, v => if n % 2 = 0 then .node t.val (setAux f t.left (n / 2) v) t.right else .node t.val t.left (setAux f t.right (n / 2) v)
def Tr.set {α : Type} (t : Tr α) (n : Nat) (v : Option α) : Tr α := Tr.setAux (n + 1) t n v

theorem Tr.get_nil {α : Type} (n : Nat) : (Tr.nil : Tr α).get n = none := by cases n <;> rfl
theorem Tr.get_zero {α : Type} (t : Tr α) : t.get 0 = t.val := by cases t <;> rfl
theorem Tr.get_succ {α : Type} (t : Tr α) (n : Nat) : t.get (n + 1) = if n % 2 = 0 then t.left.get (n / 2) else t.right.get (n / 2) := by
  cases t with
  | nil => simp [Tr.get, Tr.left, Tr.right, Tr.get_nil]
  | node v l r => simp [Tr.get, Tr.left, Tr.right]
theorem Tr.get_setAux {α : Type} (v : Option α) : ∀ (f n : Nat) (t : Tr α) (m : Nat), n < f → (Tr.setAux f t n v).get m = if m = n then v else t.get m := by
  intro f
  induction f with
  | zero => intro n t m h; omega
  | succ f ih =>
    intro n t m h
    cases n with
    | zero =>
      cases m with
      | zero => simp [Tr.setAux, Tr.get]
      | succ m => simp [Tr.setAux, Tr.get_succ, Tr.left, Tr.right]
    | succ n =>
      unfold Tr.setAux
      split
      · rename_i hn
        cases m with
        | zero => simp [Tr.get, Tr.get_zero]
        | succ m =>
          rw [Tr.get_succ, Tr.get_succ]
          simp only [Tr.left, Tr.right]
          by_cases hm : m % 2 = 0
          · rw [if_pos hm, if_pos hm, ih _ _ _ (by omega)]
            by_cases e : m = n
            · subst e; simp
            · rw [if_neg (by omega), if_neg (by omega)]
          · rw [if_neg hm, if_neg hm, if_neg (by omega)]
      · rename_i hn
        cases m with
        | zero => simp [Tr.get, Tr.get_zero]
        | succ m =>
          rw [Tr.get_succ, Tr.get_succ]
          simp only [Tr.left, Tr.right]
          by_cases hm : m % 2 = 0
          · rw [if_pos hm, if_pos hm, if_neg (by omega)]
          · rw [if_neg hm, if_neg hm, ih _ _ _ (by omega)]
            by_cases e : m = n
            · subst e; simp
            · rw [if_neg (by omega), if_neg (by omega)]
theorem Tr.get_set {α : Type} (t : Tr α) (n : Nat) (v : Option α) (m : Nat) : (t.set n v).get m = if m = n then v else t.get m := Tr.get_setAux v (n + 1) n t m (by omega)
theorem Tr.get_set_same {α : Type} (t : Tr α) (n : Nat) (v : Option α) : (t.set n v).get n = v := by rw [Tr.get_set, if_pos rfl]
theorem Tr.get_set_ne {α : Type} (t : Tr α) {n m : Nat} (v : Option α) (h : m ≠ n) : (t.set n v).get m = t.get m := by rw [Tr.get_set, if_neg h]

/-! ### Values -/
/-- What stands for a value: 'sc' one without an address (NaNs all alike) · 'ptr', 'sl' an address, a slice in a box of the machine's own · 'ro', 'rs' an address of, a slice over, cells that stay asq they are · 'mp' a map box. -/
inductive AVal where
  | sc (v : Value)
  | ptr (id off : Nat)
  | ro (cells : List AVal)
  | sl (id off len esz : Nat) (cap : Option Nat)
  | rs (cells : List AVal) (len : Nat) (cap : Option Nat)
  | mp (id : Nat)
  | fn (f : Fn) (first cap : List AVal)
  | agg (cells : List AVal)
  | tup (vs : List AVal)
  deriving Inhabited

inductive Box where
  | cells (cs : List AVal)
  | map (es : List (Value × AVal × Nat)) (clock : Nat)
  deriving Inhabited

/-- A value without addresses, its NaNs made alike; others have none. -/
def scal : Value → Option Value
  | .bool b => some (.bool b)
  | .int k n => some (.int k n)
  | .float k b => some (.float k (canonBits k b))
  | .complex k a b => some (.complex k (canonBits k a) (canonBits k b))
  | .string s => some (.string s)
  | .pointer none => some (.pointer none)
  | .slice none 0 0 => some (.slice none 0 0)
  | .map none => some (.map none)
  | .nilFunc => some .nilFunc
  | .nilIface => some .nilIface
  | _ => none

def AVal.one : AVal → Bool
  | .agg _ => false
  | .tup _ => false
  | _ => true
/-- The cells of a value. -/
def AVal.cells : AVal → List AVal
  | .agg cs => cs
  | v => [v]

def aint (n : Int) : AVal := .sc (.int .i64 n)
def abool (b : Bool) : AVal := .sc (.bool b)
def anil : AVal := .sc (.slice none 0 0)

def scAll : List Value → Option (List AVal)
  | [] => some []
  | v :: r => match scal v, scAll r with
    | some a, some asq => some (.sc a :: asq)
    | _, _ => none
/-- A constant asq such a value. -/
def ofConst : Value → Option AVal
  | .agg cs => (scAll cs.toList).map AVal.agg
  | .tuple vs => if vs.size = 0 then some (.tup []) else none
  | .func f a b => if a.size = 0 ∧ b.size = 0 then some (.fn f [] []) else none
  | v => (scal v).map .sc

/-! ### The code -/
inductive Arg where
  | t (i : Nat)
  | k (v : AVal)
  deriving Inhabited

inductive Cv where
  | int (k : IntKind)
  | float (k : FloatKind)
  | same
  deriving Inhabited

/-- The leaves of a struct's or an array's type. -/
inductive LK where
  | int | bool | string
  deriving Inhabited
/-- What may be nil. -/
inductive NK where
  | ptr | slice | func | map
  deriving Inhabited

inductive AOp where
  | mov (x : Arg)
  | pick (c a b : Arg)
  | alloc (zero : List AVal)
  | box (x : Arg)
  | build (zero : List AVal) (parts : List (Nat × Nat × Arg))
  | buildSlice (esz len : Nat) (zero : List AVal) (parts : List (Nat × Nat × Arg))
  | load (agg : Bool) (n : Nat) (x : Arg)
  | store (n : Nat) (a v : Arg)
  | nilCheck (x : Arg)
  | bin (op : BinOp) (x y : Arg)
  | eqBool (neg : Bool) (x y : Arg)
  | eqNil (k : NK) (neg : Bool) (x y : Arg)
  | eqAgg (neg : Bool) (ls : List LK) (x y : Arg)
  | un (op : UnOp) (x : Arg)
  | conv (c : Cv) (x : Arg)
  | real (im : Bool) (x : Arg)
  | cplx (x y : Arg)
  | makeFunc (f : Fn) (first cap : List Arg)
  | makeSlice (esz bytes : Nat) (zero : List AVal) (l c : Arg)
  | slice (esz : Nat) (x : Arg) (lo hi mx : Option Arg)
  | sliceStr (x : Arg) (lo hi : Option Arg)
  | sliceB (esz : Nat) (x lo hi : Arg)
  | fieldAddr (off : Nat) (x : Arg)
  | field (agg : Bool) (off n : Nat) (x : Arg)
  | indexAddr (arr : Option Nat) (esz : Nat) (x i : Arg)
  | indexStr (x i : Arg)
  | index (agg : Bool) (len esz : Nat) (x i : Arg)
  | extract (x : Arg) (i : Nat)
  | lenC (n : Nat)
  | lenStr (x : Arg)
  | len (x : Arg)
  | cap (x : Arg)
  | append (esz bytes : Nat) (s x : Arg)
  | appendZeros (esz bytes : Nat) (zero : List AVal) (s n : Arg)
  | copy (esz : Nat) (d s : Arg)
  | clear (esz : Nat) (zero : List AVal) (x : Arg)
  | minmax (mx : Bool) (xs : List Arg)
  | call (f : Arg) (args : List Arg)
  deriving Inhabited

/-- One operation: where its value goes; 'guard': the slot that must hold that bool; 'after': bits, the operations that come ahead of it. -/
structure AO where
  dst : Option Nat
  op : AOp
  guard : Option (Option Nat × Bool)
  after : Nat
  deriving Inhabited

inductive AC where
  | skip
  | reg (ops : List AO) (draw : Bool)
  | seq (a b : AC)
  | cond (c : Arg) (a b : AC)
  | blk (id : Nat) (c : AC)
  | loop (c : AC)
  | exit (id : Nat)
  | scope (c : AC)
  | ret
  deriving Inhabited

inductive AR where
  | tmp (t : Nat)
  | cell (agg : Bool) (n : Nat) (t : Nat)
  deriving Inhabited

structure AFn where
  code : AC
  ntmps : Nat
  results : List AR
  deriving Inhabited

/-! ### The machine -/
structure Mem where
  heap : Tr Box
  next : Nat
  low : Nat
structure St where
  slots : Tr AVal
  mem : Mem

inductive Ex where
  | normal
  | exit (id : Nat)
  | ret

def Arg.get (s : Tr AVal) : Arg → Option AVal
  | .t i => s.get i
  | .k v => some v

/-- A pure answer of the model's, if it is one. -/
def pureOf {α : Type} : Sem α → Option α
  | .pure a => some a
  | _ => none

def Mem.new (m : Mem) (b : Box) : Mem := { m with heap := m.heap.set m.next (some b), next := m.next + 1 }
def Mem.put (m : Mem) (id : Nat) (b : Option Box) : Mem := { m with heap := m.heap.set id b, low := min m.low id }
def Mem.cells (m : Mem) (id : Nat) : Option (List AVal) :=
  if id < m.next then match m.heap.get id with
    | some (.cells cs) => some cs
    | _ => none
  else none

/-- n cells from off on. -/
def seg (cs : List AVal) (off n : Nat) : Option (List AVal) := if off + n ≤ cs.length then some ((cs.drop off).take n) else none
def putSeg (cs : List AVal) (off : Nat) (vs : List AVal) : List AVal := cs.take off ++ vs ++ cs.drop (off + vs.length)
def asVar (agg : Bool) (cs : List AVal) : Option AVal :=
  match agg, cs with
  | true, cs => some (.agg cs)
  | false, [c] => some c
  | _, _ => none

def AVal.int? : AVal → Option Int
  | .sc (.int _ n) => some n
  | _ => none
/-- '+', '<' and the like on values without addresses. -/
def binS (op : BinOp) : Value → Value → Option AVal
  | .int j a, .int k b => (pureOf (binOp op 0 (.int j a) (.int k b))).map .sc
  | .string a, .string b => (pureOf (binOp op 0 (.string a) (.string b))).map .sc
  | .float .f64 a, .float .f64 b => match op with
    | .add | .sub | .mul | .quo => some (.sc (.float .f64 (fOp op a b)))
    | .eql | .neq | .lss | .leq | .gtr | .geq => some (.sc (.bool (fCmp op a b)))
    | _ => none
  | .complex .f64 a b, .complex .f64 c d => match op with
    | .add | .sub => some (.sc (.complex .f64 (fOp op a c) (fOp op b d)))
    | .mul => some (.sc (.complex .f64 (fOp .sub (fOp .mul a c) (fOp .mul b d)) (fOp .add (fOp .mul a d) (fOp .mul b c))))
    | .eql => some (.sc (.bool (fCmp .eql a c && fCmp .eql b d)))
    | .neq => some (.sc (.bool !(fCmp .eql a c && fCmp .eql b d)))
    | _ => none
  | _, _ => none

/-- Is a value nil? Some are known not to be. -/
def AVal.nil? : NK → AVal → Option Bool
  | .ptr, .sc (.pointer none) => some true
  | .ptr, .ptr _ _ => some false
  | .ptr, .ro _ => some false
  | .slice, .sc (.slice none 0 0) => some true
  | .slice, .sl _ _ _ _ _ => some false
  | .slice, .rs _ _ _ => some false
  | .map, .sc (.map none) => some true
  | .map, .mp _ => some false
  | .func, .sc .nilFunc => some true
  | .func, .fn _ _ _ => some false
  | _, _ => none

def sameSc : LK → AVal → AVal → Option Bool
  | .bool, .sc (.bool a), .sc (.bool b) => some (a == b)
  | .int, .sc (.int j a), .sc (.int k b) => if j = k then some (a == b) else none
  | .string, .sc (.string a), .sc (.string b) => some (a == b)
  | _, _, _ => none
def sameAll : List LK → List AVal → List AVal → Option Bool
  | [], [], [] => some true
  | l :: ls, a :: asq, b :: bs => match sameSc l a b, sameAll ls asq bs with
    | some x, some y => some (x && y)
    | _, _ => none
  | _, _, _ => none

def unS (op : UnOp) : Value → Option Value
  | .int k n => pureOf (Op.unary op (.int k n))
  | .bool b => pureOf (Op.unary op (.bool b))
  | .float .f64 b => match op with
    | .neg => some (.float .f64 (canonBits .f64 (Op.negFloat .f64 b)))
    | _ => none
  | .complex .f64 a b => match op with
    | .neg => some (.complex .f64 (canonBits .f64 (Op.negFloat .f64 a)) (canonBits .f64 (Op.negFloat .f64 b)))
    | _ => none
  | _ => none

def convS : Cv → Value → Option Value
  | .int k, .int _ n => some (.int k (k.wrap n))
  | .same, .string s => some (.string s)
  | .float .f64, .int _ n => some (.float .f64 (FloatKind.f64.nearest n))
  | .float .f64, .float .f64 b => some (.float .f64 b)
  | _, _ => none
/-- A complex number's parts; one made of parts. -/
def realS (im : Bool) : Value → Option Value
  | .complex .f64 a b => some (.float .f64 (if im then b else a))
  | _ => none
def cplxS : Value → Value → Option Value
  | .float .f64 a, .float .f64 b => some (.complex .f64 a b)
  | _, _ => none

/-- A part filled into cells. -/
def fillA : List AVal → List (Nat × Nat × AVal) → Option (List AVal)
  | cs, [] => some cs
  | cs, (off, n, v) :: rest => if v.cells.length = n ∧ off + n ≤ cs.length ∧ v.cells.all AVal.one then fillA (putSeg cs off v.cells) rest else none

def argParts (s : Tr AVal) : List (Nat × Nat × Arg) → Option (List (Nat × Nat × AVal))
  | [] => some []
  | (o, n, a) :: r => match a.get s, argParts s r with
    | some v, some vs => some ((o, n, v) :: vs)
    | _, _ => none
def argAll (s : Tr AVal) : List Arg → Option (List AVal)
  | [] => some []
  | a :: r => match a.get s, argAll s r with
    | some v, some vs => some (v :: vs)
    | _, _ => none
def argOpt (s : Tr AVal) : Option Arg → Option (Option Int)
  | none => some none
  | some a => match a.get s with
    | some v => v.int?.map some
    | none => none

/-- The cells of the first n elements of a slice; its length. -/
def sliceLen : AVal → Option Nat
  | .sc (.slice none 0 0) => some 0
  | .sl _ _ len _ _ => some len
  | .rs _ len _ => some len
  | _ => none
def sliceCells (m : Mem) (esz n : Nat) : AVal → Option (List AVal)
  | .sc (.slice none 0 0) => some []
  | .sl id off len e _ => if e = esz then match m.cells id with
      | some cs => seg cs off (n * esz)
      | none => none
    else none
  | .rs cs len _ => seg cs 0 (n * esz)
  | _ => none

/-- May a slice of this length and capacity (none: not known) be cut at h? -/
def upTo (len : Nat) (cap : Option Nat) (h : Int) : Bool := decide (h ≤ (len : Int)) || match cap with | some c => decide (h ≤ (c : Int)) | none => false
/-- Low, high, the end of what may be used (none: not known). -/
def bounds3 (len : Nat) (cap : Option Nat) (lo hi mx : Option Int) : Option (Nat × Nat × Option Nat) :=
  match (match hi with
    | none => some len
    | some h => if 0 ≤ h ∧ upTo len cap h = true then some h.toNat else none : Option Nat) with
  | none => none
  | some h => match (match mx with
      | none => some cap
      | some m => if (h : Int) ≤ m ∧ hi.isSome = true ∧ upTo len cap m = true then some (some m.toNat) else none : Option (Option Nat)) with
    | none => none
    | some m => match lo with
      | none => some (0, h, m)
      | some l => if 0 ≤ l ∧ l ≤ (h : Int) then some (l.toNat, h, m) else none

def minmaxGo (mx : Bool) (k : IntKind) (a : Int) : List AVal → Option AVal
  | [] => some (.sc (.int k a))
  | .sc (.int _ b) :: r => minmaxGo mx k (if mx then (if b > a then b else a) else (if b < a then b else a)) r
  | _ => none
def minmaxA (mx : Bool) : List AVal → Option AVal
  | .sc (.int k a) :: r => minmaxGo mx k a r
  | _ => none

/-- What one operation without a call answers, and the memory behind it. A value 'none': it has none. -/
def opVal (s : Tr AVal) (m : Mem) : AOp → Option (AVal × Mem)
  | .mov x => (x.get s).map (·, m)
  | .pick c a b => match c.get s with
    | some (.sc (.bool true)) => (a.get s).map (·, m)
    | some (.sc (.bool false)) => (b.get s).map (·, m)
    | _ => none
  | .alloc zero => some (.ptr m.next 0, m.new (.cells zero))
  | .box x => match x.get s with
    | some v => if v.cells.all AVal.one then some (.ptr m.next 0, m.new (.cells v.cells)) else none
    | none => none
  | .build zero parts => match argParts s parts with
    | some ps => (fillA zero ps).map fun cs => (.agg cs, m)
    | none => none
  | .buildSlice esz len zero parts => match argParts s parts with
    | some ps => match fillA zero ps with
      | some cs => some (.sl m.next 0 len esz (some len), m.new (.cells cs))
      | none => none
    | none => none
  | .load agg n x => match x.get s with
    | some (.ptr id off) => match m.cells id with
      | some cs => match seg cs off n with
        | some r => (asVar agg r).map (·, m)
        | none => none
      | none => none
    | some (.ro cs) => match seg cs 0 n with
      | some r => (asVar agg r).map (·, m)
      | none => none
    | _ => none
  | .store n a v => match a.get s, v.get s with
    | some (.ptr id off), some v => if v.cells.length = n ∧ v.cells.all AVal.one then match m.cells id with
        | some cs => if off + n ≤ cs.length then some (.tup [], m.put id (some (.cells (putSeg cs off v.cells)))) else none
        | none => none
      else none
    | _, _ => none
  | .nilCheck x => match x.get s with
    | some (.ptr id off) => some (.ptr id off, m)
    | some (.ro cs) => some (.ro cs, m)
    | some (.fn (.func f) a b) => some (.fn (.func f) a b, m)
    | _ => none
  | .bin op x y => match x.get s, y.get s with
    | some (.sc a), some (.sc b) => (binS op a b).map (·, m)
    | _, _ => none
  | .eqBool neg x y => match x.get s, y.get s with
    | some (.sc (.bool a)), some (.sc (.bool b)) => some (abool (if neg then a != b else a == b), m)
    | _, _ => none
  | .eqNil k neg x y => match x.get s, y.get s with
    | some a, some b => match a.nil? k, b.nil? k with
      | some p, some q => if p || q then some (abool (if neg then !(p && q) else p && q), m) else none
      | _, _ => none
    | _, _ => none
  | .eqAgg neg ls x y => match x.get s, y.get s with
    | some (.agg asq), some (.agg bs) => (sameAll ls asq bs).map fun b => (abool (if neg then !b else b), m)
    | _, _ => none
  | .un op x => match x.get s with
    | some (.sc v) => (unS op v).map fun r => (.sc r, m)
    | _ => none
  | .conv c x => match x.get s with
    | some (.sc v) => (convS c v).map fun r => (.sc r, m)
    | _ => none
  | .real im x => match x.get s with
    | some (.sc v) => (realS im v).map fun r => (.sc r, m)
    | _ => none
  | .cplx x y => match x.get s, y.get s with
    | some (.sc a), some (.sc b) => (cplxS a b).map fun r => (.sc r, m)
    | _, _ => none
  | .makeFunc f first cap => match argAll s first, argAll s cap with
    | some a, some b => some (.fn f a b, m)
    | _, _ => none
  | .makeSlice esz bytes zero l c => match (l.get s).bind AVal.int?, (c.get s).bind AVal.int? with
    | some l, some c => if 0 ≤ l ∧ l ≤ c ∧ c ≤ 9223372036854775807 ∧ bytes * c.toNat ≤ 281474976710656 then
        some (.sl m.next 0 l.toNat esz (some c.toNat), m.new (.cells (List.flatten (List.replicate c.toNat zero)))) else none
    | _, _ => none
  | .slice esz x lo hi mx => match x.get s, argOpt s lo, argOpt s hi, argOpt s mx with
    | some (.sl id off len e cap), some lo, some hi, some mx => if e = esz then match bounds3 len cap lo hi mx with
        | some (l, h, c) => some (.sl id (off + l * esz) (h - l) esz (c.map (· - l)), m)
        | none => none
      else none
    | some (.rs cs len cap), some lo, some hi, some mx => match bounds3 len none lo hi mx with
      | some (l, h, c) => match seg cs (l * esz) ((h - l) * esz) with
        | some r => some (.rs r (h - l) ((match mx with | some _ => c | none => cap).map (· - l)), m)
        | none => none
      | none => none
    | some (.sc (.slice none 0 0)), some lo, some hi, some mx => match bounds3 0 (some 0) lo hi mx with
      | some (0, 0, some 0) => some (anil, m)
      | _ => none
    | _, _, _, _ => none
  | .sliceB esz x lo hi => match x.get s, (lo.get s).bind AVal.int?, (hi.get s).bind AVal.int? with
    | some (.sl id off len e none), some l, some h => if e = esz then match m.cells id with
        | some cs => if 0 ≤ l ∧ l ≤ h ∧ (h ≤ (len : Int) ∨ off + h.toNat * esz ≤ cs.length) then some (.sl id (off + l.toNat * esz) (h.toNat - l.toNat) esz none, m) else none
        | none => none
      else none
    | some (.rs cs len cap), some l, some h => if 0 ≤ l ∧ l ≤ h ∧ h ≤ (len : Int) then match seg cs (l.toNat * esz) ((h.toNat - l.toNat) * esz) with
        | some r => some (.rs r (h.toNat - l.toNat) (cap.map (· - l.toNat)), m)
        | none => none
      else none
    | _, _, _ => none
  | .sliceStr x lo hi => match x.get s, argOpt s lo, argOpt s hi with
    | some (.sc (.string b)), some lo, some hi => match bounds3 b.size (some b.size) lo hi none with
      | some (l, h, _) => some (.sc (.string (b.extract l h)), m)
      | none => none
    | _, _, _ => none
  | .fieldAddr off x => match x.get s with
    | some (.ptr id o) => some (.ptr id (o + off), m)
    | some (.ro cs) => if off ≤ cs.length then some (.ro (cs.drop off), m) else none
    | _ => none
  | .field agg off n x => match x.get s with
    | some (.agg cs) => match seg cs off n with
      | some r => (asVar agg r).map (·, m)
      | none => none
    | _ => none
  | .indexAddr arr esz x i => match x.get s, (i.get s).bind AVal.int? with
    | some (.ptr id off), some i => match arr with
      | some n => if 0 ≤ i ∧ i < n then some (.ptr id (off + i.toNat * esz), m) else none
      | none => none
    | some (.ro cs), some i => match arr with
      | some n => if 0 ≤ i ∧ i < n ∧ i.toNat * esz ≤ cs.length then some (.ro (cs.drop (i.toNat * esz)), m) else none
      | none => none
    | some (.sl id off len e _), some i => match arr with
      | none => if e = esz ∧ 0 ≤ i ∧ i < len then some (.ptr id (off + i.toNat * esz), m) else none
      | some _ => none
    | some (.rs cs len _), some i => match arr with
      | none => if 0 ≤ i ∧ i < len ∧ i.toNat * esz < cs.length then some (.ro (cs.drop (i.toNat * esz)), m) else none
      | some _ => none
    | _, _ => none
  | .indexStr x i => match x.get s, (i.get s).bind AVal.int? with
    | some (.sc (.string b)), some i => if 0 ≤ i then match b[i.toNat]? with
        | some c => some (.sc (.int .u8 c.toNat), m)
        | none => none
      else none
    | _, _ => none
  | .index agg len esz x i => match x.get s, (i.get s).bind AVal.int? with
    | some (.agg cs), some i => if 0 ≤ i ∧ i < len then match seg cs (i.toNat * esz) esz with
        | some r => (asVar agg r).map (·, m)
        | none => none
      else none
    | _, _ => none
  | .extract x i => match x.get s with
    | some (.tup vs) => (vs[i]?).map (·, m)
    | _ => none
  | .lenC n => some (aint n, m)
  | .lenStr x => match x.get s with
    | some (.sc (.string b)) => some (aint (b.size : Nat), m)
    | _ => none
  | .len x => match x.get s with
    | some v => (sliceLen v).map fun (n : Nat) => (aint (n : Int), m)
    | none => none
  | .cap x => match x.get s with
    | some (.sc (.slice none 0 0)) => some (aint 0, m)
    | some (.sl _ _ _ _ (some c)) => some (aint c, m)
    | some (.rs _ _ (some c)) => some (aint c, m)
    | _ => none
  | .append esz bytes s0 x => match s0.get s, x.get s with
    | some a, some x => match sliceLen a, sliceLen x with
      | some l, some n =>
        if n = 0 then some (a, m)
        else match sliceCells m esz l a, sliceCells m esz n x with
          | some old, some new => if (l + n) * bytes ≤ 140737488355328 ∧ l + n ≤ 140737488355328 ∧ new.all AVal.one ∧ old.all AVal.one then match a with
              | .sc _ => some (.sl m.next 0 (l + n) esz none, m.new (.cells (old ++ new)))
              | .rs _ _ cap => if cap = some l then some (.sl m.next 0 (l + n) esz none, m.new (.cells (old ++ new))) else none
              | .sl id off _ _ cap => if cap = some l then some (.sl m.next 0 (l + n) esz none, m.new (.cells (old ++ new)))
                else if cap = none then match m.cells id with
                  | some cs => some (.sl m.next 0 (l + n) esz none, (m.put id none).new (.cells (old ++ new ++ cs.drop (off + (l + n) * esz))))
                  | none => none
                else none
              | _ => none
            else none
          | _, _ => none
      | _, _ => none
    | _, _ => none
  | .appendZeros esz bytes zero s0 x => match s0.get s, (x.get s).bind AVal.int? with
    | some (.sc (.slice none 0 0)), some k =>
      if 0 ≤ k ∧ k.toNat * bytes ≤ 140737488355328 ∧ k ≤ 140737488355328 then
        if k = 0 then some (anil, m) else some (.sl m.next 0 k.toNat esz none, m.new (.cells (List.flatten (List.replicate k.toNat zero))))
      else none
    | _, _ => none
  | .copy esz d x => match d.get s, x.get s with
    | some (.sl id off len e _), some x => match sliceLen x with
      | some n => if e = esz then match m.cells id, sliceCells m esz (min n len) x with
          | some cs, some new => if off + min n len * esz ≤ cs.length ∧ new.all AVal.one then some (aint (min n len : Nat), m.put id (some (.cells (putSeg cs off new)))) else none
          | _, _ => none
        else none
      | none => none
    | _, _ => none
  | .clear esz zero x => match x.get s with
    | some (.sc (.slice none 0 0)) => some (.tup [], m)
    | some (.sl id off len e _) => if len = 0 then some (.tup [], m) else if e = esz then match m.cells id with
        | some cs => if off + len * esz ≤ cs.length then some (.tup [], m.put id (some (.cells (putSeg cs off (List.flatten (List.replicate len zero)))))) else none
        | none => none
      else none
    | _ => none
  | .minmax mx xs => match argAll s xs with
    | some vs => (minmaxA mx vs).map (·, m)
    | none => none
  | .call _ _ => none

/-- What a call comes to. -/
abbrev CallF := Fn → List AVal → Mem → Option (AVal × Mem)

def stepVal (cf : CallF) (s : Tr AVal) (m : Mem) : AOp → Option (AVal × Mem)
  | .call f args => match f.get s, argAll s args with
    | some (.fn g first cap), some vs => cf g (first ++ vs ++ cap) m
    | _, _ => none
  | o => opVal s m o

def wantedA (s : Tr AVal) : Option (Option Nat × Bool) → Option Bool
  | none => some true
  | some (none, _) => some false
  | some (some d, want) => match s.get d with
    | some (.sc (.bool b)) => some (b == want)
    | some (.tup []) => some false
    | _ => none

def setDst (s : Tr AVal) (d : Option Nat) (v : AVal) : Tr AVal :=
  match d with
  | some d => s.set d (some v)
  | none => s

def stepO (cf : CallF) (o : AO) (s : St) : Option St :=
  match wantedA s.slots o.guard with
  | some true => match stepVal cf s.slots s.mem o.op with
    | some (v, m) => some ⟨setDst s.slots o.dst v, m⟩
    | none => none
  | some false => some ⟨setDst s.slots o.dst (.tup []), s.mem⟩
  | none => none

def stepOs (cf : CallF) : List AO → St → Option St
  | [], s => some s
  | o :: r, s => match stepO cf o s with
    | some s' => stepOs cf r s'
    | none => none

/-! #### A region whose order is drawn: in the text's order, each operation on the boxes that it can come to; then: do any two that are not ordered meet? -/
def AVal.id? : AVal → List Nat
  | .ptr id _ => [id]
  | .sl id _ _ _ _ => [id]
  | .mp id => [id]
  | _ => []
def Arg.slots : Arg → List Nat
  | .t i => [i]
  | .k _ => []
def AOp.args : AOp → List Arg
  | .mov x | .box x | .load _ _ x | .nilCheck x | .un _ x | .conv _ x | .real _ x | .fieldAddr _ x | .field _ _ _ x | .extract x _ | .lenStr x | .len x | .cap x | .clear _ _ x => [x]
  | .pick c a b => [c, a, b]
  | .alloc _ | .lenC _ => []
  | .build _ ps | .buildSlice _ _ _ ps => ps.map (·.2.2)
  | .store _ a v | .bin _ a v | .cplx a v | .eqBool _ a v | .eqNil _ _ a v | .eqAgg _ _ a v | .makeSlice _ _ _ a v | .indexAddr _ _ a v | .indexStr a v | .index _ _ _ a v | .append _ _ a v | .appendZeros _ _ _ a v | .copy _ a v => [a, v]
  | .makeFunc _ a b => a ++ b
  | .slice _ x l h mx => [x] ++ l.toList ++ h.toList ++ mx.toList
  | .sliceStr x l h => [x] ++ l.toList ++ h.toList
  | .sliceB _ x l h => [x, l, h]
  | .minmax _ xs => xs
  | .call f args => f :: args

/-- The boxes that may be reached, from values: at most so many steps deep. -/
def reach (h : Tr Box) : Nat → List AVal → List Nat → Option (List Nat)
  | _, [], acc => some acc
  | 0, _, _ => none
  | f + 1, v :: r, acc => match v with
    | .sc _ => reach h f r acc
    | .ro _ => reach h f r acc
    | .rs _ _ _ => reach h f r acc
    | .agg vs => reach h f (vs ++ r) acc
    | .tup vs => reach h f (vs ++ r) acc
    | .fn _ a b => reach h f (a ++ b ++ r) acc
    | .ptr id _ => if acc.contains id then reach h f r acc else match h.get id with
      | some (.cells cs) => reach h f (cs ++ r) (id :: acc)
      | some (.map es _) => reach h f (es.map (·.2.1) ++ r) (id :: acc)
      | none => reach h f r (id :: acc)
    | .sl id _ _ _ _ => if acc.contains id then reach h f r acc else match h.get id with
      | some (.cells cs) => reach h f (cs ++ r) (id :: acc)
      | some (.map es _) => reach h f (es.map (·.2.1) ++ r) (id :: acc)
      | none => reach h f r (id :: acc)
    | .mp id => if acc.contains id then reach h f r acc else match h.get id with
      | some (.cells cs) => reach h f (cs ++ r) (id :: acc)
      | some (.map es _) => reach h f (es.map (·.2.1) ++ r) (id :: acc)
      | none => reach h f r (id :: acc)

def restrict {α : Type} (h : Tr α) : List Nat → Tr α
  | [] => .nil
  | id :: r => (restrict h r).set id (h.get id)
def mergeIds (h sub : Tr Box) : List Nat → Tr Box
  | [] => h
  | id :: r => (mergeIds h sub r).set id (sub.get id)
/-- n boxes from id on. -/
def mergeNew (h sub : Tr Box) (id : Nat) : Nat → Tr Box
  | 0 => h
  | n + 1 => (mergeNew h sub id n).set (id + n) (sub.get (id + n))

/-- What an operation of such a region did: its value; the slots that it looked at; the boxes that it could come to, and whether some were written; the numbers of its new boxes; how those boxes lie behind it. -/
structure Eff where
  dst : Option Nat
  v : AVal
  reads : List Nat
  ids : List Nat
  wr : Bool
  lo : Nat
  hi : Nat
  low : Nat
  sub : Tr Box
  after : Nat
  see : Bool
  all : Bool

def idsOf (t : Tr AVal) (h : Tr Box) : AOp → Option (List Nat)
  | .load _ _ x | .store _ x _ | .clear _ _ x | .sliceB _ x _ _ => (x.get t).map AVal.id?
  | .append _ _ x y | .copy _ x y => match x.get t, y.get t with
    | some x, some y => some (x.id? ++ y.id?)
    | _, _ => none
  | .call f args => match argAll t (f :: args) with
    | none => none
    | some vs => reach h 100000 vs []
  | _ => some []

def slotsOf (o : AO) : List Nat := (match o.guard with | some (some d, _) => [d] | _ => []) ++ o.op.args.flatMap Arg.slots
def effO (cf : CallF) (o : AO) (s : St) : Option Eff :=
  let t := restrict s.slots (slotsOf o)
  match wantedA t o.guard with
  | some true => match idsOf t s.mem.heap o.op with
    | some ids => if ids.all (fun id => decide (id < s.mem.next)) then match stepVal cf t ⟨restrict s.mem.heap ids, s.mem.next, s.mem.next⟩ o.op with
        | some (v, m) => some ⟨o.dst, v, slotsOf o, ids, decide (m.low < s.mem.next), s.mem.next, m.next, m.low, m.heap, o.after, false, false⟩
        | none => none
      else none
    | none => none
  | some false => some ⟨o.dst, .tup [], slotsOf o, [], false, s.mem.next, s.mem.next, s.mem.next, .nil, o.after, false, false⟩
  | none => none
def Eff.app (e : Eff) (s : St) : St :=
  ⟨setDst s.slots e.dst e.v, ⟨mergeNew (if e.wr then mergeIds s.mem.heap e.sub e.ids else s.mem.heap) e.sub e.lo (e.hi - e.lo), e.hi, min s.mem.low e.low⟩⟩

def drawOs (cf : CallF) : List AO → St → Option (St × List Eff)
  | [], s => some (s, [])
  | o :: r, s => match effO cf o s with
    | some e => match drawOs cf r (e.app s) with
      | some (s', es) => some (s', e :: es)
      | none => none
    | none => none

/-- Does what a did, and what b (behind it in the text) did, hang together? -/
def meets (a b : Eff) : Bool :=
  (match a.dst with | some d => b.reads.contains d || b.dst == some d | none => false) ||
  (match b.dst with | some d => a.reads.contains d | none => false) ||
  ((a.wr || b.wr) && a.ids.any b.ids.contains) || b.ids.any (fun id => decide (a.lo ≤ id) && decide (id < a.hi))

/-- Of an effect and those ahead of it: is it ordered behind each that it meets? -/
def apartFrom (e : Eff) : List (Nat × Eff) → Bool
  | [] => true
  | (i, a) :: r => (e.after.testBit i || !meets a e) && apartFrom e r
def allApart (j : Nat) (done : List (Nat × Eff)) : List Eff → Bool
  | [] => true
  | e :: r => apartFrom e done && allApart (j + 1) ((j, e) :: done) r

def drawn (cf : CallF) (ops : List AO) (s : St) : Option St :=
  match drawOs cf ops s with
  | some (s', es) => if allApart 0 [] es then some s' else none
  | none => none

/-! #### Code and calls -/
/-- How a function is called: 'iso': by itself, what it is handed laid before it asq rows that stay; 'frz': what it answers is made rows that stay. 'fresh': handed no box, it is run where there are none; those that it makes are laid beside. -/
inductive Mode where
  | open_
  | known
  | iso (frz : Bool)
  | fresh
  deriving Inhabited

structure Env where
  fns : FuncId → Option AFn
  mode : FuncId → Mode
  known : FuncId → List AVal → Mem → Option (AVal × Mem)

def results1 (s : St) : List AR → Option (List AVal)
  | [] => some []
  | .tmp t :: r => match s.slots.get t, results1 s r with
    | some v, some vs => some (v :: vs)
    | _, _ => none
  | .cell agg n t :: r => match s.slots.get t with
    | some (.ptr id off) => match s.mem.cells id with
      | some cs => match seg cs off n with
        | some x => match asVar agg x, results1 s r with
          | some v, some vs => some (v :: vs)
          | _, _ => none
        | none => none
      | none => none
    | _ => none

def resultV : List AVal → AVal
  | [v] => v
  | vs => .tup vs

def argSlots : List AVal → Nat → Tr AVal → Tr AVal
  | [], _, t => t
  | v :: r, i, t => argSlots r (i + 1) (t.set i (some v))

mutual
/-- No box in it. -/
def AVal.bare : AVal → Bool
  | .sc _ => true
  | .ro cs => bareAll cs
  | .rs cs _ _ => bareAll cs
  | .fn _ a b => bareAll a && bareAll b
  | .agg cs => bareAll cs
  | .tup cs => bareAll cs
  | .ptr _ _ => false
  | .sl _ _ _ _ _ => false
  | .mp _ => false
def bareAll : List AVal → Bool
  | [] => true
  | v :: r => v.bare && bareAll r
end
mutual
/-- No address in it. -/
def AVal.flat : AVal → Bool
  | .sc _ => true
  | .agg cs => flatAll cs
  | .tup cs => flatAll cs
  | _ => false
def flatAll : List AVal → Bool
  | [] => true
  | v :: r => v.flat && flatAll r
end

/-- What lies behind a value, laid before a callee: boxes asq rows that stay; the boxes that it met. -/
def view (m : Mem) : Nat → AVal → Option AVal
  | 0, _ => none
  | f + 1, .sc v => some (.sc v)
  | f + 1, .ptr id off => match m.cells id with
    | some cs => if off ≤ cs.length then ((cs.drop off).mapM (view m f)).map .ro else none
    | none => none
  | f + 1, .sl id off len esz cap => match m.cells id with
    | some cs => match seg cs off (len * esz) with
      | some r => (r.mapM (view m f)).map fun r => .rs r len cap
      | none => none
    | none => none
  | f + 1, .agg cs => (cs.mapM (view m f)).map .agg
  | f + 1, .tup cs => (cs.mapM (view m f)).map .tup
  | f + 1, .fn g a b => match a.mapM (view m f), b.mapM (view m f) with
    | some a, some b => some (.fn g a b)
    | _, _ => none
  | f + 1, v => if v.bare then some v else none

def viewAll (m : Mem) : List AVal → Option (List AVal)
  | [] => some []
  | v :: r => match (if v.bare then some v else view m 64 v), viewAll m r with
    | some v, some r => some (v :: r)
    | _, _ => none

/-! #### A region whose order is drawn, but tells nothing: in the text's order -/
inductive Cl where
  | pure | read | make | quiet | whole
  deriving DecidableEq
def clOf (E : Env) : AOp → Cl
  | .load _ _ x => match x with
    | .t _ => .read
    | .k _ => .whole
  | .alloc _ | .box _ | .buildSlice _ _ _ _ | .makeSlice _ _ _ _ _ => .make
  | .store _ _ _ | .append _ _ _ _ | .appendZeros _ _ _ _ _ | .copy _ _ _ | .clear _ _ _ | .sliceB _ _ _ _ => .whole
  | .call f _ => match f with
    | .k (.fn (.func f) [] []) => match E.mode f with
      | .iso _ => .quiet
      | .fresh => .make
      | _ => .whole
    | _ => .whole
  | _ => .pure
def Cl.free : Cl → Cl → Bool
  | .pure, _ => true
  | _, .pure => true
  | .read, .read | .read, .make | .make, .read | .make, .make | .read, .quiet | .quiet, .read | .quiet, .quiet => true
  | _, _ => false
/-- May b, behind a in the text, come ahead of it? -/
def stillPair (E : Env) (a b : AO) : Bool :=
  (match a.dst with | some d => !(slotsOf b).contains d && b.dst != some d | none => true) &&
  (match b.dst with | some d => !(slotsOf a).contains d | none => true) && (clOf E a.op).free (clOf E b.op)
def stillFrom (E : Env) (b : AO) : Nat → List AO → Bool
  | _, [] => true
  | i, a :: r => (b.after.testBit i || stillPair E a b) && stillFrom E b (i + 1) r
def stillAll (E : Env) (ops : List AO) : List AO → Nat → Bool
  | [], _ => true
  | b :: r, j => stillFrom E b 0 (ops.take j) && stillAll E ops r (j + 1)
def still (E : Env) (ops : List AO) : Bool := stillAll E ops ops 0

mutual
def run (E : Env) : Nat → AC → St → Option (Ex × St)
  | 0, _, _ => none
  | n + 1, .skip, s => some (.normal, s)
  | n + 1, .reg ops d, s => match (if d && !still E ops then drawn (callF E n) ops s else stepOs (callF E n) ops s) with
    | some s' => some (.normal, s')
    | none => none
  | n + 1, .seq a b, s => match run E n a s with
    | some (.normal, s') => run E n b s'
    | r => r
  | n + 1, .cond c a b, s => match c.get s.slots with
    | some (.sc (.bool true)) => run E n a s
    | some (.sc (.bool false)) => run E n b s
    | _ => none
  | n + 1, .blk id c, s => match run E n c s with
    | some (.exit j, s') => if j = id then some (.normal, s') else some (.exit j, s')
    | r => r
  | n + 1, .loop c, s => match run E n c s with
    | some (.normal, s') => run E n (.loop c) s'
    | r => r
  | n + 1, .exit id, s => some (.exit id, s)
  | n + 1, .scope c, s => run E n c s
  | n + 1, .ret, s => some (.ret, s)
/-- A call: told by what is known of it, or by its code. -/
def callF (E : Env) : Nat → Fn → List AVal → Mem → Option (AVal × Mem)
  | 0, _, _, _ => none
  | n + 1, .func f, args, m => match E.mode f with
    | .known => E.known f args m
    | .open_ => match E.fns f with
      | none => none
      | some fn => match body E n fn args ⟨m.heap, m.next, m.next⟩ with
        | some (v, m') => some (v, ⟨m'.heap, m'.next, min m.low m'.low⟩)
        | none => none
    | .iso frz => match E.fns f with
      | none => none
      | some fn => match viewAll m args with
        | none => none
        | some vs => match body E n fn vs ⟨.nil, 0, 0⟩ with
          | some (v, m') =>
            if frz then
              if args.all AVal.bare then match view m' 64 v with
                | some v => some (v, m)
                | none => none
              else none
            else if v.flat || (v.bare && args.all AVal.bare) then some (v, m) else none
          | none => none
    | .fresh => match E.fns f with
      | none => none
      | some fn => if args.all AVal.bare then match body E n fn args ⟨.nil, m.next, m.next⟩ with
          | some (v, m') => some (v, ⟨mergeNew m.heap m'.heap m.next (m'.next - m.next), m'.next, m.low⟩)
          | none => none
        else none
  | _, _, _, _ => none
def body (E : Env) : Nat → AFn → List AVal → Mem → Option (AVal × Mem)
  | 0, _, _, _ => none
  | n + 1, fn, args, m => if args.length ≤ fn.ntmps then match run E n fn.code ⟨argSlots args 0 .nil, m⟩ with
      | some (.normal, s) => (results1 s fn.results).map fun vs => (resultV vs, s.mem)
      | some (.ret, s) => (results1 s fn.results).map fun vs => (resultV vs, s.mem)
      | _ => none
    else none
end
end Go.Am
namespace Go.Proofs.Ytfaphhcloanhnaa
open Go.Am
abbrev f_phasorlaw20_RouteHomes : FuncId := 7
abbrev f_route_Line : FuncId := 8
abbrev f_route_Ring : FuncId := 10
abbrev f_route_Grid : FuncId := 12
abbrev f_phasorref20_Right : FuncId := 14
abbrev f_phasorlaw20_num : FuncId := 15
abbrev f_route_Check : FuncId := 16
abbrev f_phasorlaw20_alive : FuncId := 18
abbrev f_route_Far : FuncId := 19
abbrev f_phasorlaw20_ints : FuncId := 21
abbrev f_route_Path : FuncId := 22
abbrev f_phasorref08_Copy : FuncId := 24
abbrev f_route_Fits : FuncId := 25
abbrev f_phasorref20_Fits : FuncId := 26
abbrev f_route_Route : FuncId := 27
abbrev f_phasorref20_Route : FuncId := 28
abbrev f_phasorlaw20_routed : FuncId := 29
abbrev f_phasorref08_Same : FuncId := 30
abbrev f_route_Home : FuncId := 31
abbrev f_phasorref20_Home : FuncId := 32
abbrev f_route_line : FuncId := 33
abbrev f_phasorref20_far : FuncId := 34
abbrev f_slices_Contains_int_int : FuncId := 35
abbrev f_route_steps : FuncId := 36
abbrev f_route_near : FuncId := 37
abbrev f_route_far : FuncId := 38
abbrev f_route_path : FuncId := 39
abbrev f_phasorref20_step : FuncId := 40
abbrev f_circuit_Check : FuncId := 41
abbrev f_route_Fits_1 : FuncId := 42
abbrev f_slices_ContainsFunc_api_Op_api_Op : FuncId := 43
abbrev f_phasorref08_May : FuncId := 44
abbrev f_route_Route_1 : FuncId := 45
abbrev f_circuit_Copy : FuncId := 46
abbrev f_route_laid_swap : FuncId := 47
abbrev f_phasorref20_laid_swap : FuncId := 48
abbrev f_phasorref20_laid_routed : FuncId := 49
abbrev f_phasorref08_SameOp : FuncId := 50
abbrev f_slices_Clone_int_int : FuncId := 51
abbrev f_slices_SortFunc_int_int : FuncId := 52
abbrev f_route_Home_1 : FuncId := 53
abbrev f_route_up : FuncId := 54
abbrev f_slices_IndexFunc_int_int : FuncId := 55
abbrev f_route_Home_2 : FuncId := 56
abbrev f_slices_Index_int_int : FuncId := 57
abbrev f_slices_Reverse_int_int : FuncId := 58
abbrev f_phasorref20_apart : FuncId := 59
abbrev f_phasorref20_among : FuncId := 60
abbrev f_phasorref20_next : FuncId := 61
abbrev f_slices_Sort_int_int : FuncId := 62
abbrev f_slices_Compact_int_int : FuncId := 63
abbrev f_route_path_1 : FuncId := 64
abbrev f_circuit_may : FuncId := 65
abbrev f_slices_IndexFunc_api_Op_api_Op : FuncId := 66
abbrev f_phasorref08_Check : FuncId := 67
abbrev f_route_swap : FuncId := 68
abbrev f_phasorref08_ints : FuncId := 69
abbrev f_route_up_1 : FuncId := 72
abbrev f_phasorref20_parent : FuncId := 73
abbrev f_gate_Check : FuncId := 75
abbrev f_phasorref08_Op : FuncId := 76
abbrev f_gate_Arity : FuncId := 96
abbrev f_phasorref06_Check : FuncId := 97
abbrev f_phasorref08_unlike : FuncId := 98
abbrev f_gate_of : FuncId := 108
abbrev f_phasorref06_Is : FuncId := 109
abbrev f_phasorref06_Arity : FuncId := 110
abbrev f_gate_table : FuncId := 113
end Go.Proofs.Ytfaphhcloanhnaa
