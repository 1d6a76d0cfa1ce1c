/- Parts of the proof, joined by program: AmComp. -/
import Derived.Test.YtfaphhcloanhnaaPa0
set_option linter.unusedSimpArgs false
set_option linter.unusedVariables false
namespace Go.Am
section
variable (P : Program)

def szOf (t : TypeId) : Option Nat := (P.info? t).map (·.size)
def bytesOf_ (t : TypeId) : Option Nat := (P.info? t).map (·.bytes)
def aggOf (t : TypeId) : Option Bool :=
  match P.underlying t with
  | some (.struct _) => some true
  | some (.array _ _) => some true
  | some _ => some false
  | none => none
def zeroOf (t : TypeId) : Option (List AVal) :=
  match (P.info? t).bind (·.zero) with
  | some z => scAll z.cells.toList
  | none => none

def compArg : Operand → Option Arg
  | .tmp t => some (.t t)
  | .const v => (ofConst v).map .k
  | .func f => some (.k (.fn (.func f) [] []))
  | .global _ => none
def compArgs : List Operand → Option (List Arg)
  | [] => some []
  | x :: r => match compArg x, compArgs r with
    | some a, some as => some (a :: as)
    | _, _ => none
def compOpt : Option Operand → Option (Option Arg)
  | none => some none
  | some x => (compArg x).map some
/-- Parts, by where they go. -/
def compParts (place : Nat → Option (Nat × Nat)) : List (Nat × Operand) → Option (List (Nat × Nat × Arg))
  | [] => some []
  | (i, x) :: r => match place i, compArg x, compParts place r with
    | some (o, n), some a, some as => some ((o, n, a) :: as)
    | _, _, _ => none
def fieldPlaces : List Field → Option (List (Nat × Nat))
  | [] => some []
  | f :: r => match szOf P f.type, fieldPlaces r with
    | some n, some l => some ((f.offset, n) :: l)
    | _, _ => none

def leavesFs (lv : TypeId → Option (List LK)) : List Field → Nat → Option (List LK)
  | [], _ => some []
  | f :: r, off =>
    if f.name = "_" then none
    else match lv f.type, szOf P f.type with
      | some l, some n => if f.offset = off ∧ n = l.length then match leavesFs lv r (off + l.length) with
          | some k => some (l ++ k)
          | none => none
        else none
      | _, _ => none
/-- The leaves of a type, where '==' asks them one by one. -/
def leavesOf : Nat → TypeId → Option (List LK)
  | 0, _ => none
  | d + 1, t => match P.underlying t with
    | some .bool => some [.bool]
    | some (.int _) => some [.int]
    | some .string => some [.string]
    | some (.struct fs) => if P.stoodInHeld t then none else leavesFs P (leavesOf d) fs.toList 0
    | some (.array n e) => match leavesOf d e, szOf P e, aggOf P e with
      | some r, some z, some g => if z = r.length ∧ (g = false → z = 1) then some (List.flatten (List.replicate n r)) else none
      | _, _, _ => none
    | _ => none

def compOp (o : Oper) : Option AOp :=
  match o.op with
  | .move x => (compArg x).map .mov
  | .assign x => (compArg x).map .mov
  | .pick c a b => match compArg c, compArg a, compArg b with
    | some c, some a, some b => some (.pick c a b)
    | _, _, _ => none
  | .alloc t => (zeroOf P t).map .alloc
  | .box _ x => (compArg x).map .box
  | .build t parts => match zeroOf P t, P.underlying t with
    | some z, some (.struct fs) => match fieldPlaces P fs.toList with
      | some pl => (compParts (fun i => pl[i]?) parts.toList).map (.build z)
      | none => none
    | some z, some (.array _ e) => match szOf P e with
      | some n => (compParts (fun i => some (i * n, n)) parts.toList).map (.build z)
      | none => none
    | _, _ => none
  | .buildSlice t len parts => match P.underlying t with
    | some (.slice e) => match szOf P e, zeroOf P e with
      | some n, some z => if 0 < n ∧ z.length = n ∧ len * n ≤ 16777216 then (compParts (fun i => some (i * n, n)) parts.toList).map (.buildSlice n len (List.flatten (List.replicate len z))) else none
      | _, _ => none
    | _ => none
  | .load t x => match aggOf P t, szOf P t, compArg x with
    | some a, some n, some x => some (.load a (if a then n else 1) x)
    | _, _, _ => none
  | .store t a v => match szOf P t, compArg a, compArg v with
    | some n, some a, some v => some (.store n a v)
    | _, _, _ => none
  | .nilCheck x => (compArg x).map .nilCheck
  | .binOp op t x y _ => match compArg x, compArg y with
    | some x, some y => match P.underlying t with
      | some (.int _) => some (.bin op x y)
      | some (.float _) => some (.bin op x y)
      | some (.complex _) => some (.bin op x y)
      | some .string => some (.bin op x y)
      | some .bool => match op with
        | .eql => some (.eqBool false x y)
        | .neq => some (.eqBool true x y)
        | _ => none
      | some (.pointer _) => match op with
        | .eql => some (.eqNil .ptr false x y)
        | .neq => some (.eqNil .ptr true x y)
        | _ => none
      | some (.slice _) => match op with
        | .eql => some (.eqNil .slice false x y)
        | .neq => some (.eqNil .slice true x y)
        | _ => none
      | some (.func _ _ _) => match op with
        | .eql => some (.eqNil .func false x y)
        | .neq => some (.eqNil .func true x y)
        | _ => none
      | some (.map _ _) => match op with
        | .eql => some (.eqNil .map false x y)
        | .neq => some (.eqNil .map true x y)
        | _ => none
      | some (.struct _) => if P.eqGuardType P.depth t then none else match op, leavesOf P 20 t with
        | .eql, some l => some (.eqAgg false l x y)
        | .neq, some l => some (.eqAgg true l x y)
        | _, _ => none
      | some (.array _ _) => if P.eqGuardType P.depth t then none else match op, leavesOf P 20 t with
        | .eql, some l => some (.eqAgg false l x y)
        | .neq, some l => some (.eqAgg true l x y)
        | _, _ => none
      | _ => none
    | _, _ => none
  | .unOp op _ x => (compArg x).map (.un op)
  | .convert s d x => match compArg x, P.underlying s, P.underlying d with
    | some x, some (.int _), some (.int k) => some (.conv (.int k) x)
    | some x, some .string, some .string => some (.conv .same x)
    | some x, some (.int _), some (.float k) => some (.conv (.float k) x)
    | some x, some (.float _), some (.float k) => some (.conv (.float k) x)
    | _, _, _ => none
  | .makeFunc f a b => match compArgs a.toList, compArgs b.toList with
    | some a, some b => some (.makeFunc f a b)
    | _, _ => none
  | .makeSlice t l c => match P.underlying t with
    | some (.slice e) => match szOf P e, bytesOf_ P e, zeroOf P e, compArg l, compArg c with
      | some n, some b, some z, some l, some c => if 0 < n ∧ z.length = n then some (.makeSlice n b z l c) else none
      | _, _, _, _, _ => none
    | _ => none
  | .slice t x lo hi mx => match P.underlying t, compArg x, compOpt lo, compOpt hi, compOpt mx with
    | some (.slice e), some x, some lo, some hi, some mx => match szOf P e with
      | some n => if 0 < n then some (.slice n x lo hi mx) else none
      | none => none
    | some .string, some x, some lo, some hi, some none => some (.sliceStr x lo hi)
    | _, _, _, _, _ => none
  | .fieldAddr t x i => match P.underlying t, compArg x with
    | some (.struct fs), some x => match fs[i]? with
      | some f => match szOf P f.type with
        | some n => if 0 < n then some (.fieldAddr f.offset x) else none
        | none => none
      | none => none
    | _, _ => none
  | .field t x i => match P.underlying t, compArg x with
    | some (.struct fs), some x => match fs[i]? with
      | some f => match aggOf P f.type, szOf P f.type with
        | some a, some n => some (.field a f.offset (if a then n else 1) x)
        | _, _ => none
      | none => none
    | _, _ => none
  | .indexAddr t x i => match compArg x, compArg i with
    | some x, some i => match P.underlying t with
      | some (.array n e) => match szOf P e with
        | some z => if 0 < z then some (.indexAddr (some n) z x i) else none
        | none => none
      | some (.slice e) => match szOf P e with
        | some z => if 0 < z then some (.indexAddr none z x i) else none
        | none => none
      | _ => none
    | _, _ => none
  | .index t x i => match compArg x, compArg i with
    | some x, some i => match P.underlying t with
      | some (.array n e) => match aggOf P e, szOf P e with
        | some a, some z => if a = false → z = 1 then some (.index a n z x i) else none
        | _, _ => none
      | some .string => some (.indexStr x i)
      | _ => none
    | _, _ => none
  | .extract x i => (compArg x).map fun x => .extract x i
  | .call c => match c.callee with
    | .value f => match compArg f, compArgs c.args.toList with
      | some f, some as => some (.call f as)
      | _, _ => none
    | .invoke _ _ => none
    | .builtin b => match b, compArgs c.args.toList, c.argTypes.toList with
      | .len, some [x], [t] => match P.underlying t with
        | some .string => some (.lenStr x)
        | some (.slice _) => some (.len x)
        | some (.array n _) => some (.lenC n)
        | _ => none
      | .cap, some [x], [t] => match P.underlying t with
        | some (.slice _) => some (.cap x)
        | _ => none
      | .append, some [a, x], [t, u] => match P.underlying t, P.underlying u with
        | some (.slice e), some (.slice _) => match szOf P e, bytesOf_ P e, zeroOf P e with
          | some n, some b, some z => if 0 < n ∧ 0 < b ∧ z.length = n then some (.append n b a x) else none
          | _, _, _ => none
        | _, _ => none
      | .copy, some [a, x], t :: _ => match P.underlying t with
        | some (.slice e) => match szOf P e with
          | some n => if 0 < n then some (.copy n a x) else none
          | none => none
        | _ => none
      | .clear, some [x], [t] => match P.underlying t with
        | some (.slice e) => match szOf P e, zeroOf P e with
          | some n, some z => if 0 < n ∧ z.length = n then some (.clear n z x) else none
          | _, _ => none
        | _ => none
      | .real, some [x], _ => some (.real false x)
      | .imag, some [x], _ => some (.real true x)
      | .complex, some [x, y], _ => some (.cplx x y)
      | .max, some xs, _ => some (.minmax true xs)
      | .min, some xs, _ => some (.minmax false xs)
      | _, _, _ => none
  | _ => none

def dstOk (n : Nat) : Option Nat → Bool
  | some d => decide (d < n)
  | none => true
def compAO (ntmps : Nat) (ops : Array Oper) (before : Array Nat) (i : Nat) (o : Oper) : Option AO :=
  match compOp P o with
  | none => none
  | some op =>
    if dstOk ntmps o.dst = true then
      some { dst := o.dst, op := op, guard := o.guard.map fun g => ((ops[g.1]?).bind (·.dst), g.2), after := before.getD i 0 }
    else none
def compOs (ntmps : Nat) (ops : Array Oper) (before : Array Nat) : Nat → List Oper → Option (List AO)
  | _, [] => some []
  | i, o :: r => match compAO P ntmps ops before i o, compOs ntmps ops before (i + 1) r with
    | some a, some as => some (a :: as)
    | _, _ => none

/-- Each bit of what is told to come ahead is an edge's, or comes through one. -/
def okAfter (ops : Array Oper) (bf : Array Nat) : Bool :=
  ops.toList.zipIdx.all fun x => (List.range ops.size).all fun k => !(bf.getD x.2 0).testBit k || x.1.after.any fun e => Region.binds .any e && (e.on == k || (bf.getD e.on 0).testBit k)
def okEdges (ops : Array Oper) : Bool := ops.toList.zipIdx.all fun x => x.1.after.all fun e => !Region.binds .any e || decide (e.on < x.2)

def comp (ntmps : Nat) : Code → Option AC
  | .skip => some .skip
  | .region _ ops d =>
    match d with
    | true => if okEdges ops ∧ okAfter ops (Region.before ops) then (compOs P ntmps ops (Region.before ops) 0 ops.toList).map fun l => .reg l true else none
    | false => (compOs P ntmps ops #[] 0 ops.toList).map fun l => .reg l false
  | .seq a b => match comp ntmps a, comp ntmps b with
    | some a, some b => some (.seq a b)
    | _, _ => none
  | .cond c a b => match compArg c, comp ntmps a, comp ntmps b with
    | some c, some a, some b => some (.cond c a b)
    | _, _, _ => none
  | .block id c => (comp ntmps c).map (.blk id)
  | .loop c => (comp ntmps c).map .loop
  | .exit id => some (.exit id)
  | .scope c => (comp ntmps c).map .scope
  | .label _ => some .skip
  | .ret => some .ret
  | _ => none

def compRes : List ResultVar → Option (List AR)
  | [] => some []
  | .tmp t :: r => (compRes r).map (.tmp t :: ·)
  | .cell a t :: r => match aggOf P t, szOf P t, compRes r with
    | some g, some n, some l => some (.cell g (if g then n else 1) a :: l)
    | _, _, _ => none

def compFn (f : Func) : Option AFn :=
  match f.body with
  | none => none
  | some c => match comp P f.ntmps c, compRes P f.results.toList with
    | some c, some r => some { code := c, ntmps := f.ntmps, results := r }
    | _, _ => none
end
end Go.Am
