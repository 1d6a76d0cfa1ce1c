/- Parts of the proof, joined by program: AmComp, AmCodeOk, AmRep. -/
import Derived.Test.YtmflheoafeenfaaGreatPa1
import Derived.Test.YtmflheoafeenfaaGreatPa5
import Derived.Test.YtmflheoafeenfaaGreatChecked
import Derived.KernelRfl
import Derived.Calls
set_option linter.unusedSimpArgs false
set_option linter.unusedVariables false
namespace Go.Am
section
variable (P : Program)

def szOf (t : TypeId) : Option Nat := (P.info? t).map (·.size)
def bytesOf_ (t : TypeId) : Option Nat := (P.info? t).map (·.bytes)
def aggOf (t : TypeId) : Option Bool :=
  match P.underlying t with
  | some (.struct _) => some true
  | some (.array _ _) => some true
  | some _ => some false
  | none => none
def zeroOf (t : TypeId) : Option (List AVal) :=
  match (P.info? t).bind (·.zero) with
  | some z => scAll z.cells.toList
  | none => none

def compArg : Operand → Option Arg
  | .tmp t => some (.t t)
  | .const v => (ofConst v).map .k
  | .func f => some (.k (.fn (.func f) [] []))
  | .global _ => none
def compArgs : List Operand → Option (List Arg)
  | [] => some []
  | x :: r => match compArg x, compArgs r with
    | some a, some asq => some (a :: asq)
    | _, _ => none
def compOpt : Option Operand → Option (Option Arg)
  | none => some none
  | some x => (compArg x).map some
/-- Parts, by where they go. -/
def compParts (place : Nat → Option (Nat × Nat)) : List (Nat × Operand) → Option (List (Nat × Nat × Arg))
  | [] => some []
  | (i, x) :: r => match place i, compArg x, compParts place r with
    | some (o, n), some a, some asq => some ((o, n, a) :: asq)
    | _, _, _ => none
def fieldPlaces : List Field → Option (List (Nat × Nat))
  | [] => some []
  | f :: r => match szOf P f.type, fieldPlaces r with
    | some n, some l => some ((f.offset, n) :: l)
    | _, _ => none

def leavesFs (lv : TypeId → Option (List LK)) : List Field → Nat → Option (List LK)
  | [], _ => some []
  | f :: r, off =>
    if f.name = "_" then none
    else match lv f.type, szOf P f.type with
      | some l, some n => if f.offset = off ∧ n = l.length then match leavesFs lv r (off + l.length) with
          | some k => some (l ++ k)
          | none => none
        else none
      | _, _ => none
/-- The leaves of a type, where '==' asks them one by one. -/
def leavesOf : Nat → TypeId → Option (List LK)
  | 0, _ => none
  | d + 1, t => match P.underlying t with
    | some .bool => some [.bool]
    | some (.int _) => some [.int]
    | some .string => some [.string]
    | some (.struct fs) => if P.stoodInHeld t then none else leavesFs P (leavesOf d) fs.toList 0
    | some (.array n e) => match leavesOf d e, szOf P e, aggOf P e with
      | some r, some z, some g => if z = r.length ∧ (g = false → z = 1) then some (List.flatten (List.replicate n r)) else none
      | _, _, _ => none
    | _ => none

def compOp (o : Oper) : Option AOp :=
  match o.op with
  | .move x => (compArg x).map .mov
  | .assign x => (compArg x).map .mov
  | .pick c a b => match compArg c, compArg a, compArg b with
    | some c, some a, some b => some (.pick c a b)
    | _, _, _ => none
  | .alloc t => (zeroOf P t).map .alloc
  | .box _ x => (compArg x).map .box
  | .build t parts => match zeroOf P t, P.underlying t with
    | some z, some (.struct fs) => match fieldPlaces P fs.toList with
      | some pl => (compParts (fun i => pl[i]?) parts.toList).map (.build z)
      | none => none
    | some z, some (.array _ e) => match szOf P e with
      | some n => (compParts (fun i => some (i * n, n)) parts.toList).map (.build z)
      | none => none
    | _, _ => none
  | .buildSlice t len parts => match P.underlying t with
    | some (.slice e) => match szOf P e, zeroOf P e with
      | some n, some z => if 0 < n ∧ z.length = n ∧ len * n ≤ 16777216 then (compParts (fun i => some (i * n, n)) parts.toList).map (.buildSlice n len (List.flatten (List.replicate len z))) else none
      | _, _ => none
    | _ => none
  | .load t x => match aggOf P t, szOf P t, compArg x with
    | some a, some n, some x => some (.load a (if a then n else 1) x)
    | _, _, _ => none
  | .store t a v => match szOf P t, compArg a, compArg v with
    | some n, some a, some v => some (.store n a v)
    | _, _, _ => none
  | .nilCheck x => (compArg x).map .nilCheck
  | .binOp op t x y _ => match compArg x, compArg y with
    | some x, some y => match P.underlying t with
      | some (.int _) => some (.bin op x y)
      | some (.float _) => some (.bin op x y)
      | some (.complex _) => some (.bin op x y)
      | some .string => some (.bin op x y)
      | some .bool => match op with
        | .eql => some (.eqBool false x y)
        | .neq => some (.eqBool true x y)
        | _ => none
      | some (.pointer _) => match op with
        | .eql => some (.eqNil .ptr false x y)
        | .neq => some (.eqNil .ptr true x y)
        | _ => none
      | some (.slice _) => match op with
        | .eql => some (.eqNil .slice false x y)
        | .neq => some (.eqNil .slice true x y)
        | _ => none
      | some (.func _ _ _) => match op with
        | .eql => some (.eqNil .func false x y)
        | .neq => some (.eqNil .func true x y)
        | _ => none
      | some (.map _ _) => match op with
        | .eql => some (.eqNil .map false x y)
        | .neq => some (.eqNil .map true x y)
        | _ => none
      | some (.struct _) => if P.eqGuardType P.depth t then none else match op, leavesOf P 20 t with
        | .eql, some l => some (.eqAgg false l x y)
        | .neq, some l => some (.eqAgg true l x y)
        | _, _ => none
      | some (.array _ _) => if P.eqGuardType P.depth t then none else match op, leavesOf P 20 t with
        | .eql, some l => some (.eqAgg false l x y)
        | .neq, some l => some (.eqAgg true l x y)
        | _, _ => none
      | _ => none
    | _, _ => none
  | .unOp op _ x => (compArg x).map (.un op)
  | .convert s d x => match compArg x, P.underlying s, P.underlying d with
    | some x, some (.int _), some (.int k) => some (.conv (.int k) x)
    | some x, some .string, some .string => some (.conv .same x)
    | some x, some (.int _), some (.float k) => some (.conv (.float k) x)
    | some x, some (.float _), some (.float k) => some (.conv (.float k) x)
    | _, _, _ => none
  | .makeFunc f a b => match compArgs a.toList, compArgs b.toList with
    | some a, some b => some (.makeFunc f a b)
    | _, _ => none
  | .makeSlice t l c => match P.underlying t with
    | some (.slice e) => match szOf P e, bytesOf_ P e, zeroOf P e, compArg l, compArg c with
      | some n, some b, some z, some l, some c => if 0 < n ∧ z.length = n then some (.makeSlice n b z l c) else none
      | _, _, _, _, _ => none
    | _ => none
  | .slice t x lo hi mx => match P.underlying t, compArg x, compOpt lo, compOpt hi, compOpt mx with
    | some (.slice e), some x, some lo, some hi, some mx => match szOf P e with
      | some n => if 0 < n then (match lo, hi, mx with
        | some lo, some hi, none => some (.sliceB n x lo hi)
        | _, _, _ => some (.slice n x lo hi mx)) else none
      | none => none
    | some .string, some x, some lo, some hi, some none => some (.sliceStr x lo hi)
    | _, _, _, _, _ => none
  | .fieldAddr t x i => match P.underlying t, compArg x with
    | some (.struct fs), some x => match fs[i]? with
      | some f => match szOf P f.type with
        | some n => if 0 < n then some (.fieldAddr f.offset x) else none
        | none => none
      | none => none
    | _, _ => none
  | .field t x i => match P.underlying t, compArg x with
    | some (.struct fs), some x => match fs[i]? with
      | some f => match aggOf P f.type, szOf P f.type with
        | some a, some n => some (.field a f.offset (if a then n else 1) x)
        | _, _ => none
      | none => none
    | _, _ => none
  | .indexAddr t x i => match compArg x, compArg i with
    | some x, some i => match P.underlying t with
      | some (.array n e) => match szOf P e with
        | some z => if 0 < z then some (.indexAddr (some n) z x i) else none
        | none => none
      | some (.slice e) => match szOf P e with
        | some z => if 0 < z then some (.indexAddr none z x i) else none
        | none => none
      | _ => none
    | _, _ => none
  | .index t x i => match compArg x, compArg i with
    | some x, some i => match P.underlying t with
      | some (.array n e) => match aggOf P e, szOf P e with
        | some a, some z => if a = false → z = 1 then some (.index a n z x i) else none
        | _, _ => none
      | some .string => some (.indexStr x i)
      | _ => none
    | _, _ => none
  | .extract x i => (compArg x).map fun x => .extract x i
  | .call c => match c.callee with
    | .value f => match compArg f, compArgs c.args.toList with
      | some f, some asq => some (.call f asq)
      | _, _ => none
    | .invoke _ _ => none
    | .builtin b => match b, compArgs c.args.toList, c.argTypes.toList with
      | .len, some [x], [t] => match P.underlying t with
        | some .string => some (.lenStr x)
        | some (.slice _) => some (.len x)
        | some (.array n _) => some (.lenC n)
        | _ => none
      | .cap, some [x], [t] => match P.underlying t with
        | some (.slice _) => some (.cap x)
        | _ => none
      | .append, some [a, x], [t, u] => match P.underlying t, P.underlying u with
        | some (.slice e), some (.slice _) => match szOf P e, bytesOf_ P e, zeroOf P e with
          | some n, some b, some z => if 0 < n ∧ 0 < b ∧ z.length = n then some (.append n b a x) else none
          | _, _, _ => none
        | some (.slice e), some (.int _) => match szOf P e, bytesOf_ P e, zeroOf P e with
          | some n, some b, some z => if 0 < n ∧ 0 < b ∧ z.length = n then some (.appendZeros n b z a x) else none
          | _, _, _ => none
        | _, _ => none
      | .copy, some [a, x], t :: _ => match P.underlying t with
        | some (.slice e) => match szOf P e with
          | some n => if 0 < n then some (.copy n a x) else none
          | none => none
        | _ => none
      | .clear, some [x], [t] => match P.underlying t with
        | some (.slice e) => match szOf P e, zeroOf P e with
          | some n, some z => if 0 < n ∧ z.length = n then some (.clear n z x) else none
          | _, _ => none
        | _ => none
      | .real, some [x], _ => some (.real false x)
      | .imag, some [x], _ => some (.real true x)
      | .complex, some [x, y], _ => some (.cplx x y)
      | .max, some xs, _ => some (.minmax true xs)
      | .min, some xs, _ => some (.minmax false xs)
      | _, _, _ => none
  | .makeInterface _ _ => some (.lenStr (.k (.sc (.bool false))))
  | .panic _ => some (.lenStr (.k (.sc (.bool false))))
  | _ => none

def dstOk (n : Nat) : Option Nat → Bool
  | some d => decide (d < n)
  | none => true
def compAO (ntmps : Nat) (ops : Array Oper) (before : Array Nat) (i : Nat) (o : Oper) : Option AO :=
  match compOp P o with
  | none => none
  | some op =>
    if dstOk ntmps o.dst = true then
      some { dst := o.dst, op := op, guard := o.guard.map fun g => ((ops[g.1]?).bind (·.dst), g.2), after := before.getD i 0 }
    else none
def compOs (ntmps : Nat) (ops : Array Oper) (before : Array Nat) : Nat → List Oper → Option (List AO)
  | _, [] => some []
  | i, o :: r => match compAO P ntmps ops before i o, compOs ntmps ops before (i + 1) r with
    | some a, some asq => some (a :: asq)
    | _, _ => none

/-- Each bit of what is told to come ahead is an edge's, or comes through one. -/
def okAfter (ops : Array Oper) (bf : Array Nat) : Bool :=
  ops.toList.zipIdx.all fun x => (List.range ops.size).all fun k => !(bf.getD x.2 0).testBit k || x.1.after.any fun e => Region.binds .any e && (e.on == k || (bf.getD e.on 0).testBit k)
def okEdges (ops : Array Oper) : Bool := ops.toList.zipIdx.all fun x => x.1.after.all fun e => !Region.binds .any e || decide (e.on < x.2)

def comp (ntmps : Nat) : Code → Option AC
  | .skip => some .skip
  | .region _ ops d =>
    match d with
    | true => if okEdges ops ∧ okAfter ops (Region.before ops) then (compOs P ntmps ops (Region.before ops) 0 ops.toList).map fun l => .reg l true else none
    | false => (compOs P ntmps ops #[] 0 ops.toList).map fun l => .reg l false
  | .seq a b => match comp ntmps a, comp ntmps b with
    | some a, some b => some (.seq a b)
    | _, _ => none
  | .cond c a b => match compArg c, comp ntmps a, comp ntmps b with
    | some c, some a, some b => some (.cond c a b)
    | _, _, _ => none
  | .block id c => (comp ntmps c).map (.blk id)
  | .loop c => (comp ntmps c).map .loop
  | .exit id => some (.exit id)
  | .scope c => (comp ntmps c).map .scope
  | .label _ => some .skip
  | .ret => some .ret
  | _ => none

def compRes : List ResultVar → Option (List AR)
  | [] => some []
  | .tmp t :: r => (compRes r).map (.tmp t :: ·)
  | .cell a t :: r => match aggOf P t, szOf P t, compRes r with
    | some g, some n, some l => some (.cell g (if g then n else 1) a :: l)
    | _, _, _ => none

def compFn (f : Func) : Option AFn :=
  match f.body with
  | none => none
  | some c => match comp P f.ntmps c, compRes P f.results.toList with
    | some c, some r => some { code := c, ntmps := f.ntmps, results := r }
    | _, _ => none
end
end Go.Am
namespace Go.Proofs.YtmflheoafeenfaaGreat
open Go.Am
set_option maxRecDepth 100000
theorem k_phasorlaw18_RewriteExpands : compFn Tryz.prog Tryz.f5 = some c_phasorlaw18_RewriteExpands := by kernel_rfl
theorem k_phasorref08_Copy : compFn Tryz.prog Tryz.f8 = some c_phasorref08_Copy := by kernel_rfl
theorem k_rewrite_Cancel : compFn Tryz.prog Tryz.f9 = some c_rewrite_Cancel := by kernel_rfl
theorem k_rewrite_Merge : compFn Tryz.prog Tryz.f11 = some c_rewrite_Merge := by kernel_rfl
theorem k_rewrite_Simplify : compFn Tryz.prog Tryz.f12 = some c_rewrite_Simplify := by kernel_rfl
theorem k_phasorlaw18_num : compFn Tryz.prog Tryz.f13 = some c_phasorlaw18_num := by kernel_rfl
theorem k_phasorref08_Same : compFn Tryz.prog Tryz.f14 = some c_phasorref08_Same := by kernel_rfl
theorem k_phasorlaw18_own : compFn Tryz.prog Tryz.f15 = some c_phasorlaw18_own := by kernel_rfl
theorem k_phasorlaw18_alive : compFn Tryz.prog Tryz.f16 = some c_phasorlaw18_alive := by kernel_rfl
theorem k_rewrite_Order : compFn Tryz.prog Tryz.f17 = some c_rewrite_Order := by kernel_rfl
theorem k_rewrite_Reorders : compFn Tryz.prog Tryz.f19 = some c_rewrite_Reorders := by kernel_rfl
theorem k_rewrite_Expand : compFn Tryz.prog Tryz.f21 = some c_rewrite_Expand := by kernel_rfl
theorem k_phasorref18_Expand : compFn Tryz.prog Tryz.f22 = some c_phasorref18_Expand := by kernel_rfl
theorem k_rewrite_used : compFn Tryz.prog Tryz.f32 = some c_rewrite_used := by kernel_rfl
theorem k_rewrite_nothing : compFn Tryz.prog Tryz.f33 = some c_rewrite_nothing := by kernel_rfl
theorem k_rewrite_inverse : compFn Tryz.prog Tryz.f34 = some c_rewrite_inverse := by kernel_rfl
theorem k_phasorref08_May : compFn Tryz.prog Tryz.f35 = some c_phasorref08_May := by kernel_rfl
theorem k_rewrite_compose : compFn Tryz.prog Tryz.f37 = some c_rewrite_compose := by kernel_rfl
theorem k_phasorref08_SameOp : compFn Tryz.prog Tryz.f38 = some c_phasorref08_SameOp := by kernel_rfl
theorem k_phasorlaw18_two : compFn Tryz.prog Tryz.f39 = some c_phasorlaw18_two := by kernel_rfl
theorem k_phasorlaw18_op : compFn Tryz.prog Tryz.f40 = some c_phasorlaw18_op := by kernel_rfl
theorem k_rewrite_Touch : compFn Tryz.prog Tryz.f41 = some c_rewrite_Touch := by kernel_rfl
theorem k_circuit_Check : compFn Tryz.prog Tryz.f42 = some c_circuit_Check := by kernel_rfl
theorem k_circuit_Copy : compFn Tryz.prog Tryz.f43 = some c_circuit_Copy := by kernel_rfl
theorem k_rewrite_compare : compFn Tryz.prog Tryz.f44 = some c_rewrite_compare := by kernel_rfl
theorem k_circuit_Same : compFn Tryz.prog Tryz.f48 = some c_circuit_Same := by kernel_rfl
theorem k_rewrite_written : compFn Tryz.prog Tryz.f49 = some c_rewrite_written := by kernel_rfl
theorem k_phasorref18_written : compFn Tryz.prog Tryz.f50 = some c_phasorref18_written := by kernel_rfl
theorem k_rewrite_plain : compFn Tryz.prog Tryz.f51 = some c_rewrite_plain := by kernel_rfl
theorem k_phasorref18_one : compFn Tryz.prog Tryz.f60 = some c_phasorref18_one := by kernel_rfl
theorem k_gate_Matrix : compFn Tryz.prog Tryz.f65 = some c_gate_Matrix := by kernel_rfl
theorem k_rewrite_partner : compFn Tryz.prog Tryz.f66 = some c_rewrite_partner := by kernel_rfl
theorem k_slices_Clone_int_int : compFn Tryz.prog Tryz.f69 = some c_slices_Clone_int_int := by kernel_rfl
theorem k_rewrite_without : compFn Tryz.prog Tryz.f75 = some c_rewrite_without := by kernel_rfl
theorem k_rewrite_undoes : compFn Tryz.prog Tryz.f76 = some c_rewrite_undoes := by kernel_rfl
theorem k_phasorref08_Check : compFn Tryz.prog Tryz.f77 = some c_phasorref08_Check := by kernel_rfl
theorem k_slices_Equal_int_int : compFn Tryz.prog Tryz.f82 = some c_slices_Equal_int_int := by kernel_rfl
theorem k_gate_Compose : compFn Tryz.prog Tryz.f83 = some c_gate_Compose := by kernel_rfl
theorem k_phasorref08_ints : compFn Tryz.prog Tryz.f84 = some c_phasorref08_ints := by kernel_rfl
theorem k_rewrite_asks : compFn Tryz.prog Tryz.f85 = some c_rewrite_asks := by kernel_rfl
theorem k_slices_ContainsFunc_int_int : compFn Tryz.prog Tryz.f86 = some c_slices_ContainsFunc_int_int := by kernel_rfl
theorem k_rewrite_Touch_1 : compFn Tryz.prog Tryz.f87 = some c_rewrite_Touch_1 := by kernel_rfl
theorem k_slices_Contains_int_int : compFn Tryz.prog Tryz.f88 = some c_slices_Contains_int_int := by kernel_rfl
theorem k_rewrite_Touch_2 : compFn Tryz.prog Tryz.f89 = some c_rewrite_Touch_2 := by kernel_rfl
theorem k_circuit_may : compFn Tryz.prog Tryz.f90 = some c_circuit_may := by kernel_rfl
theorem k_cmp_Or_int : compFn Tryz.prog Tryz.f91 = some c_cmp_Or_int := by kernel_rfl
theorem k_cmp_Compare_api_OpKind : compFn Tryz.prog Tryz.f92 = some c_cmp_Compare_api_OpKind := by kernel_rfl
theorem k_cmp_Compare_api_GateKind : compFn Tryz.prog Tryz.f93 = some c_cmp_Compare_api_GateKind := by kernel_rfl
theorem k_slices_Compare_int_int : compFn Tryz.prog Tryz.f94 = some c_slices_Compare_int_int := by kernel_rfl
theorem k_cmp_Compare_int : compFn Tryz.prog Tryz.f95 = some c_cmp_Compare_int := by kernel_rfl
theorem k_slices_EqualFunc_api_Op_api_Op_api_Op_api_Op : compFn Tryz.prog Tryz.f97 = some c_slices_EqualFunc_api_Op_api_Op_api_Op_api_Op := by kernel_rfl
theorem k_circuit_Same_1 : compFn Tryz.prog Tryz.f98 = some c_circuit_Same_1 := by kernel_rfl
theorem k_rewrite_written_1 : compFn Tryz.prog Tryz.f99 = some c_rewrite_written_1 := by kernel_rfl
theorem k_rewrite_written_2 : compFn Tryz.prog Tryz.f100 = some c_rewrite_written_2 := by kernel_rfl
theorem k_slices_Concat_api_Op_api_Op : compFn Tryz.prog Tryz.f101 = some c_slices_Concat_api_Op_api_Op := by kernel_rfl
theorem k_gate_Arity : compFn Tryz.prog Tryz.f104 = some c_gate_Arity := by kernel_rfl
theorem k_gate_Halving : compFn Tryz.prog Tryz.f105 = some c_gate_Halving := by kernel_rfl
theorem k_gate_halving : compFn Tryz.prog Tryz.f106 = some c_gate_halving := by kernel_rfl
theorem k_gate_Moves : compFn Tryz.prog Tryz.f107 = some c_gate_Moves := by kernel_rfl
theorem k_gate_power : compFn Tryz.prog Tryz.f108 = some c_gate_power := by kernel_rfl
theorem k_gate_clean : compFn Tryz.prog Tryz.f109 = some c_gate_clean := by kernel_rfl
theorem k_slices_Equal_complex128_complex128 : compFn Tryz.prog Tryz.f110 = some c_slices_Equal_complex128_complex128 := by kernel_rfl
theorem k_gate_times : compFn Tryz.prog Tryz.f111 = some c_gate_times := by kernel_rfl
theorem k_phasorref06_Is : compFn Tryz.prog Tryz.f115 = some c_phasorref06_Is := by kernel_rfl
theorem k_phasorref06_Arity : compFn Tryz.prog Tryz.f116 = some c_phasorref06_Arity := by kernel_rfl
theorem k_slices_Delete_api_Op_api_Op : compFn Tryz.prog Tryz.f125 = some c_slices_Delete_api_Op_api_Op := by kernel_rfl
theorem k_slices_Clone_api_Op_api_Op : compFn Tryz.prog Tryz.f126 = some c_slices_Clone_api_Op_api_Op := by kernel_rfl
theorem k_gate_Inverse : compFn Tryz.prog Tryz.f127 = some c_gate_Inverse := by kernel_rfl
theorem k_rewrite_normal : compFn Tryz.prog Tryz.f128 = some c_rewrite_normal := by kernel_rfl
theorem k_phasorref08_Op : compFn Tryz.prog Tryz.f129 = some c_phasorref08_Op := by kernel_rfl
theorem k_gate_Kinds : compFn Tryz.prog Tryz.f131 = some c_gate_Kinds := by kernel_rfl
theorem k_slices_IndexFunc_int_int : compFn Tryz.prog Tryz.f132 = some c_slices_IndexFunc_int_int := by kernel_rfl
theorem k_slices_Index_int_int : compFn Tryz.prog Tryz.f133 = some c_slices_Index_int_int := by kernel_rfl
theorem k_gate_Check : compFn Tryz.prog Tryz.f134 = some c_gate_Check := by kernel_rfl
theorem k_cmp_isNaN_api_OpKind : compFn Tryz.prog Tryz.f135 = some c_cmp_isNaN_api_OpKind := by kernel_rfl
theorem k_cmp_isNaN_api_GateKind : compFn Tryz.prog Tryz.f136 = some c_cmp_isNaN_api_GateKind := by kernel_rfl
theorem k_cmp_isNaN_int : compFn Tryz.prog Tryz.f137 = some c_cmp_isNaN_int := by kernel_rfl
theorem k_slices_Grow_api_Op_api_Op : compFn Tryz.prog Tryz.f138 = some c_slices_Grow_api_Op_api_Op := by kernel_rfl
theorem k_gate_of : compFn Tryz.prog Tryz.f145 = some c_gate_of := by kernel_rfl
theorem k_gate_Monomial : compFn Tryz.prog Tryz.f146 = some c_gate_Monomial := by kernel_rfl
theorem k_gate_Moves_1 : compFn Tryz.prog Tryz.f147 = some c_gate_Moves_1 := by kernel_rfl
theorem k_gate_Controls : compFn Tryz.prog Tryz.f148 = some c_gate_Controls := by kernel_rfl
theorem k_gate_Moves_2 : compFn Tryz.prog Tryz.f149 = some c_gate_Moves_2 := by kernel_rfl
theorem k_slices_Sort_int_int : compFn Tryz.prog Tryz.f152 = some c_slices_Sort_int_int := by kernel_rfl
theorem k_phasorref06_Check : compFn Tryz.prog Tryz.f153 = some c_phasorref06_Check := by kernel_rfl
theorem k_phasorref08_unlike : compFn Tryz.prog Tryz.f154 = some c_phasorref08_unlike := by kernel_rfl
theorem k_gate_table : compFn Tryz.prog Tryz.f156 = some c_gate_table := by kernel_rfl
theorem k_slices_pdqsortOrdered_int : compFn Tryz.prog Tryz.f157 = some c_slices_pdqsortOrdered_int := by kernel_rfl
theorem k_bits_Len : compFn Tryz.prog Tryz.f158 = some c_bits_Len := by kernel_rfl
theorem k_slices_insertionSortOrdered_int : compFn Tryz.prog Tryz.f159 = some c_slices_insertionSortOrdered_int := by kernel_rfl
theorem k_slices_heapSortOrdered_int : compFn Tryz.prog Tryz.f160 = some c_slices_heapSortOrdered_int := by kernel_rfl
theorem k_slices_breakPatternsOrdered_int : compFn Tryz.prog Tryz.f161 = some c_slices_breakPatternsOrdered_int := by kernel_rfl
theorem k_slices_choosePivotOrdered_int : compFn Tryz.prog Tryz.f162 = some c_slices_choosePivotOrdered_int := by kernel_rfl
theorem k_slices_reverseRangeOrdered_int : compFn Tryz.prog Tryz.f163 = some c_slices_reverseRangeOrdered_int := by kernel_rfl
theorem k_slices_partialInsertionSortOrdered_int : compFn Tryz.prog Tryz.f164 = some c_slices_partialInsertionSortOrdered_int := by kernel_rfl
theorem k_cmp_Less_int : compFn Tryz.prog Tryz.f165 = some c_cmp_Less_int := by kernel_rfl
theorem k_slices_partitionEqualOrdered_int : compFn Tryz.prog Tryz.f166 = some c_slices_partitionEqualOrdered_int := by kernel_rfl
theorem k_slices_partitionOrdered_int : compFn Tryz.prog Tryz.f167 = some c_slices_partitionOrdered_int := by kernel_rfl
theorem k_bits_Len32 : compFn Tryz.prog Tryz.f168 = some c_bits_Len32 := by kernel_rfl
theorem k_bits_Len64 : compFn Tryz.prog Tryz.f169 = some c_bits_Len64 := by kernel_rfl
theorem k_slices_siftDownOrdered_int : compFn Tryz.prog Tryz.f170 = some c_slices_siftDownOrdered_int := by kernel_rfl
theorem k_slices_nextPowerOfTwo : compFn Tryz.prog Tryz.f171 = some c_slices_nextPowerOfTwo := by kernel_rfl
theorem k_slices_xorshift_Next : compFn Tryz.prog Tryz.f172 = some c_slices_xorshift_Next := by kernel_rfl
theorem k_slices_medianAdjacentOrdered_int : compFn Tryz.prog Tryz.f173 = some c_slices_medianAdjacentOrdered_int := by kernel_rfl
theorem k_slices_medianOrdered_int : compFn Tryz.prog Tryz.f174 = some c_slices_medianOrdered_int := by kernel_rfl
theorem k_slices_order2Ordered_int : compFn Tryz.prog Tryz.f175 = some c_slices_order2Ordered_int := by kernel_rfl
theorem tbl_ok : ∀ p ∈ tbl, ∃ fn, Tryz.prog.funcs[p.1]? = some fn ∧ (fn.name == "runtime.NumGoroutine") = false ∧ compFn Tryz.prog fn = some p.2 := by
  unfold tbl
  simp only [List.forall_mem_cons]
  exact ⟨⟨Tryz.f5, Tryz.func5, by kernel_rfl, k_phasorlaw18_RewriteExpands⟩, ⟨Tryz.f8, Tryz.func8, by kernel_rfl, k_phasorref08_Copy⟩, ⟨Tryz.f9, Tryz.func9, by kernel_rfl, k_rewrite_Cancel⟩, ⟨Tryz.f11, Tryz.func11, by kernel_rfl, k_rewrite_Merge⟩, ⟨Tryz.f12, Tryz.func12, by kernel_rfl, k_rewrite_Simplify⟩, ⟨Tryz.f13, Tryz.func13, by kernel_rfl, k_phasorlaw18_num⟩, ⟨Tryz.f14, Tryz.func14, by kernel_rfl, k_phasorref08_Same⟩, ⟨Tryz.f15, Tryz.func15, by kernel_rfl, k_phasorlaw18_own⟩, ⟨Tryz.f16, Tryz.func16, by kernel_rfl, k_phasorlaw18_alive⟩, ⟨Tryz.f17, Tryz.func17, by kernel_rfl, k_rewrite_Order⟩, ⟨Tryz.f19, Tryz.func19, by kernel_rfl, k_rewrite_Reorders⟩, ⟨Tryz.f21, Tryz.func21, by kernel_rfl, k_rewrite_Expand⟩, ⟨Tryz.f22, Tryz.func22, by kernel_rfl, k_phasorref18_Expand⟩, ⟨Tryz.f32, Tryz.func32, by kernel_rfl, k_rewrite_used⟩, ⟨Tryz.f33, Tryz.func33, by kernel_rfl, k_rewrite_nothing⟩, ⟨Tryz.f34, Tryz.func34, by kernel_rfl, k_rewrite_inverse⟩, ⟨Tryz.f35, Tryz.func35, by kernel_rfl, k_phasorref08_May⟩, ⟨Tryz.f37, Tryz.func37, by kernel_rfl, k_rewrite_compose⟩, ⟨Tryz.f38, Tryz.func38, by kernel_rfl, k_phasorref08_SameOp⟩, ⟨Tryz.f39, Tryz.func39, by kernel_rfl, k_phasorlaw18_two⟩, ⟨Tryz.f40, Tryz.func40, by kernel_rfl, k_phasorlaw18_op⟩, ⟨Tryz.f41, Tryz.func41, by kernel_rfl, k_rewrite_Touch⟩, ⟨Tryz.f42, Tryz.func42, by kernel_rfl, k_circuit_Check⟩, ⟨Tryz.f43, Tryz.func43, by kernel_rfl, k_circuit_Copy⟩, ⟨Tryz.f44, Tryz.func44, by kernel_rfl, k_rewrite_compare⟩, ⟨Tryz.f48, Tryz.func48, by kernel_rfl, k_circuit_Same⟩, ⟨Tryz.f49, Tryz.func49, by kernel_rfl, k_rewrite_written⟩, ⟨Tryz.f50, Tryz.func50, by kernel_rfl, k_phasorref18_written⟩, ⟨Tryz.f51, Tryz.func51, by kernel_rfl, k_rewrite_plain⟩, ⟨Tryz.f60, Tryz.func60, by kernel_rfl, k_phasorref18_one⟩, ⟨Tryz.f65, Tryz.func65, by kernel_rfl, k_gate_Matrix⟩, ⟨Tryz.f66, Tryz.func66, by kernel_rfl, k_rewrite_partner⟩, ⟨Tryz.f69, Tryz.func69, by kernel_rfl, k_slices_Clone_int_int⟩, ⟨Tryz.f75, Tryz.func75, by kernel_rfl, k_rewrite_without⟩, ⟨Tryz.f76, Tryz.func76, by kernel_rfl, k_rewrite_undoes⟩, ⟨Tryz.f77, Tryz.func77, by kernel_rfl, k_phasorref08_Check⟩, ⟨Tryz.f82, Tryz.func82, by kernel_rfl, k_slices_Equal_int_int⟩, ⟨Tryz.f83, Tryz.func83, by kernel_rfl, k_gate_Compose⟩, ⟨Tryz.f84, Tryz.func84, by kernel_rfl, k_phasorref08_ints⟩, ⟨Tryz.f85, Tryz.func85, by kernel_rfl, k_rewrite_asks⟩, ⟨Tryz.f86, Tryz.func86, by kernel_rfl, k_slices_ContainsFunc_int_int⟩, ⟨Tryz.f87, Tryz.func87, by kernel_rfl, k_rewrite_Touch_1⟩, ⟨Tryz.f88, Tryz.func88, by kernel_rfl, k_slices_Contains_int_int⟩, ⟨Tryz.f89, Tryz.func89, by kernel_rfl, k_rewrite_Touch_2⟩, ⟨Tryz.f90, Tryz.func90, by kernel_rfl, k_circuit_may⟩, ⟨Tryz.f91, Tryz.func91, by kernel_rfl, k_cmp_Or_int⟩, ⟨Tryz.f92, Tryz.func92, by kernel_rfl, k_cmp_Compare_api_OpKind⟩, ⟨Tryz.f93, Tryz.func93, by kernel_rfl, k_cmp_Compare_api_GateKind⟩, ⟨Tryz.f94, Tryz.func94, by kernel_rfl, k_slices_Compare_int_int⟩, ⟨Tryz.f95, Tryz.func95, by kernel_rfl, k_cmp_Compare_int⟩, ⟨Tryz.f97, Tryz.func97, by kernel_rfl, k_slices_EqualFunc_api_Op_api_Op_api_Op_api_Op⟩, ⟨Tryz.f98, Tryz.func98, by kernel_rfl, k_circuit_Same_1⟩, ⟨Tryz.f99, Tryz.func99, by kernel_rfl, k_rewrite_written_1⟩, ⟨Tryz.f100, Tryz.func100, by kernel_rfl, k_rewrite_written_2⟩, ⟨Tryz.f101, Tryz.func101, by kernel_rfl, k_slices_Concat_api_Op_api_Op⟩, ⟨Tryz.f104, Tryz.func104, by kernel_rfl, k_gate_Arity⟩, ⟨Tryz.f105, Tryz.func105, by kernel_rfl, k_gate_Halving⟩, ⟨Tryz.f106, Tryz.func106, by kernel_rfl, k_gate_halving⟩, ⟨Tryz.f107, Tryz.func107, by kernel_rfl, k_gate_Moves⟩, ⟨Tryz.f108, Tryz.func108, by kernel_rfl, k_gate_power⟩, ⟨Tryz.f109, Tryz.func109, by kernel_rfl, k_gate_clean⟩, ⟨Tryz.f110, Tryz.func110, by kernel_rfl, k_slices_Equal_complex128_complex128⟩, ⟨Tryz.f111, Tryz.func111, by kernel_rfl, k_gate_times⟩, ⟨Tryz.f115, Tryz.func115, by kernel_rfl, k_phasorref06_Is⟩, ⟨Tryz.f116, Tryz.func116, by kernel_rfl, k_phasorref06_Arity⟩, ⟨Tryz.f125, Tryz.func125, by kernel_rfl, k_slices_Delete_api_Op_api_Op⟩, ⟨Tryz.f126, Tryz.func126, by kernel_rfl, k_slices_Clone_api_Op_api_Op⟩, ⟨Tryz.f127, Tryz.func127, by kernel_rfl, k_gate_Inverse⟩, ⟨Tryz.f128, Tryz.func128, by kernel_rfl, k_rewrite_normal⟩, ⟨Tryz.f129, Tryz.func129, by kernel_rfl, k_phasorref08_Op⟩, ⟨Tryz.f131, Tryz.func131, by kernel_rfl, k_gate_Kinds⟩, ⟨Tryz.f132, Tryz.func132, by kernel_rfl, k_slices_IndexFunc_int_int⟩, ⟨Tryz.f133, Tryz.func133, by kernel_rfl, k_slices_Index_int_int⟩, ⟨Tryz.f134, Tryz.func134, by kernel_rfl, k_gate_Check⟩, ⟨Tryz.f135, Tryz.func135, by kernel_rfl, k_cmp_isNaN_api_OpKind⟩, ⟨Tryz.f136, Tryz.func136, by kernel_rfl, k_cmp_isNaN_api_GateKind⟩, ⟨Tryz.f137, Tryz.func137, by kernel_rfl, k_cmp_isNaN_int⟩, ⟨Tryz.f138, Tryz.func138, by kernel_rfl, k_slices_Grow_api_Op_api_Op⟩, ⟨Tryz.f145, Tryz.func145, by kernel_rfl, k_gate_of⟩, ⟨Tryz.f146, Tryz.func146, by kernel_rfl, k_gate_Monomial⟩, ⟨Tryz.f147, Tryz.func147, by kernel_rfl, k_gate_Moves_1⟩, ⟨Tryz.f148, Tryz.func148, by kernel_rfl, k_gate_Controls⟩, ⟨Tryz.f149, Tryz.func149, by kernel_rfl, k_gate_Moves_2⟩, ⟨Tryz.f152, Tryz.func152, by kernel_rfl, k_slices_Sort_int_int⟩, ⟨Tryz.f153, Tryz.func153, by kernel_rfl, k_phasorref06_Check⟩, ⟨Tryz.f154, Tryz.func154, by kernel_rfl, k_phasorref08_unlike⟩, ⟨Tryz.f156, Tryz.func156, by kernel_rfl, k_gate_table⟩, ⟨Tryz.f157, Tryz.func157, by kernel_rfl, k_slices_pdqsortOrdered_int⟩, ⟨Tryz.f158, Tryz.func158, by kernel_rfl, k_bits_Len⟩, ⟨Tryz.f159, Tryz.func159, by kernel_rfl, k_slices_insertionSortOrdered_int⟩, ⟨Tryz.f160, Tryz.func160, by kernel_rfl, k_slices_heapSortOrdered_int⟩, ⟨Tryz.f161, Tryz.func161, by kernel_rfl, k_slices_breakPatternsOrdered_int⟩, ⟨Tryz.f162, Tryz.func162, by kernel_rfl, k_slices_choosePivotOrdered_int⟩, ⟨Tryz.f163, Tryz.func163, by kernel_rfl, k_slices_reverseRangeOrdered_int⟩, ⟨Tryz.f164, Tryz.func164, by kernel_rfl, k_slices_partialInsertionSortOrdered_int⟩, ⟨Tryz.f165, Tryz.func165, by kernel_rfl, k_cmp_Less_int⟩, ⟨Tryz.f166, Tryz.func166, by kernel_rfl, k_slices_partitionEqualOrdered_int⟩, ⟨Tryz.f167, Tryz.func167, by kernel_rfl, k_slices_partitionOrdered_int⟩, ⟨Tryz.f168, Tryz.func168, by kernel_rfl, k_bits_Len32⟩, ⟨Tryz.f169, Tryz.func169, by kernel_rfl, k_bits_Len64⟩, ⟨Tryz.f170, Tryz.func170, by kernel_rfl, k_slices_siftDownOrdered_int⟩, ⟨Tryz.f171, Tryz.func171, by kernel_rfl, k_slices_nextPowerOfTwo⟩, ⟨Tryz.f172, Tryz.func172, by kernel_rfl, k_slices_xorshift_Next⟩, ⟨Tryz.f173, Tryz.func173, by kernel_rfl, k_slices_medianAdjacentOrdered_int⟩, ⟨Tryz.f174, Tryz.func174, by kernel_rfl, k_slices_medianOrdered_int⟩, ⟨Tryz.f175, Tryz.func175, by kernel_rfl, k_slices_order2Ordered_int⟩,
    fun _ h => absurd h List.not_mem_nil⟩
end Go.Proofs.YtmflheoafeenfaaGreat
namespace Go.Am

/-- Where boxes lie: block, first cell. -/
abbrev Inj := Nat → Option (Nat × Nat)

inductive Rep (ι : Inj) (S : Nat → Prop) (w : World) : AVal → Value → Prop
  | sc {v a : Value} (h : scal v = some a) : Rep ι S w (.sc a) v
  | ptr {id off b o : Nat} (h : ι id = some (b, o)) : Rep ι S w (.ptr id off) (.pointer (some ⟨b, o + off, none⟩))
  | ro {cells : List AVal} {a : Addr} (vs : Nat → Value) (hs : 0 < cells.length → a.spot = none ∧ S a.block)
      (hc : ∀ j, j < cells.length → w.cell? ⟨a.block, a.off + j, none⟩ = some (vs j))
      (hr : ∀ (j : Nat) c, cells[j]? = some c → Rep ι S w c (vs j)) (ho : ∀ c ∈ cells, c.one = true) : Rep ι S w (.ro cells) (.pointer (some a))
  | sl {id off len esz : Nat} {cap : Option Nat} {b o c : Nat} {a : Addr} (h : ι id = some (b, o)) (hl : len ≤ c) (hk : ∀ k, cap = some k → c = k)
      (ha : c ≠ 0 → a = ⟨b, o + off, none⟩)
      (hroom : c ≠ 0 ∨ cap = none → ∃ cs el, w.heap[b]? = some (.cells cs el (0, 0)) ∧ o + off + c * esz ≤ cs.size ∧ (cap = none → o + off + c * esz = cs.size)) : Rep ι S w (.sl id off len esz cap) (.slice (some a) len c)
  | rs {cells : List AVal} {len : Nat} {cap : Option Nat} {a : Addr} {c : Nat} (vs : Nat → Value) (hl : len ≤ c) (hk : ∀ k, cap = some k → c = k)
      (hs : 0 < cells.length → a.spot = none ∧ S a.block)
      (hc : ∀ j, j < cells.length → w.cell? ⟨a.block, a.off + j, none⟩ = some (vs j))
      (hr : ∀ (j : Nat) c, cells[j]? = some c → Rep ι S w c (vs j)) (ho : ∀ c ∈ cells, c.one = true) : Rep ι S w (.rs cells len cap) (.slice (some a) len c)
  | mp {id b o : Nat} (h : ι id = some (b, o)) : Rep ι S w (.mp id) (.map (some b))
  | fn {f : Fn} {first cap : List AVal} {vf vc : Array Value} (h1 : first.length = vf.size) (h2 : cap.length = vc.size)
      (hf : ∀ (j : Nat) c v, first[j]? = some c → vf[j]? = some v → Rep ι S w c v) (hc : ∀ (j : Nat) c v, cap[j]? = some c → vc[j]? = some v → Rep ι S w c v) : Rep ι S w (.fn f first cap) (.func f vf vc)
  | agg {cells : List AVal} {vs : Array Value} (hl : cells.length = vs.size) (hr : ∀ (j : Nat) c v, cells[j]? = some c → vs[j]? = some v → Rep ι S w c v) : Rep ι S w (.agg cells) (.agg vs)
  | tup {cells : List AVal} {vs : Array Value} (hl : cells.length = vs.size) (hr : ∀ (j : Nat) c v, cells[j]? = some c → vs[j]? = some v → Rep ι S w c v) : Rep ι S w (.tup cells) (.tuple vs)

def RepL (ι : Inj) (S : Nat → Prop) (w : World) (cs : List AVal) (vs : List Value) : Prop :=
  cs.length = vs.length ∧ ∀ (j : Nat) c v, cs[j]? = some c → vs[j]? = some v → Rep ι S w c v

/-! ### What a world keeps -/
def InjLe (ι ι' : Inj) : Prop := ∀ id p, ι id = some p → ι' id = some p
theorem InjLe.refl (ι : Inj) : InjLe ι ι := fun _ _ h => h
theorem InjLe.trans {a b c : Inj} (h : InjLe a b) (k : InjLe b c) : InjLe a c := fun id p hp => k id p (h id p hp)

structure WStep (owned : Nat → Prop) (w w' : World) : Prop where
  os : w'.os = w.os
  tape : w'.tape = w.tape
  output : w'.output = w.output
  size : w.heap.size ≤ w'.heap.size
  keep : ∀ (b : Nat), b < w.heap.size → ¬ owned b → w'.heap[b]? = w.heap[b]?
  shape : ∀ (b : Nat) cs el fr, w.heap[b]? = some (.cells cs el fr) → ∃ cs', w'.heap[b]? = some (.cells cs' el fr) ∧ cs'.size = cs.size

theorem lt_of_heap {w : World} {b : Nat} {o : Obj} (h : w.heap[b]? = some o) : b < w.heap.size := (Array.getElem?_eq_some_iff.1 h).1

theorem WStep.refl (owned : Nat → Prop) (w : World) : WStep owned w w := ⟨rfl, rfl, rfl, Nat.le_refl _, fun _ _ _ => rfl, fun _ cs _ _ h => ⟨cs, h, rfl⟩⟩
theorem WStep.mono {owned owned' : Nat → Prop} {w w' : World} (h : WStep owned w w') (ho : ∀ b, b < w.heap.size → owned b → owned' b) : WStep owned' w w' :=
  ⟨h.os, h.tape, h.output, h.size, fun b hb hn => h.keep b hb (fun k => hn (ho b hb k)), h.shape⟩
theorem WStep.trans {o1 o2 : Nat → Prop} {a b c : World} (h : WStep o1 a b) (k : WStep o2 b c) : WStep (fun x => o1 x ∨ (o2 x ∧ x < a.heap.size)) a c where
  os := k.os.trans h.os
  tape := k.tape.trans h.tape
  output := k.output.trans h.output
  size := Nat.le_trans h.size k.size
  keep := fun x hx hn => (k.keep x (Nat.lt_of_lt_of_le hx h.size) (fun e => hn (.inr ⟨e, hx⟩))).trans (h.keep x hx (fun e => hn (.inl e)))
  shape := fun x cs el fr hx => by
    obtain ⟨cs1, h1, e1⟩ := h.shape x cs el fr hx
    obtain ⟨cs2, h2, e2⟩ := k.shape x cs1 el fr h1
    exact ⟨cs2, h2, e2.trans e1⟩
/-- Orders, capacities and the like have been drawn. -/
theorem WStep.drawn_ (owned : Nat → Prop) (w : World) (n : Nat) : WStep owned w { w with drawn := n } := ⟨rfl, rfl, rfl, Nat.le_refl _, fun _ _ _ => rfl, fun _ cs _ _ h => ⟨cs, h, rfl⟩⟩
theorem cell?_of_heap {w w' : World} {a : Addr} (h : w'.heap[a.block]? = w.heap[a.block]?) : w'.cell? a = w.cell? a := by unfold World.cell?; rw [h]

theorem Rep.mono {ι ι' : Inj} {S S' : Nat → Prop} {w w' : World} {a : AVal} {v : Value} (h : Rep ι S w a v) (hι : InjLe ι ι') (hS : ∀ b, S b → S' b)
    (hk : ∀ (b : Nat), S b → w'.heap[b]? = w.heap[b]?)
    (hsh : ∀ (b : Nat) cs el fr, w.heap[b]? = some (.cells cs el fr) → ∃ cs', w'.heap[b]? = some (.cells cs' el fr) ∧ cs'.size = cs.size) : Rep ι' S' w' a v := by
  induction h with
  | sc h => exact .sc h
  | ptr h => exact .ptr (hι _ _ h)
  | ro vs hs hc hr ho ih => exact .ro vs (fun h => ⟨(hs h).1, hS _ (hs h).2⟩) (fun j hj => (cell?_of_heap (a := ⟨_, _, none⟩) (hk _ (hs (by omega)).2)).trans (hc j hj)) ih ho
  | sl h hl hk' ha hroom =>
    refine .sl (hι _ _ h) hl hk' ha (fun hc => ?_)
    obtain ⟨cs, el, hh, hr, hr2⟩ := hroom hc
    obtain ⟨cs', hh', e⟩ := hsh _ _ _ _ hh
    exact ⟨cs', el, hh', by omega, fun h => by have := hr2 h; omega⟩
  | rs vs hl hk' hs hc hr ho ih => exact .rs vs hl hk' (fun h => ⟨(hs h).1, hS _ (hs h).2⟩) (fun j hj => (cell?_of_heap (a := ⟨_, _, none⟩) (hk _ (hs (by omega)).2)).trans (hc j hj)) ih ho
  | mp h => exact .mp (hι _ _ h)
  | fn h1 h2 hf hc ih1 ih2 => exact .fn h1 h2 ih1 ih2
  | agg hl hr ih => exact .agg hl ih
  | tup hl hr ih => exact .tup hl ih

/-! ### The memory -/
def BoxAt (ι : Inj) (S : Nat → Prop) (w : World) (b o : Nat) : Box → Prop
  | .cells cs => ∃ (vs : Array Value) (el : TypeId), w.heap[b]? = some (.cells vs el (0, 0)) ∧ o + cs.length ≤ vs.size ∧ (∀ (j : Nat) c v, cs[j]? = some c → vs[o + j]? = some v → Rep ι S w c v) ∧ ∀ c ∈ cs, c.one = true
  | .map es clock => ∃ arr : Array MapEntry, w.heap[b]? = some (.map arr clock) ∧ arr.size = es.length ∧
      ∀ (j : Nat) k a n e, es[j]? = some (k, a, n) → arr[j]? = some e → e.born = n ∧ scal e.key = some k ∧ Rep ι S w a e.val

structure MRel (ι : Inj) (S : Nat → Prop) (H : Nat → Option Box) (w : World) : Prop where
  box : ∀ id bx, H id = some bx → ∃ b o, ι id = some (b, o) ∧ ¬ S b ∧ BoxAt ι S w b o bx
  apart : ∀ i j bi bj b o b' o', H i = some bi → H j = some bj → i ≠ j → ι i = some (b, o) → ι j = some (b', o') → b ≠ b'
  prot : ∀ b, S b → b < w.heap.size

/-- The blocks of the boxes. -/
def Own (ι : Inj) (H : Nat → Option Box) (b : Nat) : Prop := ∃ id bx o, H id = some bx ∧ ι id = some (b, o)

theorem MRel.notS {ι : Inj} {S : Nat → Prop} {H : Nat → Option Box} {w : World} (h : MRel ι S H w) {b : Nat} (hb : S b) : ¬ Own ι H b := by
  rintro ⟨id, bx, o, h1, h2⟩
  obtain ⟨b', o', h3, h4, _⟩ := h.box id bx h1
  rw [h2] at h3
  cases h3
  exact h4 hb

theorem BoxAt.lt {ι : Inj} {S : Nat → Prop} {w : World} {b o : Nat} {bx : Box} (h : BoxAt ι S w b o bx) : b < w.heap.size := by
  cases bx with
  | cells cs => obtain ⟨vs, el, h, _⟩ := h; exact lt_of_heap h
  | map es c => obtain ⟨arr, h, _⟩ := h; exact lt_of_heap h

theorem BoxAt.mono {ι ι' : Inj} {S S' : Nat → Prop} {w w' : World} {b o : Nat} {bx : Box} (h : BoxAt ι S w b o bx) (hι : InjLe ι ι') (hS : ∀ b, S b → S' b)
    (hk : ∀ (b : Nat), S b → w'.heap[b]? = w.heap[b]?)
    (hsh : ∀ (b : Nat) cs el fr, w.heap[b]? = some (.cells cs el fr) → ∃ cs', w'.heap[b]? = some (.cells cs' el fr) ∧ cs'.size = cs.size)
    (hb : w'.heap[b]? = w.heap[b]?) : BoxAt ι' S' w' b o bx := by
  cases bx with
  | cells cs =>
    obtain ⟨vs, el, h1, h2, h3, h4⟩ := h
    exact ⟨vs, el, by rw [hb]; exact h1, h2, fun j c v hc hv => (h3 j c v hc hv).mono hι hS hk hsh, h4⟩
  | map es c =>
    obtain ⟨arr, h1, h2, h3⟩ := h
    refine ⟨arr, by rw [hb]; exact h1, h2, fun j k a n e he hv => ?_⟩
    obtain ⟨h4, h5, h6⟩ := h3 j k a n e he hv
    exact ⟨h4, h5, h6.mono hι hS hk hsh⟩

/-- Fewer boxes. -/
theorem MRel.less {ι : Inj} {S : Nat → Prop} {H H' : Nat → Option Box} {w : World} (h : MRel ι S H w) (hs : ∀ id bx, H' id = some bx → H id = some bx) : MRel ι S H' w :=
  ⟨fun id bx hx => h.box id bx (hs id bx hx), fun i j bi bj b o b' o' h1 h2 => h.apart i j bi bj b o b' o' (hs _ _ h1) (hs _ _ h2), h.prot⟩

/-- No box's block has turned. -/
theorem MRel.still {ι ι' : Inj} {S : Nat → Prop} {H : Nat → Option Box} {w w' : World} (h : MRel ι S H w) (hι : InjLe ι ι') {owned : Nat → Prop} (hw : WStep owned w w') (ho : ∀ b, b < w.heap.size → owned b → False) : MRel ι' S H w' where
  box := fun id bx hx => by
    obtain ⟨b, o, h1, h2, h3⟩ := h.box id bx hx
    exact ⟨b, o, hι _ _ h1, h2, h3.mono hι (fun _ h => h) (fun b hb => hw.keep b (h.prot b hb) (ho b (h.prot b hb))) hw.shape (hw.keep b h3.lt (ho b h3.lt))⟩
  apart := fun i j bi bj b o b' o' h1 h2 hne h3 h4 => by
    obtain ⟨b1, o1, e1, _⟩ := h.box i bi h1
    obtain ⟨b2, o2, e2, _⟩ := h.box j bj h2
    have := hι _ _ e1
    rw [h3] at this; cases this
    have := hι _ _ e2
    rw [h4] at this; cases this
    exact h.apart i j bi bj _ _ _ _ h1 h2 hne e1 e2
  prot := fun b hb => Nat.lt_of_lt_of_le (h.prot b hb) hw.size

/-! ### Slots -/
def SRel (ι : Inj) (S : Nat → Prop) (w : World) (s : Nat → Option AVal) (tmps : Array Value) : Prop :=
  ∀ i a, s i = some a → ∃ v, tmps[i]? = some v ∧ Rep ι S w a v

theorem SRel.mono {ι ι' : Inj} {S S' : Nat → Prop} {w w' : World} {s : Nat → Option AVal} {tmps : Array Value} (h : SRel ι S w s tmps) (hι : InjLe ι ι') (hS : ∀ b, S b → S' b)
    (hk : ∀ (b : Nat), S b → w'.heap[b]? = w.heap[b]?)
    (hsh : ∀ (b : Nat) cs el fr, w.heap[b]? = some (.cells cs el fr) → ∃ cs', w'.heap[b]? = some (.cells cs' el fr) ∧ cs'.size = cs.size) : SRel ι' S' w' s tmps := by
  intro i a hi
  obtain ⟨v, h1, h2⟩ := h i a hi
  exact ⟨v, h1, h2.mono hι hS hk hsh⟩

/-! ### Cells -/
theorem Rep.one {ι : Inj} {S : Nat → Prop} {w : World} {a : AVal} {v : Value} (h : Rep ι S w a v) (ho : a.one = true) : v.cells = #[v] ∧ a.cells = [a] := by
  cases h with
  | sc h => refine ⟨?_, rfl⟩; cases v <;> simp_all [scal, Value.cells]
  | agg hl hr => simp [AVal.one] at ho
  | tup hl hr => simp [AVal.one] at ho
  | _ => exact ⟨rfl, rfl⟩
theorem Rep.cells {ι : Inj} {S : Nat → Prop} {w : World} {a : AVal} {v : Value} (h : Rep ι S w a v) : RepL ι S w a.cells v.cells.toList := by
  by_cases ho : a.one = true
  · obtain ⟨h1, h2⟩ := h.one ho
    rw [h1, h2]
    refine ⟨rfl, fun j c v' hc hv => ?_⟩
    cases j with
    | zero => simp at hc hv; subst hc hv; exact h
    | succ j => simp at hc
  · cases h <;> simp [AVal.one] at ho
    · rename_i cells vs hl hr
      refine ⟨by simpa [AVal.cells, Value.cells] using hl, fun j c v hc hv => hr j c v hc (by simpa [Value.cells] using hv)⟩
    · rename_i cells vs hl hr
      refine ⟨by simp [AVal.cells, Value.cells], fun j c v hc hv => ?_⟩
      cases j with
      | zero =>
        simp [AVal.cells, Value.cells] at hc hv
        subst hc hv
        exact .tup hl hr
      | succ j => simp [AVal.cells] at hc
theorem Rep.oneCell {ι : Inj} {S : Nat → Prop} {w : World} {a : AVal} {v : Value} (h : Rep ι S w a v) (ho : a.one = true) : ∀ x, v ≠ .agg x ∧ v ≠ .tuple x := by
  intro x
  cases h with
  | sc h => cases v <;> simp [scal] at h ⊢
  | agg hl hr => simp [AVal.one] at ho
  | tup hl hr => simp [AVal.one] at ho
  | _ => exact ⟨by simp, by simp⟩
end Go.Am
