/- Parts of the proof, joined by program: AmFlt. -/
import GoSem.Step
import Derived.Laws.ComplexArith
set_option linter.unusedSimpArgs false
set_option linter.unusedVariables false
namespace Go.Am
def canonNaN : FloatKind → Nat
  | .f32 => 0x7fc00000
  | .f64 => 0x7ff8000000000000
def canonBits (k : FloatKind) (b : Nat) : Nat := if (k.decode b).isNaN then canonNaN k else b
/-- '+', '-', '*', '/': a NaN is the one NaN. -/
def fOp (op : BinOp) (a b : Nat) : Nat := match floatBits op .f64 a b with
  | some r => canonBits .f64 r
  | none => canonNaN .f64
def fOrd (op : BinOp) (c : Option Ordering) : Bool := match op with
  | .eql => c == some .eq
  | .neq => c != some .eq
  | .lss => c == some .lt
  | .leq => c == some .lt || c == some .eq
  | .gtr => c == some .gt
  | _ => c == some .gt || c == some .eq
def fCmp (op : BinOp) (a b : Nat) : Bool := fOrd op (FloatKind.f64.format.order a b)

theorem nan_canon : (FloatKind.f64.decode (canonNaN .f64)).isNaN = true := by decide +kernel
theorem canon_of_nan {b : Nat} (h : (FloatKind.f64.decode b).isNaN = true) : canonBits .f64 b = canonNaN .f64 := by unfold canonBits; rw [if_pos h]
theorem canon_of_not {b : Nat} (h : (FloatKind.f64.decode b).isNaN = false) : canonBits .f64 b = b := by unfold canonBits; rw [if_neg (by simp [h])]
theorem sum_nan1 {d e : Ieee.Datum} (h : d.isNaN = true) : d.sum e = none := by cases d <;> simp_all [Ieee.Datum.isNaN, Ieee.Datum.sum]
theorem sum_nan2 {d e : Ieee.Datum} (h : e.isNaN = true) : d.sum e = none := by cases d <;> cases e <;> simp_all [Ieee.Datum.isNaN, Ieee.Datum.sum]
theorem mul_nan1 {d e : Ieee.Datum} (h : d.isNaN = true) : d.product e = none := by cases d <;> simp_all [Ieee.Datum.isNaN, Ieee.Datum.product]
theorem mul_nan2 {d e : Ieee.Datum} (h : e.isNaN = true) : d.product e = none := by cases d <;> cases e <;> simp_all [Ieee.Datum.isNaN, Ieee.Datum.product]
theorem quo_nan1 {n : Nat} {d e : Ieee.Datum} (h : d.isNaN = true) : d.quotient n e = none := by cases d <;> simp_all [Ieee.Datum.isNaN, Ieee.Datum.quotient]
theorem quo_nan2 {n : Nat} {d e : Ieee.Datum} (h : e.isNaN = true) : d.quotient n e = none := by cases d <;> cases e <;> simp_all [Ieee.Datum.isNaN, Ieee.Datum.quotient]
theorem ord_nan1 {d e : Ieee.Datum} (h : d.isNaN = true) : d.order e = none := by cases d <;> simp_all [Ieee.Datum.isNaN, Ieee.Datum.order]
theorem ord_nan2 {d e : Ieee.Datum} (h : e.isNaN = true) : d.order e = none := by cases d <;> cases e <;> simp_all [Ieee.Datum.isNaN, Ieee.Datum.order]
theorem opp_nan {d : Ieee.Datum} : d.opposite.isNaN = d.isNaN := by cases d <;> rfl
theorem bits_nan1 {op : BinOp} {a b : Nat} (h : (FloatKind.f64.decode a).isNaN = true) : floatBits op .f64 a b = none := by
  unfold FloatKind.decode at h
  cases op <;> simp [floatBits, Ieee.Format.add, Ieee.Format.sub, Ieee.Format.mul, Ieee.Format.div, sum_nan1 h, mul_nan1 h, quo_nan1 h]
theorem bits_nan2 {op : BinOp} {a b : Nat} (h : (FloatKind.f64.decode b).isNaN = true) : floatBits op .f64 a b = none := by
  unfold FloatKind.decode at h
  have h' : (FloatKind.f64.format.read b).opposite.isNaN = true := opp_nan.trans h
  cases op <;> simp [floatBits, Ieee.Format.add, Ieee.Format.sub, Ieee.Format.mul, Ieee.Format.div, sum_nan2 h, sum_nan2 h', mul_nan2 h, quo_nan2 h]
theorem fOp_canon (op : BinOp) (a b : Nat) : fOp op (canonBits .f64 a) (canonBits .f64 b) = fOp op a b := by
  cases ha : (FloatKind.f64.decode a).isNaN with
  | true => unfold fOp; rw [canon_of_nan ha, bits_nan1 nan_canon, bits_nan1 ha]
  | false =>
    cases hb : (FloatKind.f64.decode b).isNaN with
    | true => unfold fOp; rw [canon_of_nan hb, bits_nan2 nan_canon, bits_nan2 hb]
    | false => rw [canon_of_not ha, canon_of_not hb]
theorem fCmp_canon (op : BinOp) (a b : Nat) : fCmp op (canonBits .f64 a) (canonBits .f64 b) = fCmp op a b := by
  have n1 : ∀ {a b : Nat}, (FloatKind.f64.decode a).isNaN = true → FloatKind.f64.format.order a b = none := fun h => ord_nan1 h
  have n2 : ∀ {a b : Nat}, (FloatKind.f64.decode b).isNaN = true → FloatKind.f64.format.order a b = none := fun h => ord_nan2 h
  cases ha : (FloatKind.f64.decode a).isNaN with
  | true => unfold fCmp; rw [canon_of_nan ha, n1 nan_canon, n1 ha]
  | false =>
    cases hb : (FloatKind.f64.decode b).isNaN with
    | true => unfold fCmp; rw [canon_of_nan hb, n2 nan_canon, n2 hb]
    | false => rw [canon_of_not ha, canon_of_not hb]
theorem canon_word (neg : Bool) (rung : Nat) (h : rung ≤ FloatKind.f64.format.infRung) : canonBits .f64 (FloatKind.f64.format.word neg rung) = FloatKind.f64.format.word neg rung := by
  refine canon_of_not ?_
  have sw : FloatKind.f64.format.signWeight = 2 ^ 63 := rfl
  have bi : FloatKind.f64.format.binade = 2 ^ 52 := rfl
  have ir : FloatKind.f64.format.infRung = 0x7ff0000000000000 := by decide
  rw [ir] at h
  have hr : FloatKind.f64.format.word neg rung % 2 ^ 63 = rung := by
    unfold Ieee.Format.word
    rw [sw]
    split <;> omega
  show (FloatKind.f64.format.read _).isNaN = false
  unfold Ieee.Format.read
  simp only [sw, bi, ir, hr]
  split
  · rfl
  · split
    · rfl
    · rw [if_pos (by omega)]
      rfl
theorem canon_near (neg : Bool) (mag : Nat) (place : Int) : canonBits .f64 (FloatKind.f64.format.nearest neg mag place) = FloatKind.f64.format.nearest neg mag place := by
  unfold Ieee.Format.nearest
  dsimp only
  split
  · exact canon_word _ _ (Nat.zero_le _)
  · exact canon_word _ _ (Nat.min_le_right _ _)
theorem canon_nearest (n : Int) : canonBits .f64 (FloatKind.f64.nearest n) = FloatKind.f64.nearest n := canon_near _ _ _
theorem neg_canon (b : Nat) : canonBits .f64 (Op.negFloat .f64 (canonBits .f64 b)) = canonBits .f64 (Op.negFloat .f64 b) := by
  have key : ∀ b : Nat, (FloatKind.f64.decode (Op.negFloat .f64 b)).isNaN = (FloatKind.f64.decode b).isNaN := by
    intro b
    have sw : FloatKind.f64.format.signWeight = 2 ^ 63 := rfl
    have hm : Op.negFloat .f64 b % 2 ^ 63 = b % 2 ^ 63 := by
      unfold Op.negFloat
      show (b ^^^ 2 ^ 63) % 2 ^ 63 = b % 2 ^ 63
      rw [Nat.xor_mod_two_pow]
      simp
    have : ∀ c, (FloatKind.f64.format.read c).isNaN = (if c % 2 ^ 63 < FloatKind.f64.format.binade then false else if c % 2 ^ 63 < FloatKind.f64.format.infRung then false else if c % 2 ^ 63 = FloatKind.f64.format.infRung then false else true) := by
      intro c
      unfold Ieee.Format.read
      simp only [sw]
      split
      · rfl
      · split
        · rfl
        · split <;> rfl
    show (FloatKind.f64.format.read _).isNaN = (FloatKind.f64.format.read _).isNaN
    rw [this, this, hm]
  cases h : (FloatKind.f64.decode b).isNaN with
  | true => rw [canon_of_nan h, canon_of_nan ((key _).trans nan_canon), canon_of_nan ((key _).trans h)]
  | false => rw [canon_of_not h]
/-! What the model comes to: the number of draws alone may have turned. -/
section
variable {P : Program} {w : World}
def isArith : BinOp → Bool
  | .add | .sub | .mul | .quo => true
  | _ => false
theorem nan_drawn (x y t : Nat) : (FloatKind.f64.decode (Question.cut (.nanBits .f64 x y) t)).isNaN = true := by
  show (FloatKind.f64.format.read ((t % 2) * 2 ^ 63 + 0x7ff0000000000000 + 1 + (t / 2) % (2 ^ 52 - 1))).isNaN = true
  have h1 : (t / 2) % (2 ^ 52 - 1) < 2 ^ 52 - 1 := Nat.mod_lt _ (by decide)
  have h2 : t % 2 < 2 := Nat.mod_lt _ (by decide)
  generalize (t / 2) % (2 ^ 52 - 1) = q at h1
  generalize t % 2 = r at h2
  have e1 : (r * 2 ^ 63 + 0x7ff0000000000000 + 1 + q) % 2 ^ 63 = 0x7ff0000000000000 + 1 + q := by omega
  have sw : FloatKind.f64.format.signWeight = 2 ^ 63 := rfl
  have bi : FloatKind.f64.format.binade = 2 ^ 52 := rfl
  have ir : FloatKind.f64.format.infRung = 0x7ff0000000000000 := by decide
  unfold Ieee.Format.read
  simp only [sw, bi, ir, e1]
  rw [if_neg (by omega), if_neg (by omega), if_neg (by omega)]
  rfl
theorem run_arith {op : BinOp} (hop : isArith op = true) (a b : Nat) : ∃ r n, (Op.floatArith op .f64 a b).run P w = .ok (.float .f64 r) { w with drawn := n } ∧ canonBits .f64 r = fOp op a b := by
  cases h : floatBits op .f64 a b with
  | some r =>
    refine ⟨r, w.drawn, run_floatArith w h, ?_⟩
    unfold fOp
    rw [h]
  | none =>
    refine ⟨Question.cut (.nanBits .f64 a b) (w.tape w.drawn (.nanBits .f64 a b)), w.drawn + 1, ?_, ?_⟩
    · unfold floatBits at h
      cases op <;> simp only [isArith, Bool.false_eq_true] at hop <;> simp only at h <;> simp [Op.floatArith, h, choose, Question.forced, Sem.run]
    · unfold fOp
      rw [h]
      exact canon_of_nan (nan_drawn _ _ _)
theorem run_arithC {op : BinOp} (hop : isArith op = true) (a b : Nat) : ∃ r n, (Op.Complex.arith op .f64 a b).run P w = .ok r { w with drawn := n } ∧ canonBits .f64 r = fOp op a b := by
  obtain ⟨r, n, h1, h2⟩ := run_arith (P := P) (w := w) hop a b
  exact ⟨r, n, by simp [Op.Complex.arith, h1], h2⟩
end
end Go.Am
