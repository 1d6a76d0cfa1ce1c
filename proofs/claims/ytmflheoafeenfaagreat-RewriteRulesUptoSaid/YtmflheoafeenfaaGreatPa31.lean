/- Parts of the proof, joined by program: RwW3. -/
import Derived.Test.YtmflheoafeenfaaGreatPa28
import Derived.Test.YtmflheoafeenfaaGreatPa30
set_option linter.unusedSimpArgs false
set_option linter.unusedVariables false
namespace Go.Proofs.YtmflheoafeenfaaGreat
open Go.Am
set_option maxRecDepth 100000
def eqZZ : List (List Cx) → List (List Cx) → Bool
  | [], [] => true
  | x :: a, y :: b => eqCL x y && eqZZ a b
  | _, _ => false
theorem eqZZ_len {a b : List (List Cx)} (h : eqZZ a b = true) : a.length = b.length := by
  induction a generalizing b with
  | nil => cases b with
    | nil => rfl
    | cons y b => cases h
  | cons x a ih => cases b with
    | nil => cases h
    | cons y b =>
      simp only [eqZZ, Bool.and_eq_true] at h
      simp [ih h.2]
theorem eqZZ_drop {a b : List (List Cx)} {k : Nat} (ha : k < a.length) (hb : k < b.length) : eqZZ (a.drop k) (b.drop k) = (eqCL (a.getD k []) (b.getD k []) && eqZZ (a.drop (k + 1)) (b.drop (k + 1))) := by
  rw [List.drop_eq_getElem_cons ha, List.drop_eq_getElem_cons hb, eqZZ]
  simp [ha, hb]
def firstZ (P : List (List Cx)) : Nat → Nat → Int
  | 0, _ => 0
  | d + 1, k => if eqZZ (matZ ((k : Int) + 1)) P = true then (k : Int) + 1 else firstZ P d (k + 1)
def compZt (a b : Nat) : Bool := firstZ (timesZ (dimK a) (matZ b) (matZ a)) 20 0 == compG a b
theorem compZ1a : (List.range 4).all (fun i => (List.range 10).all fun j => compZt (i + 1) (j + 1)) = true := by kernel_rfl
theorem compZ1b : (List.range 3).all (fun i => (List.range 10).all fun j => compZt (i + 5) (j + 1)) = true := by kernel_rfl
theorem compZ1c : (List.range 3).all (fun i => (List.range 10).all fun j => compZt (i + 8) (j + 1)) = true := by kernel_rfl
theorem compZ2 : (List.range 7).all (fun i => (List.range 7).all fun j => compZt (i + 11) (j + 11)) = true := by kernel_rfl
theorem compZ3 : (List.range 3).all (fun i => (List.range 3).all fun j => compZt (i + 18) (j + 18)) = true := by kernel_rfl
theorem compZ_at {n m o p : Nat} (h : (List.range n).all (fun i => (List.range m).all fun j => compZt (i + o) (j + p)) = true) {a b : Nat} (ha : o ≤ a ∧ a < o + n) (hb : p ≤ b ∧ b < p + m) : firstZ (timesZ (dimK a) (matZ b) (matZ a)) 20 0 = compG a b := by
  have := List.all_eq_true.1 (List.all_eq_true.1 h (a - o) (List.mem_range.2 (by omega))) (b - p) (List.mem_range.2 (by omega))
  rw [show a - o + o = a by omega, show b - p + p = b by omega] at this
  exact beq_iff_eq.1 this
theorem compZ_eq {a b : Int} (h : arity a = arity b) (h0 : arity a ≠ 0) : firstZ (timesZ (dimK a) (matZ b) (matZ a)) 20 0 = compG a b := by
  have hb := arity_rng (k := b) (by rw [← h]; exact h0)
  have ha := arity_rng h0
  obtain ⟨x, rfl⟩ : ∃ x : Nat, a = x := ⟨a.toNat, by omega⟩
  obtain ⟨y, rfl⟩ : ∃ y : Nat, b = y := ⟨b.toNat, by omega⟩
  by_cases h1 : (x : Int) ≤ 10
  · by_cases h3 : x ≤ 4
    · exact compZ_at compZ1a (by omega) (by omega)
    · by_cases h4 : x ≤ 7
      · exact compZ_at compZ1b (by omega) (by omega)
      · exact compZ_at compZ1c (by omega) (by omega)
  · by_cases h2 : (x : Int) ≤ 17
    · exact compZ_at compZ2 (by omega) (by omega)
    · exact compZ_at compZ3 (by omega) (by omega)
end Go.Proofs.YtmflheoafeenfaaGreat
