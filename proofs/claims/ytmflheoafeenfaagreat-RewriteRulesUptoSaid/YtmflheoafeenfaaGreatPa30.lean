/- Parts of the proof, joined by program: RwV3b. -/
import Derived.Test.YtmflheoafeenfaaGreatPa29
set_option linter.unusedSimpArgs false
set_option linter.unusedVariables false
namespace Go.Proofs.YtmflheoafeenfaaGreat
open Go.Am
theorem comp_at {n m o p : Nat} (h : (List.range n).all (fun i => (List.range m).all fun j => compAt (i + o) (j + p)) = true) {a b : Nat} (ha : o ≤ a ∧ a < o + n) (hb : p ≤ b ∧ b < p + m) : firstK (timesC (dimK a) (matC b) (matC a)) 20 0 = compG a b := by
  have := List.all_eq_true.1 (List.all_eq_true.1 h (a - o) (List.mem_range.2 (by omega))) (b - p) (List.mem_range.2 (by omega))
  rw [show a - o + o = a by omega, show b - p + p = b by omega] at this
  exact beq_iff_eq.1 this
theorem arity_rng {k : Int} (h : arity k ≠ 0) : (arity k = 1 ∧ 1 ≤ k ∧ k ≤ 10) ∨ (arity k = 2 ∧ 11 ≤ k ∧ k ≤ 17) ∨ (arity k = 3 ∧ 18 ≤ k ∧ k ≤ 20) := by
  unfold arity at *
  split at h
  · simp at h
  · rename_i h0
    rw [if_neg h0]
    by_cases h1 : k ≤ 10
    · rw [if_pos h1]
      exact .inl ⟨rfl, by omega, h1⟩
    · rw [if_neg h1]
      by_cases h2 : k ≤ 17
      · rw [if_pos h2]
        exact .inr (.inl ⟨rfl, by omega, h2⟩)
      · rw [if_neg h2]
        exact .inr (.inr ⟨rfl, by omega, by omega⟩)
theorem comp_eq {a b : Int} (h : arity a = arity b) (h0 : arity a ≠ 0) : firstK (timesC (dimK a) (matC b) (matC a)) 20 0 = compG a b := by
  have hb := arity_rng (k := b) (by rw [← h]; exact h0)
  have ha := arity_rng h0
  obtain ⟨x, rfl⟩ : ∃ x : Nat, a = x := ⟨a.toNat, by omega⟩
  obtain ⟨y, rfl⟩ : ∃ y : Nat, b = y := ⟨b.toNat, by omega⟩
  by_cases h1 : (x : Int) ≤ 10
  · by_cases h3 : x ≤ 4
    · exact comp_at comp1a (by omega) (by omega)
    · by_cases h4 : x ≤ 7
      · exact comp_at comp1b (by omega) (by omega)
      · exact comp_at comp1c (by omega) (by omega)
  · by_cases h2 : (x : Int) ≤ 17
    · exact comp_at comp2 (by omega) (by omega)
    · exact comp_at comp3 (by omega) (by omega)
end Go.Proofs.YtmflheoafeenfaaGreat
