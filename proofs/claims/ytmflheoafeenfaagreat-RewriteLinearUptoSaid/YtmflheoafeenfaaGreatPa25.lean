/- Parts of the proof, joined by program: RwSH, RwSHU. -/
import Derived.Test.YtmflheoafeenfaaGreatPa24
import Derived.Test.YtmflheoafeenfaaGreatRows
import Derived.Test.YtmflheoafeenfaaGreatPa8
import Derived.Test.YtmflheoafeenfaaGreatPa10
set_option linter.unusedSimpArgs false
set_option linter.unusedVariables false
namespace Go.Proofs.YtmflheoafeenfaaGreat
open Go.Am Go.Proofs
set_option maxRecDepth 100000
section
variable {H : Type}
theorem six {α : Type} {l : List α} (h : l.length = 6) : ∃ a b c d e f, l = [a, b, c, d, e, f] := by
  match l, h with
  | [a, b, c, d, e, f], _ => exact ⟨a, b, c, d, e, f, rfl⟩
theorem three {α : Type} {l : List α} (h : l.length = 3) : ∃ a b c, l = [a, b, c] := by
  match l, h with
  | [a, b, c], _ => exact ⟨a, b, c, rfl⟩
theorem sh_ints {d : Nat} {x : DataW H} (h : shD Tryz.prog (d + 2) 52 x) : ∃ (s : AVal) (l : List Int), encD Tryz.prog (d + 2) 52 x = [s] ∧ SlI s l ∧ l.length ≤ Rows.uptoBulk x := by
  rcases shD_slice Tryz.underlying52 h with ⟨rfl, e⟩ | ⟨es, sp, rfl, hy, e⟩
  · exact ⟨anil, [], e, .inl ⟨rfl, rfl, rfl⟩, by simp⟩
  · have : ∃ l : List Int, es.flatMap (encD Tryz.prog (d + 1) 3) = l.map aint ∧ l.length = es.length ∧ es.length ≤ Rows.uptoBulkAll es := by
      clear e h sp
      induction es with
      | nil => exact ⟨[], rfl, rfl, by simp⟩
      | cons e r ih =>
        obtain ⟨n, rfl, -, h1⟩ := shD_int (d := d) Tryz.underlying3 (hy e (by simp))
        obtain ⟨l, h2, h3, h4⟩ := ih fun y hy' => hy y (by simp [hy'])
        refine ⟨n :: l, ?_, by simp [h3], by simp only [Rows.uptoBulkAll, Rows.uptoBulk, List.length_cons]; omega⟩
        rw [List.flatMap_cons, h1, h2]
        rfl
    obtain ⟨l, h1, h2, h3⟩ := this
    refine ⟨_, l, e, .inr ⟨some (es.length + sp.length), by rw [h1, h2]⟩, by simp only [Rows.uptoBulk]; omega⟩
theorem sh_op {d : Nat} {x : DataW H} (h : shD Tryz.prog (d + 3) 54 x) : ∃ (q : AVal) (o : OpD), encD Tryz.prog (d + 3) 54 x = opCells q o ∧ SlI q o.qs ∧ o.qs.length + 5 ≤ Rows.uptoBulk x := by
  obtain ⟨ys, rfl, hl, hy, e, -⟩ := shD_struct Tryz.underlying54 h
  obtain ⟨y0, y1, y2, y3, y4, y5, rfl⟩ := six hl
  obtain ⟨n0, rfl, -, e0⟩ := shD_int (d := d + 1) Tryz.underlying50 (hy 0 _ y0 rfl rfl)
  obtain ⟨n1, rfl, -, e1⟩ := shD_int (d := d + 1) Tryz.underlying51 (hy 1 _ y1 rfl rfl)
  obtain ⟨q, l, e2, hq, hb⟩ := sh_ints (d := d) (hy 2 _ y2 rfl rfl)
  obtain ⟨n3, rfl, -, e3⟩ := shD_int (d := d + 1) Tryz.underlying3 (hy 3 _ y3 rfl rfl)
  obtain ⟨n4, rfl, -, e4⟩ := shD_int (d := d + 1) Tryz.underlying3 (hy 4 _ y4 rfl rfl)
  obtain ⟨n5, rfl, -, e5⟩ := shD_int (d := d + 1) Tryz.underlying3 (hy 5 _ y5 rfl rfl)
  refine ⟨q, ⟨n0, n1, l, n3, n4, n5⟩, ?_, hq, by simp only [Rows.uptoBulk, Rows.uptoBulkAll]; omega⟩
  rw [e]
  show List.flatten [encD Tryz.prog (d + 2) 50 _, encD Tryz.prog (d + 2) 51 _, encD Tryz.prog (d + 2) 52 y2, encD Tryz.prog (d + 2) 3 _, encD Tryz.prog (d + 2) 3 _, encD Tryz.prog (d + 2) 3 _] = _
  rw [e0, e1, e2, e3, e4, e5]
  rfl
theorem sh_ops {d : Nat} {x : DataW H} (h : shD Tryz.prog (d + 4) 22 x) (hb : Rows.uptoBulk x ≤ 1048576) : ∃ (s : AVal) (os : List OpD), encD Tryz.prog (d + 4) 22 x = [s] ∧ OpsA s os ∧ 5 * os.length ≤ Rows.uptoBulk x ∧ ∀ k, k < os.length → (os.getD k default).qs.length ≤ Rows.uptoBulk x := by
  rcases shD_slice Tryz.underlying22 h with ⟨rfl, e⟩ | ⟨es, sp, rfl, hy, e⟩
  · exact ⟨anil, [], e, ⟨[], .inl ⟨rfl, rfl, rfl⟩, .nil, by simp⟩, by simp, fun k hk => by simp at hk⟩
  · have hb1 : Rows.uptoBulkAll es ≤ 1048576 := by simp only [Rows.uptoBulk] at hb; omega
    have : ∃ os : List OpD, OpsC (es.flatMap (encD Tryz.prog (d + 3) 54)) os ∧ os.length = es.length ∧ 5 * es.length ≤ Rows.uptoBulkAll es ∧ ∀ k, k < os.length → (os.getD k default).qs.length ≤ Rows.uptoBulkAll es := by
      clear e h sp hb
      induction es with
      | nil => exact ⟨[], .nil, rfl, by simp, fun k hk => by simp at hk⟩
      | cons e r ih =>
        obtain ⟨q, o, h1, h2, h3⟩ := sh_op (d := d) (hy e (by simp))
        simp only [Rows.uptoBulkAll] at hb1
        obtain ⟨os, h4, h5, h6, h7⟩ := ih (fun y hy' => hy y (by simp [hy'])) (by omega)
        refine ⟨o :: os, ?_, by simp [h5], by simp only [Rows.uptoBulkAll, List.length_cons]; omega, fun k hk => ?_⟩
        · rw [List.flatMap_cons, h1]
          exact .cons h2 (by omega) h4
        · simp only [Rows.uptoBulkAll]
          cases k with
          | zero => simp; omega
          | succ k =>
            have := h7 k (by simpa using hk)
            simp only [List.getD_cons_succ]
            omega
    obtain ⟨os, h1, h2, h3, h4⟩ := this
    refine ⟨_, os, e, ⟨_, .inr ⟨some (es.length + sp.length), by rw [h2]⟩, h1, by omega⟩, by simp only [Rows.uptoBulk]; omega, fun k hk => ?_⟩
    have := h4 k hk
    simp only [Rows.uptoBulk]
    omega
theorem sh_circuit {d : Nat} {x : DataW H} (h : shD Tryz.prog (d + 5) 24 x) (hb : Rows.uptoBulk x ≤ 1048576) : ∃ (v : AVal) (c : CircD), valD Tryz.prog (d + 5) 24 x = v ∧ CircA v c ∧ Small c := by
  obtain ⟨ys, rfl, hl, hy, e, ev⟩ := shD_struct Tryz.underlying24 h
  obtain ⟨a, b, o, rfl⟩ := three hl
  obtain ⟨n, -, -, e1⟩ := shD_int (d := d + 3) Tryz.underlying3 (hy 0 _ a rfl rfl)
  obtain ⟨m, -, -, e2⟩ := shD_int (d := d + 3) Tryz.underlying3 (hy 1 _ b rfl rfl)
  simp only [Rows.uptoBulk, Rows.uptoBulkAll] at hb
  obtain ⟨s, os, e3, h2, h3, h4⟩ := sh_ops (d := d) (hy 2 _ o rfl rfl) (by omega)
  refine ⟨_, ⟨n, m, os⟩, rfl, ⟨s, ?_, h2⟩, ⟨by simp only; omega, fun k hk => by have := h4 k hk; simp only at *; omega⟩⟩
  rw [ev, e]
  show AVal.agg (List.flatten [encD Tryz.prog (d + 4) 3 a, encD Tryz.prog (d + 4) 3 b, encD Tryz.prog (d + 4) 22 o]) = _
  rw [e1, e2, e3]
  rfl
end
end Go.Proofs.YtmflheoafeenfaaGreat
namespace Go.Proofs.YtmflheoafeenfaaGreat
open Go.Am Go.Proofs
set_option maxRecDepth 100000
section
variable {H : Type}
theorem sh_wordsV {d : Nat} {x : DataW H} (h : shD Tryz.prog (d + 2) 41 x) : ∃ (s : AVal) (l : List Int), valD Tryz.prog (d + 2) 41 x = s ∧ SlU s l ∧ l.length ≤ Rows.uptoBulk x ∧ ∀ n ∈ l, 0 ≤ n ∧ n < 2 ^ 64 := by
  rcases shD_slice Tryz.underlying41 h with ⟨rfl, e⟩ | ⟨es, sp, rfl, hy, e⟩
  · refine ⟨anil, [], ?_, .inl ⟨rfl, rfl, rfl⟩, by simp, by simp⟩
    unfold valD
    rw [Tryz.underlying41, e]
    rfl
  · have : ∃ l : List Int, es.flatMap (encD Tryz.prog (d + 1) 69) = l.map au ∧ l.length = es.length ∧ es.length ≤ Rows.uptoBulkAll es ∧ ∀ n ∈ l, 0 ≤ n ∧ n < 2 ^ 64 := by
      clear e h sp
      induction es with
      | nil => exact ⟨[], rfl, rfl, by simp, by simp⟩
      | cons e r ih =>
        obtain ⟨n, rfl, hw, h1⟩ := shD_int (d := d) Tryz.underlying69 (hy e (by simp))
        obtain ⟨l, h2, h3, h4, h5⟩ := ih fun y hy' => hy y (by simp [hy'])
        refine ⟨n :: l, ?_, by simp [h3], by simp only [Rows.uptoBulkAll, Rows.uptoBulk, List.length_cons]; omega, ?_⟩
        · rw [List.flatMap_cons, h1, h2]
          rfl
        · intro m hm
          rcases List.mem_cons.1 hm with rfl | hm
          · simp only [Lit.wf, Bool.and_eq_true, decide_eq_true_eq] at hw
            have hw1 : (0 : Int) ≤ m := hw.1
            have hw2 : m ≤ 18446744073709551615 := hw.2
            omega
          · exact h5 m hm
    obtain ⟨l, h1, h2, h3, h4⟩ := this
    refine ⟨_, l, ?_, .inr ⟨some (es.length + sp.length), by rw [h2]⟩, by simp only [Rows.uptoBulk]; omega, h4⟩
    unfold valD
    rw [Tryz.underlying41, e, h1]
    rfl
end
end Go.Proofs.YtmflheoafeenfaaGreat
