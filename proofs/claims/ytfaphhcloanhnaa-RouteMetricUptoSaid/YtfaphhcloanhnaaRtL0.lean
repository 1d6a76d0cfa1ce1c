/- The seat's environment; arguments' shapes. -/
import Derived.Test.YtfaphhcloanhnaaRtKS
import Derived.Test.YtfaphhcloanhnaaRtEnv
import Derived.Test.YtfaphhcloanhnaaAmCodeOk
import Derived.Test.YtfaphhcloanhnaaAmRow3
import Derived.Test.YtfaphhcloanhnaaRows
set_option linter.unusedSimpArgs false
set_option linter.unusedVariables false
namespace Go.Proofs.Ytfaphhcloanhnaa
open Go.Am Go.Proofs
set_option maxRecDepth 100000
/-- How functions are called: those by themselves whose answers have no address; those whose answers are laid as rows. -/
def mdFlat : List FuncId := [f_phasorref20_Right, f_phasorlaw20_num, f_route_Check, f_phasorlaw20_same, f_phasorlaw20_alive, f_phasorlaw20_ints, f_slices_Contains_int_int, f_slices_Index_int_int]
def mdRows : List FuncId := [f_route_Line, f_route_Ring, f_phasorref20_Ring, f_route_Grid, f_phasorref20_Grid, f_phasorref20_far, f_route_near, f_route_steps]
def E1 : Env := { fns := fnsT, mode := fun f => if f == f_slices_Sort_int_int then .known else if mdFlat.contains f then .iso false else if mdRows.contains f then .iso true else .open_, known := fun f args m => if f == f_slices_Sort_int_int then knSort args m else none }
theorem E1_ok : EnvOk Try.prog E1 where
  orders := by kernel_rfl
  fns := fun f fn' h => by
    unfold E1 fnsT at h
    simp only [Option.map_eq_some_iff] at h
    obtain ⟨p, hp, rfl⟩ := h
    have h1 := List.find?_some hp
    have h2 := List.mem_of_find?_eq_some hp
    simp only [beq_iff_eq] at h1
    subst h1
    exact tbl_ok p h2
  grow := fun f args m v m' h => by
    simp only [E1] at h
    split at h
    · exact (sort_sim h).2
    · simp at h
  known := fun f args m v m' h => by
    simp only [E1] at h
    split at h
    · rename_i hf
      rw [beq_iff_eq] at hf
      subst hf
      exact ⟨Try.f62, Try.func62, by kernel_rfl, by kernel_rfl, (sort_sim h).1⟩
    · simp at h

section
variable {H : Type}
theorem int_wf {n : Int} (hw : (Lit.int .i64 n).wf = true) : -9223372036854775808 ≤ n ∧ n ≤ 9223372036854775807 := by simpa [Lit.wf, IntKind.min, IntKind.max, IntKind.signed, IntKind.bits] using hw
theorem two {α : Type} {l : List α} (h : l.length = 2) : ∃ a b, l = [a, b] := by
  match l, h with
  | [a, b], _ => exact ⟨a, b, rfl⟩
theorem sh_pair {d : Nat} {x : DataW H} (h : shD Try.prog (d + 2) 50 x) : 2 ≤ Rows.uptoBulk x ∧ ∃ a b : Int, encD Try.prog (d + 2) 50 x = [aint a, aint b] := by
  obtain ⟨ys, rfl, hl, hy, e⟩ := shD_array Try.underlying50 h
  obtain ⟨a, b, rfl⟩ := two hl
  obtain ⟨m, rfl, -, e1⟩ := shD_int Try.underlying3 (hy a (by simp))
  obtain ⟨n, -, -, e2⟩ := shD_int Try.underlying3 (hy b (by simp))
  refine ⟨by simp only [Rows.uptoBulk, Rows.uptoBulkAll]; omega, m, n, ?_⟩
  rw [e, List.flatMap_cons, List.flatMap_cons, List.flatMap_nil, e1, e2]
  rfl
theorem sh_pairs {d : Nat} {x : DataW H} (h : shD Try.prog (d + 3) 22 x) : ∃ (s : AVal) (ps : List (Int × Int)), encD Try.prog (d + 3) 22 x = [s] ∧ SlP s ps ∧ 2 * ps.length ≤ Rows.uptoBulk x := by
  rcases shD_slice Try.underlying22 h with ⟨rfl, e⟩ | ⟨es, sp, rfl, hy, e⟩
  · exact ⟨anil, [], e, .inl ⟨rfl, rfl, rfl⟩, by simp⟩
  · have : ∃ ps : List (Int × Int), es.flatMap (encD Try.prog (d + 2) 50) = pcells ps ∧ ps.length = es.length ∧ 2 * es.length ≤ Rows.uptoBulkAll es := by
      clear e h sp
      induction es with
      | nil => exact ⟨[], rfl, rfl, by simp⟩
      | cons e r ih =>
        obtain ⟨h5, a, b, h1⟩ := sh_pair (d := d) (hy e (by simp))
        obtain ⟨ps, h2, h3, h4⟩ := ih fun y hy' => hy y (by simp [hy'])
        refine ⟨(a, b) :: ps, ?_, by simp [h3], by simp only [Rows.uptoBulkAll, List.length_cons]; omega⟩
        rw [List.flatMap_cons, h1, h2]
        rfl
    obtain ⟨ps, h1, h2, h3⟩ := this
    refine ⟨_, ps, e, .inr ⟨some (es.length + sp.length), by rw [h1, h2]⟩, by simp only [Rows.uptoBulk]; omega⟩
theorem sh_coupling {d : Nat} {x : DataW H} (h : shD Try.prog (d + 4) 24 x) : ∃ (N : Int) (s : AVal) (ps : List (Int × Int)), valD Try.prog (d + 4) 24 x = .agg [aint N, s] ∧ SlP s ps ∧ 2 * ps.length ≤ Rows.uptoBulk x := by
  obtain ⟨ys, rfl, hl, hy, e, ev⟩ := shD_struct Try.underlying24 h
  obtain ⟨a, b, rfl⟩ := two hl
  obtain ⟨n, -, -, e1⟩ := shD_int (d := d + 2) Try.underlying3 (hy 0 _ a rfl rfl)
  obtain ⟨s, ps, e2, h2, h3⟩ := sh_pairs (d := d) (hy 1 _ b rfl rfl)
  refine ⟨n, s, ps, ?_, h2, by simp only [Rows.uptoBulk, Rows.uptoBulkAll]; omega⟩
  rw [ev, e]
  show AVal.agg (List.flatten [encD Try.prog (d + 3) 3 a, encD Try.prog (d + 3) 22 b]) = _
  rw [e1, e2]
  rfl
theorem val_int {d : Nat} {x : DataW H} (h : shD Try.prog (d + 1) 3 x) : ∃ n : Int, valD Try.prog (d + 1) 3 x = aint n ∧ -9223372036854775808 ≤ n ∧ n ≤ 9223372036854775807 := by
  obtain ⟨n, rfl, hw, e⟩ := shD_int Try.underlying3 h
  exact ⟨n, valD_int Try.underlying3 e, int_wf hw⟩
end
end Go.Proofs.Ytfaphhcloanhnaa
