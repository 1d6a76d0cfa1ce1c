/- The environment of the laws of paths; what must come is run by the kernel. -/
import Derived.Test.YtfaphhcloanhnaaRtL0
set_option linter.unusedSimpArgs false
set_option linter.unusedVariables false
namespace Go.Proofs.Ytfaphhcloanhnaa
open Go.Am Go.Proofs
set_option maxRecDepth 100000
def mdFlat2 : List FuncId := [f_phasorref20_Right, f_phasorlaw20_num, f_route_Check, f_phasorlaw20_same, f_phasorlaw20_alive, f_phasorlaw20_ints, f_slices_Contains_int_int, f_slices_Index_int_int, f_phasorref20_step, f_slices_IndexFunc_int_int, f_route_path_1]
def mdRows2 : List FuncId := [f_route_Line, f_route_Ring, f_phasorref20_Ring, f_route_Grid, f_phasorref20_Grid, f_phasorref20_far, f_route_near, f_route_Path, f_phasorref20_Path, f_phasorref20_Far]
def E2 : Env := { fns := fnsT, mode := fun f => if f == f_slices_Sort_int_int then .known else if mdFlat2.contains f then .iso false else if mdRows2.contains f then .iso true else .open_, known := fun f args m => if f == f_slices_Sort_int_int then knSort args m else none }
theorem E2_ok : EnvOk Try.prog E2 where
  orders := by kernel_rfl
  fns := fun f fn' h => by
    unfold E2 fnsT at h
    simp only [Option.map_eq_some_iff] at h
    obtain ⟨p, hp, rfl⟩ := h
    have h1 := List.find?_some hp
    have h2 := List.mem_of_find?_eq_some hp
    simp only [beq_iff_eq] at h1
    subst h1
    exact tbl_ok p h2
  grow := fun f args m v m' h => by
    simp only [E2] at h
    split at h
    · exact (sort_sim h).2
    · simp at h
  known := fun f args m v m' h => by
    simp only [E2] at h
    split at h
    · rename_i hf
      rw [beq_iff_eq] at hf
      subst hf
      exact ⟨Try.f62, Try.func62, by kernel_rfl, by kernel_rfl, (sort_sim h).1⟩
    · simp at h
theorem alive2_run : (match body E2 100000 c_phasorlaw20_alive [] ⟨.nil, 0, 0⟩ with | some (.sc (.bool true), _) => true | _ => false) = true := by kernel_rfl
theorem alive2_ok {L : Hp} : CallO E2 f_phasorlaw20_alive [] L fun v L' => v = abool true ∧ L' = L := by
  have h : ∃ m', body E2 100000 c_phasorlaw20_alive [] ⟨.nil, 0, 0⟩ = some (abool true, m') := by
    have := alive2_run
    split at this
    · rename_i m' h
      exact ⟨m', h⟩
    · cases this
  obtain ⟨m', h⟩ := h
  refine ⟨fun m ho => (call_iso0 (R := fun v => v = abool true) (vs := []) rfl n_phasorlaw20_alive rfl ⟨100000, abool true, m', h, rfl, rfl⟩).mono ?_⟩
  rintro v m1 ⟨h1, rfl⟩
  exact ⟨L, ho, h1, rfl⟩
end Go.Proofs.Ytfaphhcloanhnaa
