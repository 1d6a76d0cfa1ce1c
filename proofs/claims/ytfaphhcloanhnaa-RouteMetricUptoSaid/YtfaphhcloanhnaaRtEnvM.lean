/- Environments of the seat: which functions are called by themselves (answers without an address), which with their answers laid as rows. -/
import Derived.Test.YtfaphhcloanhnaaRtL0
set_option linter.unusedSimpArgs false
set_option linter.unusedVariables false
namespace Go.Proofs.Ytfaphhcloanhnaa
open Go.Am Go.Proofs
set_option maxRecDepth 100000
def EnvM (fl rw : List FuncId) : Env := { fns := fnsT, mode := fun f => if f == f_slices_Sort_int_int then .known else if fl.contains f then .iso false else if rw.contains f then .iso true else .open_, known := fun f args m => if f == f_slices_Sort_int_int then knSort args m else none }
theorem EnvM_ok (fl rw : List FuncId) : EnvOk Try.prog (EnvM fl rw) where
  orders := by kernel_rfl
  fns := fun f fn' h => by
    unfold EnvM fnsT at h
    simp only [Option.map_eq_some_iff] at h
    obtain ⟨p, hp, rfl⟩ := h
    have h1 := List.find?_some hp
    have h2 := List.mem_of_find?_eq_some hp
    simp only [beq_iff_eq] at h1
    subst h1
    exact tbl_ok p h2
  grow := fun f args m v m' h => by
    simp only [EnvM] at h
    split at h
    · exact (sort_sim h).2
    · simp at h
  known := fun f args m v m' h => by
    simp only [EnvM] at h
    split at h
    · rename_i hf
      rw [beq_iff_eq] at hf
      subst hf
      exact ⟨Try.f62, Try.func62, by kernel_rfl, by kernel_rfl, (sort_sim h).1⟩
    · simp at h
/-- What a run by the kernel shows. -/
theorem alive_of {E : Env} {L : Hp} (hm : E.mode f_phasorlaw20_alive = .iso false) (hf : E.fns f_phasorlaw20_alive = some c_phasorlaw20_alive) (h : (match body E 100000 c_phasorlaw20_alive [] ⟨.nil, 0, 0⟩ with | some (.sc (.bool true), _) => true | _ => false) = true) : CallO E f_phasorlaw20_alive [] L fun v L' => v = abool true ∧ L' = L := by
  have h : ∃ m', body E 100000 c_phasorlaw20_alive [] ⟨.nil, 0, 0⟩ = some (abool true, m') := by
    split at h
    · rename_i m' h'
      exact ⟨m', h'⟩
    · cases h
  obtain ⟨m', h⟩ := h
  refine ⟨fun m ho => (call_iso0 (R := fun v => v = abool true) (vs := []) hm hf rfl ⟨100000, abool true, m', h, rfl, rfl⟩).mono ?_⟩
  rintro v m1 ⟨h1, rfl⟩
  exact ⟨L, ho, h1, rfl⟩
end Go.Proofs.Ytfaphhcloanhnaa
