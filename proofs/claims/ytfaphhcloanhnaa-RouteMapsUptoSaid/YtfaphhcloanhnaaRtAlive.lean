/- What must come, whatever else is so: the kernel runs it. -/
import Derived.Test.YtfaphhcloanhnaaRtL0
namespace Go.Proofs.Ytfaphhcloanhnaa
open Go.Am Go.Proofs
set_option maxRecDepth 100000
theorem alive_run : (match body E1 100000 c_phasorlaw20_alive [] ⟨.nil, 0, 0⟩ with | some (.sc (.bool true), _) => true | _ => false) = true := by kernel_rfl
theorem alive_ok {L : Hp} : CallO E1 f_phasorlaw20_alive [] L fun v L' => v = abool true ∧ L' = L := by
  have h : ∃ m', body E1 100000 c_phasorlaw20_alive [] ⟨.nil, 0, 0⟩ = some (abool true, m') := by
    have := alive_run
    split at this
    · rename_i m' h
      exact ⟨m', h⟩
    · cases this
  obtain ⟨m', h⟩ := h
  refine ⟨fun m ho => (call_iso0 (R := fun v => v = abool true) (vs := []) rfl n_phasorlaw20_alive rfl ⟨100000, abool true, m', h, rfl, rfl⟩).mono ?_⟩
  rintro v m1 ⟨h1, rfl⟩
  exact ⟨L, ho, h1, rfl⟩
end Go.Proofs.Ytfaphhcloanhnaa
