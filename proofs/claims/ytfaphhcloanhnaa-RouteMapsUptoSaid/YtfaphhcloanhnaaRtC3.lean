/- Lines of the document's, rings. -/
import Derived.Test.YtfaphhcloanhnaaRtC2
namespace Go.Proofs.Ytfaphhcloanhnaa
open Go.Am
set_option linter.unusedVariables false
set_option linter.unusedSimpArgs false
set_option maxRecDepth 4000
set_option maxHeartbeats 4000000
variable {E : Env} {L : Hp}
theorem refLine_ok (hF : E.fns = fnsT) (hm : E.mode f_phasorref20_Line = .open_) (n : Int) : CallO E f_phasorref20_Line [aint n] L fun v L' => ∃ B, MapB (lineS n) v B ∧ L' = B ++ L := by
  have bad : ¬(1 ≤ n ∧ n ≤ 64) → lineS n = (0, [], 2) := fun h => by unfold lineS; rw [if_neg h]
  refine (callO_open hm (fns_of hF n_phasorref20_Line) ?_).to
  refine bodyO_of (Nat.le_of_ble_eq_true rfl) ?_; generalize ht : argSlots _ 0 .nil = t; have h0 : t.get 0 = some _ := (by rw [← ht]; rfl); clear ht
  repeat (first | intro id | refine goc ?_)
  (refine oo_guard (by exact slotq) (fun hc => ?_) (fun hc => ?_) <;> (try simp only [hc]) <;> (try simp only [decide_eq_true_eq, decide_eq_false_iff_not, ne_eq, Decidable.not_not] at hc))
  · repeat (first | intro id | refine goc ?_)
    refine wo_cond_if (by exact slotq) (fun hc => ?_) (fun hc => ?_) <;> (try simp only [decide_eq_true_eq, decide_eq_false_iff_not, ne_eq, Decidable.not_not] at hc)
    · repeat (first | intro id | refine goc ?_)
      ((first | apply retO_r | apply retO_n); (focus (exact resq)))
      rw [bad (by omega)]
      exact ⟨L, by exact subq, [], ⟨_, rfl, .nil⟩, rfl⟩
    · (first | omega | (exact absurd hc (by decide)) | (simp at hc; done) | contradiction)
  · repeat (first | intro id | refine goc ?_)
    refine wo_cond_if (by exact slotq) (fun hc => ?_) (fun hc => ?_) <;> (try simp only [decide_eq_true_eq, decide_eq_false_iff_not, ne_eq, Decidable.not_not] at hc)
    · repeat (first | intro id | refine goc ?_)
      ((first | apply retO_r | apply retO_n); (focus (exact resq)))
      rw [bad (by omega)]
      exact ⟨L, by exact subq, [], ⟨_, rfl, .nil⟩, rfl⟩
    · obtain ⟨k, rfl⟩ : ∃ k : Nat, n = k := ⟨n.toNat, by omega⟩
      repeat (first | intro id | refine goc ?_)
      rename_i i2 _
      refine WpO.mono (refLine_loop (N := k) (i4 := id) (by omega) (k - 1) 0 _ anil [] (by omega) ?_ ?_ ?_ .nil) ?_
      · exact slotq
      · exact slotq
      · exact slotq
      rintro ex t' L' ⟨rfl, g4, g2, a', B, hb, rfl⟩
      have g2' : t'.get 2 = some (.ptr i2 0) := g2.trans (by exact slotq)
      repeat (first | intro id | refine goc ?_)
      ((first | apply retO_r | apply retO_n); (focus (exact resq)))
      rw [lineS_in (by omega) (by omega)]
      exact ⟨B ++ L, by exact subq, B, ⟨a', rfl, by rw [lineP_length]; exact hb⟩, rfl⟩

def ringS (n : Int) : MapR := if 3 ≤ n ∧ n ≤ 64 then (n, lineP (n.toNat - 1) ++ [(((n.toNat - 1 : Nat) : Int), 0)], 0) else (0, [], 2)
theorem ringS_in {n : Nat} (h1 : 3 ≤ n) (h2 : n ≤ 64) : ringS (n : Int) = ((n : Int), lineP (n - 1) ++ [(((n - 1 : Nat) : Int), 0)], 0) := by
  unfold ringS
  rw [if_pos ⟨by omega, by omega⟩]
  rfl
theorem pcells_snoc (x y : Int) (l : List (Int × Int)) : pcells (l ++ [(x, y)]) = pcells l ++ [aint x, aint y] := by rw [← pcells_app]; rfl

theorem Ring_ok (hF : E.fns = fnsT) (hm : E.mode f_route_Ring = .iso true) (hml : E.mode f_route_line = .open_) (n : Int) : CallO E f_route_Ring [aint n] L fun v L' => MapE (ringS n) v ∧ L' = L := by
  refine callO_iso1 hm (fns_of hF n_route_Ring) rfl ?_
  have bad : ¬(3 ≤ n ∧ n ≤ 64) → ringS n = (0, [], 2) := fun h => by unfold ringS; rw [if_neg h]
  refine bodyO_of (Nat.le_of_ble_eq_true rfl) ?_; generalize ht : argSlots _ 0 .nil = t; have h0 : t.get 0 = some _ := (by rw [← ht]; rfl); clear ht
  repeat (first | intro id | refine goc ?_)
  (refine oo_guard (by exact slotq) (fun hc => ?_) (fun hc => ?_) <;> (try simp only [hc]) <;> (try simp only [decide_eq_true_eq, decide_eq_false_iff_not, ne_eq, Decidable.not_not] at hc))
  · repeat (first | intro id | refine goc ?_)
    refine wo_cond_if (by exact slotq) (fun hc => ?_) (fun hc => ?_) <;> (try simp only [decide_eq_true_eq, decide_eq_false_iff_not, ne_eq, Decidable.not_not] at hc)
    · repeat (first | intro id | refine goc ?_)
      ((first | apply retO_r | apply retO_n); (focus (exact resq)))
      rw [bad (by omega)]
      exact mapE_view (B := []) (ps := []) .nil rfl (fun _ _ h => nomatch h)
    · (first | omega | (exact absurd hc (by decide)) | (simp at hc; done) | contradiction)
  · repeat (first | intro id | refine goc ?_)
    refine wo_cond_if (by exact slotq) (fun hc => ?_) (fun hc => ?_) <;> (try simp only [decide_eq_true_eq, decide_eq_false_iff_not, ne_eq, Decidable.not_not] at hc)
    · repeat (first | intro id | refine goc ?_)
      ((first | apply retO_r | apply retO_n); (focus (exact resq)))
      rw [bad (by omega)]
      exact mapE_view (B := []) (ps := []) .nil rfl (fun _ _ h => nomatch h)
    · obtain ⟨k, rfl⟩ : ∃ k : Nat, n = k := ⟨n.toNat, by omega⟩
      repeat (first | intro id | refine goc ?_)
      refine gok ?_
      refine (line_ok hF hml (by omega) (by omega)).mono ?_
      rintro v L' ⟨B, hb, rfl⟩
      repeat (first | intro id | refine goc ?_)
      ((first | apply retO_r | apply retO_n); (focus (exact resq)))
      rw [ringS_in (by omega) (by omega)]
      have hb' := hb.pushed (id := id) (nw := [aint ((k - 1 : Nat) : Int), aint 0]) rfl rfl
      rw [← pcells_snoc] at hb'
      exact mapE_view hb' (by rw [List.length_append, lineP_length]; rfl) fun _ _ h => by rw [pcells_snoc] at h; cases h with | here => exact inq | next h => cases h

theorem refRing_ok (hF : E.fns = fnsT) (hm : E.mode f_phasorref20_Ring = .iso true) (hml : E.mode f_phasorref20_Line = .open_) (n : Int) : CallO E f_phasorref20_Ring [aint n] L fun v L' => MapE (ringS n) v ∧ L' = L := by
  refine callO_iso1 hm (fns_of hF n_phasorref20_Ring) rfl ?_
  have bad : ¬(3 ≤ n ∧ n ≤ 64) → ringS n = (0, [], 2) := fun h => by unfold ringS; rw [if_neg h]
  refine bodyO_of (Nat.le_of_ble_eq_true rfl) ?_; generalize ht : argSlots _ 0 .nil = t; have h0 : t.get 0 = some _ := (by rw [← ht]; rfl); clear ht
  repeat (first | intro id | refine goc ?_)
  refine gok ?_
  refine (refLine_ok hF hml n).mono ?_
  rintro v L' ⟨B, ⟨a, rfl, hb⟩, rfl⟩
  by_cases hin : 1 ≤ n ∧ n ≤ 64
  · obtain ⟨k, rfl⟩ : ∃ k : Nat, n = k := ⟨n.toNat, by omega⟩
    rw [lineS_in (by omega) (by omega)] at hb ⊢
    simp only [lineP_length] at hb
    repeat (first | intro id | refine goc ?_)
    refine wo_cond_if (by exact slotq) (fun hc => ?_) (fun hc => ?_) <;> (try simp only [decide_eq_true_eq, decide_eq_false_iff_not, ne_eq, Decidable.not_not] at hc)
    · repeat (first | intro id | refine goc ?_)
      ((first | apply retO_r | apply retO_n); (focus (exact resq)))
      rw [bad (by omega)]
      exact mapE_view (B := []) (ps := []) .nil rfl (fun _ _ h => nomatch h)
    · repeat (first | intro id | refine goc ?_)
      ((first | apply retO_r | apply retO_n); (focus (exact resq)))
      rw [ringS_in (by omega) (by omega)]
      have hb' := hb.pushed (id := id) (nw := [aint ((k - 1 : Nat) : Int), aint 0]) rfl rfl
      rw [← pcells_snoc] at hb'
      exact mapE_view hb' (by rw [List.length_append, lineP_length]; rfl) fun _ _ h => by rw [pcells_snoc] at h; cases h with | here => exact inq | next h => cases h
  · rw [show lineS n = (0, [], 2) by unfold lineS; rw [if_neg hin]] at hb ⊢
    repeat (first | intro id | refine goc ?_)
    refine wo_cond_if (by exact slotq) (fun hc => ?_) (fun hc => ?_) <;> (try simp only [decide_eq_true_eq, decide_eq_false_iff_not, ne_eq, Decidable.not_not] at hc)
    · repeat (first | intro id | refine goc ?_)
      ((first | apply retO_r | apply retO_n); (focus (exact resq)))
      rw [bad (by omega)]
      exact mapE_view (B := []) (ps := []) .nil rfl (fun _ _ h => nomatch h)
    · (first | omega | (exact absurd hc (by decide)) | (simp at hc; done) | contradiction)
end Go.Proofs.Ytfaphhcloanhnaa
