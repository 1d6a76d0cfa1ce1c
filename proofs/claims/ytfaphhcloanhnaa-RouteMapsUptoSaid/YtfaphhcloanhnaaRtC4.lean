/- Grids. -/
import Derived.Test.YtfaphhcloanhnaaRtC3
namespace Go.Proofs.Ytfaphhcloanhnaa
open Go.Am
set_option linter.unusedVariables false
set_option linter.unusedSimpArgs false
set_option maxRecDepth 4000
set_option maxHeartbeats 4000000
variable {E : Env} {L : Hp}
def gridP (w h : Nat) : Nat → List (Int × Int)
  | 0 => []
  | k + 1 => gridP w h k ++ (if k % w + 1 < w then [((k : Int), ((k + 1 : Nat) : Int))] else []) ++ (if k / w + 1 < h then [((k : Int), ((k + w : Nat) : Int))] else [])
def gridS (w h : Int) : MapR := if (1 ≤ w ∧ w ≤ 64) ∧ (1 ≤ h ∧ h ≤ 64) ∧ w * h ≤ 64 then (w * h, gridP w.toNat h.toNat (w * h).toNat, 0) else (0, [], 2)
theorem gridS_in {w h : Nat} (h1 : 1 ≤ w) (h2 : w ≤ 64) (h3 : 1 ≤ h) (h4 : h ≤ 64) (h5 : w * h ≤ 64) : gridS (w : Int) (h : Int) = (((w * h : Nat) : Int), gridP w h (w * h), 0) := by
  unfold gridS
  rw [← Int.natCast_mul, if_pos ⟨⟨by omega, by omega⟩, ⟨by omega, by omega⟩, by omega⟩]
  rfl
theorem gridP_len (w h : Nat) : ∀ k, (gridP w h k).length ≤ 2 * k
  | 0 => by simp [gridP]
  | k + 1 => by
    have := gridP_len w h k
    simp only [gridP, List.length_append]
    split <;> split <;> simp <;> omega

theorem grid_loop {w h N i6 : Nat} (hw : 0 < w) (hw6 : w ≤ 64) (hN : N ≤ 64) : ∀ (d k : Nat) (t : Tr AVal) (a : AVal) (B : Hp) (ps : List (Int × Int)) (n : Nat), d + k = N → t.get 0 = some (aint w) → t.get 1 = some (aint h) → t.get 6 = some (.ptr i6 0) → t.get 34 = some (aint N) → t.get 35 = some (aint k) →
    ps = gridP w h k → n = ps.length → n ≤ 2 * k → BufO 2 a (pcells ps) n B →
    WpO E (.loop c_route_Grid_l0) t ((i6, [aint N, a]) :: (B ++ L)) (fun ex t' L' => ex = .exit 0 ∧ t'.get 6 = some (.ptr i6 0) ∧ t'.get 4 = t.get 4 ∧ ∃ a' B', BufO 2 a' (pcells (gridP w h N)) (gridP w h N).length B' ∧ L' = (i6, [aint N, a']) :: (B' ++ L)) := by
  intro d
  induction d with
  | zero =>
    intro k t a B ps n hk h0 h1 h6 h34 h35 hps hn hn2 hb
    obtain rfl : k = N := by omega
    refine wo_loop ?_
    repeat (first | intro id | refine goc ?_)
    refine wo_cond_if (by exact slotq) (fun hc => ?_) (fun hc => ?_) <;> (try simp only [decide_eq_true_eq, decide_eq_false_iff_not, ne_eq, Decidable.not_not] at hc)
    · omega
    · repeat (first | intro id | refine goc ?_)
      exact ⟨rfl, by exact slotq, by exact slotq, a, B, by rw [← hps, ← hn]; exact hb, rfl⟩
  | succ d ih =>
    intro k t a B ps n hk h0 h1 h6 h34 h35 hps hn hn2 hb
    refine wo_loop ?_
    have e1 : k % w < w := Nat.mod_lt k hw
    have e2 : k / w ≤ k := Nat.div_le_self k w
    repeat (first | intro id | refine goc ?_)
    refine wo_cond_if (by exact slotq) (fun hc => ?_) (fun hc => ?_) <;> (try simp only [decide_eq_true_eq, decide_eq_false_iff_not, ne_eq, Decidable.not_not] at hc)
    · repeat (first | intro id | refine goc ?_)
      refine wo_cond_if (by exact slotq) (fun hc => ?_) (fun hc => ?_) <;> (try simp only [decide_eq_true_eq, decide_eq_false_iff_not, ne_eq, Decidable.not_not] at hc)
      · repeat (first | intro id | refine goc ?_)
        have hb1 := hb.pushed (id := id) (nw := [aint k, aint ((k + 1 : Nat) : Int)]) rfl rfl
        rw [← pcells_snoc] at hb1 ⊢
        refine wo_cond_if (by exact slotq) (fun hc => ?_) (fun hc => ?_) <;> (try simp only [decide_eq_true_eq, decide_eq_false_iff_not, ne_eq, Decidable.not_not] at hc)
        · repeat (first | intro id | refine goc ?_)
          have hb2 := hb1.pushed (id := id) (nw := [aint k, aint ((k + w : Nat) : Int)]) rfl rfl
          rw [← pcells_snoc] at hb2 ⊢
          refine WpO.weak (WpO.mono (ih (k + 1) _ _ _ _ _ ?_ ?_ ?_ ?_ ?_ ?_ ?_ ?_ ?_ hb2) ?_) ?_
          rotate_left 9
          · rintro ex t' L' ⟨h1, h2, h3, h4⟩
            exact ⟨h1, h2, h3.trans (by exact slotq), h4⟩
          · exact subq
          · omega
          · exact slotq
          · exact slotq
          · exact slotq
          · exact slotq
          · exact slotq
          · rw [gridP, if_pos (by omega), if_pos (by omega), hps]
          · simp; omega
          · omega
        · repeat (first | intro id | refine goc ?_)
          refine WpO.weak (WpO.mono (ih (k + 1) _ _ _ _ _ ?_ ?_ ?_ ?_ ?_ ?_ ?_ ?_ ?_ hb1) ?_) ?_
          rotate_left 9
          · rintro ex t' L' ⟨h1, h2, h3, h4⟩
            exact ⟨h1, h2, h3.trans (by exact slotq), h4⟩
          · exact subq
          · omega
          · exact slotq
          · exact slotq
          · exact slotq
          · exact slotq
          · exact slotq
          · rw [gridP, if_pos (by omega), if_neg (by omega), hps, List.append_nil]
          · simp; omega
          · omega
      · repeat (first | intro id | refine goc ?_)
        refine wo_cond_if (by exact slotq) (fun hc => ?_) (fun hc => ?_) <;> (try simp only [decide_eq_true_eq, decide_eq_false_iff_not, ne_eq, Decidable.not_not] at hc)
        · repeat (first | intro id | refine goc ?_)
          have hb2 := hb.pushed (id := id) (nw := [aint k, aint ((k + w : Nat) : Int)]) rfl rfl
          rw [← pcells_snoc] at hb2 ⊢
          refine WpO.weak (WpO.mono (ih (k + 1) _ _ _ _ _ ?_ ?_ ?_ ?_ ?_ ?_ ?_ ?_ ?_ hb2) ?_) ?_
          rotate_left 9
          · rintro ex t' L' ⟨h1, h2, h3, h4⟩
            exact ⟨h1, h2, h3.trans (by exact slotq), h4⟩
          · exact subq
          · omega
          · exact slotq
          · exact slotq
          · exact slotq
          · exact slotq
          · exact slotq
          · rw [gridP, if_neg (by omega), if_pos (by omega), hps, List.append_nil]
          · simp; omega
          · omega
        · repeat (first | intro id | refine goc ?_)
          refine WpO.weak (WpO.mono (ih (k + 1) _ _ _ _ _ ?_ ?_ ?_ ?_ ?_ ?_ ?_ ?_ ?_ hb) ?_) ?_
          rotate_left 9
          · rintro ex t' L' ⟨h1, h2, h3, h4⟩
            exact ⟨h1, h2, h3.trans (by exact slotq), h4⟩
          · exact subq
          · omega
          · exact slotq
          · exact slotq
          · exact slotq
          · exact slotq
          · exact slotq
          · rw [gridP, if_neg (by omega), if_neg (by omega), hps, List.append_nil, List.append_nil]
          · omega
          · omega
    · omega
theorem refGrid_loop {w h N i6 : Nat} (hw : 0 < w) (hw6 : w ≤ 64) (hN : N ≤ 64) (hNw : w * h = N) : ∀ (d k : Nat) (t : Tr AVal) (a : AVal) (B : Hp) (ps : List (Int × Int)) (n : Nat), d + k = N → t.get 0 = some (aint w) → t.get 1 = some (aint h) → t.get 6 = some (.ptr i6 0) → t.get 7 = some (aint k) →
    ps = gridP w h k → n = ps.length → n ≤ 2 * k → BufO 2 a (pcells ps) n B →
    WpO E (.loop c_phasorref20_Grid_l0) t ((i6, [aint N, a]) :: (B ++ L)) (fun ex t' L' => ex = .exit 0 ∧ t'.get 6 = some (.ptr i6 0) ∧ t'.get 4 = t.get 4 ∧ ∃ a' B', BufO 2 a' (pcells (gridP w h N)) (gridP w h N).length B' ∧ L' = (i6, [aint N, a']) :: (B' ++ L)) := by
  intro d
  induction d with
  | zero =>
    intro k t a B ps n hk h0 h1 h6 h7 hps hn hn2 hb
    obtain rfl : k = N := by omega
    refine wo_loop ?_
    repeat (first | intro id | refine goc ?_)
    refine wo_cond_if (by exact slotq) (fun hc => ?_) (fun hc => ?_) <;> (try simp only [decide_eq_true_eq, decide_eq_false_iff_not, ne_eq, Decidable.not_not] at hc)
    · omega
    · repeat (first | intro id | refine goc ?_)
      exact ⟨rfl, by exact slotq, by exact slotq, a, B, by rw [← hps, ← hn]; exact hb, rfl⟩
  | succ d ih =>
    intro k t a B ps n hk h0 h1 h6 h7 hps hn hn2 hb
    refine wo_loop ?_
    have e1 : k % w < w := Nat.mod_lt k hw
    have e2 : k / w + 1 < h ↔ k + w < w * h := by
      rw [← Nat.add_div_right k hw, Nat.div_lt_iff_lt_mul hw, Nat.mul_comm]
    repeat (first | intro id | refine goc ?_)
    refine wo_cond_if (by exact slotq) (fun hc => ?_) (fun hc => ?_) <;> (try simp only [decide_eq_true_eq, decide_eq_false_iff_not, ne_eq, Decidable.not_not] at hc)
    · repeat (first | intro id | refine goc ?_)
      refine wo_cond_if (by exact slotq) (fun hc => ?_) (fun hc => ?_) <;> (try simp only [decide_eq_true_eq, decide_eq_false_iff_not, ne_eq, Decidable.not_not] at hc)
      · repeat (first | intro id | refine goc ?_)
        have hb1 := hb.pushed (id := id) (nw := [aint k, aint ((k + 1 : Nat) : Int)]) rfl rfl
        rw [← pcells_snoc] at hb1 ⊢
        refine wo_cond_if (by exact slotq) (fun hc => ?_) (fun hc => ?_) <;> (try simp only [decide_eq_true_eq, decide_eq_false_iff_not, ne_eq, Decidable.not_not] at hc)
        · repeat (first | intro id | refine goc ?_)
          have hb2 := hb1.pushed (id := id) (nw := [aint k, aint ((k + w : Nat) : Int)]) rfl rfl
          rw [← pcells_snoc] at hb2 ⊢
          refine WpO.weak (WpO.mono (ih (k + 1) _ _ _ _ _ ?_ ?_ ?_ ?_ ?_ ?_ ?_ ?_ hb2) ?_) ?_
          rotate_left 8
          · rintro ex t' L' ⟨h1, h2, h3, h4⟩
            exact ⟨h1, h2, h3.trans (by exact slotq), h4⟩
          · exact subq
          · omega
          · exact slotq
          · exact slotq
          · exact slotq
          · exact slotq
          · rw [gridP, if_pos (by omega), if_pos (by omega), hps]
          · simp; omega
          · omega
        · repeat (first | intro id | refine goc ?_)
          refine WpO.weak (WpO.mono (ih (k + 1) _ _ _ _ _ ?_ ?_ ?_ ?_ ?_ ?_ ?_ ?_ hb1) ?_) ?_
          rotate_left 8
          · rintro ex t' L' ⟨h1, h2, h3, h4⟩
            exact ⟨h1, h2, h3.trans (by exact slotq), h4⟩
          · exact subq
          · omega
          · exact slotq
          · exact slotq
          · exact slotq
          · exact slotq
          · rw [gridP, if_pos (by omega), if_neg (by omega), hps, List.append_nil]
          · simp; omega
          · omega
      · repeat (first | intro id | refine goc ?_)
        refine wo_cond_if (by exact slotq) (fun hc => ?_) (fun hc => ?_) <;> (try simp only [decide_eq_true_eq, decide_eq_false_iff_not, ne_eq, Decidable.not_not] at hc)
        · repeat (first | intro id | refine goc ?_)
          have hb2 := hb.pushed (id := id) (nw := [aint k, aint ((k + w : Nat) : Int)]) rfl rfl
          rw [← pcells_snoc] at hb2 ⊢
          refine WpO.weak (WpO.mono (ih (k + 1) _ _ _ _ _ ?_ ?_ ?_ ?_ ?_ ?_ ?_ ?_ hb2) ?_) ?_
          rotate_left 8
          · rintro ex t' L' ⟨h1, h2, h3, h4⟩
            exact ⟨h1, h2, h3.trans (by exact slotq), h4⟩
          · exact subq
          · omega
          · exact slotq
          · exact slotq
          · exact slotq
          · exact slotq
          · rw [gridP, if_neg (by omega), if_pos (by omega), hps, List.append_nil]
          · simp; omega
          · omega
        · repeat (first | intro id | refine goc ?_)
          refine WpO.weak (WpO.mono (ih (k + 1) _ _ _ _ _ ?_ ?_ ?_ ?_ ?_ ?_ ?_ ?_ hb) ?_) ?_
          rotate_left 8
          · rintro ex t' L' ⟨h1, h2, h3, h4⟩
            exact ⟨h1, h2, h3.trans (by exact slotq), h4⟩
          · exact subq
          · omega
          · exact slotq
          · exact slotq
          · exact slotq
          · exact slotq
          · rw [gridP, if_neg (by omega), if_neg (by omega), hps, List.append_nil, List.append_nil]
          · omega
          · omega
    · omega

theorem Grid_ok (hF : E.fns = fnsT) (hm : E.mode f_route_Grid = .iso true) (w h : Int) : CallO E f_route_Grid [aint w, aint h] L fun v L' => MapE (gridS w h) v ∧ L' = L := by
  refine callO_iso1 hm (fns_of hF n_route_Grid) rfl ?_
  have bad : ¬((1 ≤ w ∧ w ≤ 64) ∧ (1 ≤ h ∧ h ≤ 64) ∧ w * h ≤ 64) → gridS w h = (0, [], 2) := fun h => by unfold gridS; rw [if_neg h]
  refine bodyO_of (Nat.le_of_ble_eq_true rfl) ?_; generalize ht : argSlots _ 0 .nil = t; have h0 : t.get 0 = some _ := (by rw [← ht]; rfl); have h1 : t.get 1 = some _ := (by rw [← ht]; rfl); clear ht
  by_cases hin : (1 ≤ w ∧ w ≤ 64) ∧ (1 ≤ h ∧ h ≤ 64)
  · obtain ⟨p, rfl⟩ : ∃ k : Nat, w = k := ⟨w.toNat, by omega⟩
    obtain ⟨q, rfl⟩ : ∃ k : Nat, h = k := ⟨h.toNat, by omega⟩
    have hpq : p * q ≤ 64 * 64 := Nat.mul_le_mul (by omega) (by omega)
    rw [← Int.natCast_mul] at bad
    by_cases h64 : p * q ≤ 64
    · repeat (first | intro id | refine goq ?_)
      rename_i i4
      refine WpO.mono (grid_loop (w := p) (h := q) (N := p * q) (i6 := id) (by omega) (by omega) h64 (p * q) 0 _ anil [] [] 0 rfl ?_ ?_ ?_ ?_ ?_ rfl rfl (Nat.le_refl _) .nil) ?_
      · exact slotq
      · exact slotq
      · exact slotq
      · exact slotq
      · exact slotq
      rintro ex t' L' ⟨rfl, g6, g4, a', B, hb, rfl⟩
      have g4' : t'.get 4 = some (.ptr i4 0) := g4.trans (by exact slotq)
      repeat (first | intro id | refine goq ?_)
      ((first | apply retO_r | apply retO_n); (focus (exact resq)))
      rw [gridS_in (by omega) (by omega) (by omega) (by omega) h64]
      exact mapE_view hb rfl fun _ _ h => .next h.appl
    ·
      repeat (first | intro id | refine goq ?_)
      ((first | apply retO_r | apply retO_n); (focus (exact resq)))
      rw [bad (by omega)]
      exact mapE_view (B := []) (ps := []) .nil rfl (fun _ _ h => nomatch h)
  · have done : ∀ (t' : Tr AVal) (L' : Hp) (i : Nat), t'.get 4 = some (.ptr i 0) → t'.get 5 = some (aint 2) → In i [aint 0, anil] L' → retO c_route_Grid (fun v L' => ∃ u, ViewO L' 64 v u ∧ MapE (gridS w h) u) .ret t' L' := by
      intro t' L' i g4 g5 hi
      ((first | apply retO_r | apply retO_n); (focus (exact resq)))
      rw [bad (by omega)]
      exact mapE_view (B := []) (ps := []) .nil rfl (fun _ _ h => nomatch h)
    by_cases b1 : w < 1
    · repeat (first | intro id | refine goq ?_)
      exact done _ _ id (by exact slotq) (by exact slotq) (by exact inq)
    by_cases b2 : 64 < w
    · repeat (first | intro id | refine goq ?_)
      exact done _ _ id (by exact slotq) (by exact slotq) (by exact inq)
    by_cases b3 : h < 1
    · repeat (first | intro id | refine goq ?_)
      exact done _ _ id (by exact slotq) (by exact slotq) (by exact inq)
    · repeat (first | intro id | refine goq ?_)
      exact done _ _ id (by exact slotq) (by exact slotq) (by exact inq)
theorem refGrid_ok (hF : E.fns = fnsT) (hm : E.mode f_phasorref20_Grid = .iso true) (w h : Int) : CallO E f_phasorref20_Grid [aint w, aint h] L fun v L' => MapE (gridS w h) v ∧ L' = L := by
  refine callO_iso1 hm (fns_of hF n_phasorref20_Grid) rfl ?_
  have bad : ¬((1 ≤ w ∧ w ≤ 64) ∧ (1 ≤ h ∧ h ≤ 64) ∧ w * h ≤ 64) → gridS w h = (0, [], 2) := fun h => by unfold gridS; rw [if_neg h]
  refine bodyO_of (Nat.le_of_ble_eq_true rfl) ?_; generalize ht : argSlots _ 0 .nil = t; have h0 : t.get 0 = some _ := (by rw [← ht]; rfl); have h1 : t.get 1 = some _ := (by rw [← ht]; rfl); clear ht
  by_cases hin : (1 ≤ w ∧ w ≤ 64) ∧ (1 ≤ h ∧ h ≤ 64)
  · obtain ⟨p, rfl⟩ : ∃ k : Nat, w = k := ⟨w.toNat, by omega⟩
    obtain ⟨q, rfl⟩ : ∃ k : Nat, h = k := ⟨h.toNat, by omega⟩
    have hpq : p * q ≤ 64 * 64 := Nat.mul_le_mul (by omega) (by omega)
    rw [← Int.natCast_mul] at bad
    by_cases h64 : p * q ≤ 64
    · repeat (first | intro id | refine goq ?_)
      rename_i i4
      refine WpO.mono (refGrid_loop (w := p) (h := q) (N := p * q) (i6 := id) (by omega) (by omega) h64 rfl (p * q) 0 _ anil [] [] 0 rfl ?_ ?_ ?_ ?_ rfl rfl (Nat.le_refl _) .nil) ?_
      · exact slotq
      · exact slotq
      · exact slotq
      · exact slotq
      rintro ex t' L' ⟨rfl, g6, g4, a', B, hb, rfl⟩
      have g4' : t'.get 4 = some (.ptr i4 0) := g4.trans (by exact slotq)
      repeat (first | intro id | refine goq ?_)
      ((first | apply retO_r | apply retO_n); (focus (exact resq)))
      rw [gridS_in (by omega) (by omega) (by omega) (by omega) h64]
      exact mapE_view hb rfl fun _ _ h => .next h.appl
    ·
      repeat (first | intro id | refine goq ?_)
      ((first | apply retO_r | apply retO_n); (focus (exact resq)))
      rw [bad (by omega)]
      exact mapE_view (B := []) (ps := []) .nil rfl (fun _ _ h => nomatch h)
  · have done : ∀ (t' : Tr AVal) (L' : Hp) (i : Nat), t'.get 4 = some (.ptr i 0) → t'.get 5 = some (aint 2) → In i [aint 0, anil] L' → retO c_phasorref20_Grid (fun v L' => ∃ u, ViewO L' 64 v u ∧ MapE (gridS w h) u) .ret t' L' := by
      intro t' L' i g4 g5 hi
      ((first | apply retO_r | apply retO_n); (focus (exact resq)))
      rw [bad (by omega)]
      exact mapE_view (B := []) (ps := []) .nil rfl (fun _ _ h => nomatch h)
    by_cases b1 : w < 1
    · repeat (first | intro id | refine goq ?_)
      exact done _ _ id (by exact slotq) (by exact slotq) (by exact inq)
    by_cases b2 : 64 < w
    · repeat (first | intro id | refine goq ?_)
      exact done _ _ id (by exact slotq) (by exact slotq) (by exact inq)
    by_cases b3 : h < 1
    · repeat (first | intro id | refine goq ?_)
      exact done _ _ id (by exact slotq) (by exact slotq) (by exact inq)
    · repeat (first | intro id | refine goq ?_)
      exact done _ _ id (by exact slotq) (by exact slotq) (by exact inq)
end Go.Proofs.Ytfaphhcloanhnaa
