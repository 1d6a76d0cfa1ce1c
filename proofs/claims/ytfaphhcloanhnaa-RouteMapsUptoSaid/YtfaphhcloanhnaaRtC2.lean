/- Lines, rings. -/
import Derived.Test.YtfaphhcloanhnaaRtC1
namespace Go.Proofs.Ytfaphhcloanhnaa
open Go.Am
set_option linter.unusedVariables false
set_option linter.unusedSimpArgs false
set_option maxRecDepth 4000
set_option maxHeartbeats 4000000
variable {E : Env} {L : Hp}
def lineP (k : Nat) : List (Int × Int) := (List.range k).map fun (i : Nat) => ((i : Int), ((i + 1 : Nat) : Int))
theorem lineP_succ (k : Nat) : pcells (lineP (k + 1)) = pcells (lineP k) ++ [aint k, aint ((k + 1 : Nat) : Int)] := by
  unfold lineP
  rw [List.range_succ, List.map_append, ← pcells_app]
  rfl
theorem lineP_length (k : Nat) : (lineP k).length = k := by simp [lineP]

theorem line_loop {N : Nat} (hN : N < 64) : ∀ (d k : Nat) (t : Tr AVal) (a : AVal) (B : Hp), d + k = N → t.get 6 = some (aint N) → t.get 7 = some (aint k) → t.get 3 = some a → BufO 2 a (pcells (lineP k)) k B →
    WpO E (.loop c_route_line_l0) t (B ++ L) (fun ex t' L' => ex = .exit 0 ∧ ∃ a' B', t'.get 3 = some a' ∧ BufO 2 a' (pcells (lineP N)) N B' ∧ L' = B' ++ L) := by
  intro d
  induction d with
  | zero =>
    intro k t a B hk h6 h7 h3 hb
    obtain rfl : k = N := by omega
    refine wo_loop ?_
    repeat (first | intro id | refine goc ?_)
    refine wo_cond_if (by exact slotq) (fun hc => ?_) (fun hc => ?_) <;> (try simp only [decide_eq_true_eq, decide_eq_false_iff_not, ne_eq, Decidable.not_not] at hc)
    · omega
    · repeat (first | intro id | refine goc ?_)
      exact ⟨rfl, a, B, by exact slotq, hb, rfl⟩
  | succ d ih =>
    intro k t a B hk h6 h7 h3 hb
    refine wo_loop ?_
    repeat (first | intro id | refine goc ?_)
    refine wo_cond_if (by exact slotq) (fun hc => ?_) (fun hc => ?_) <;> (try simp only [decide_eq_true_eq, decide_eq_false_iff_not, ne_eq, Decidable.not_not] at hc)
    · repeat (first | intro id | refine goc ?_)
      have hb' := hb.pushed (id := id) (nw := [aint k, aint ((k + 1 : Nat) : Int)]) rfl rfl
      rw [← lineP_succ] at hb' ⊢
      refine WpO.weak (ih (k + 1) _ _ _ ?_ ?_ ?_ ?_ hb') ?_
      · omega
      · exact slotq
      · exact slotq
      · exact slotq
      · exact subq
    · omega

theorem line_ok (hF : E.fns = fnsT) (hm : E.mode f_route_line = .open_) {n : Nat} (h1 : 1 ≤ n) (h2 : n ≤ 64) : CallO E f_route_line [aint n] L fun v L' => ∃ B, BufO 2 v (pcells (lineP (n - 1))) (n - 1) B ∧ L' = B ++ L := by
  refine callO_open hm (fns_of hF n_route_line) ?_
  refine bodyO_of (Nat.le_of_ble_eq_true rfl) ?_; generalize ht : argSlots _ 0 .nil = t; have h0 : t.get 0 = some _ := (by rw [← ht]; rfl); clear ht
  repeat (first | intro id | refine goc ?_)
  refine (line_loop (N := n - 1) (by omega) (n - 1) 0 _ anil [] (by omega) (by exact slotq) (by exact slotq) (by exact slotq) .nil).mono fun ex t' L' ⟨hex, a, B, ha, hb, hL⟩ => ?_
  subst hex
  repeat (first | intro id | refine goc ?_)
  ((first | apply retO_r | apply retO_n); (focus (exact resq)))
  exact ⟨B, hb, hL⟩

/-- A map's places, its pairs, a number. -/
abbrev MapR := Int × List (Int × Int) × Int
def lineS (n : Int) : MapR := if 1 ≤ n ∧ n ≤ 64 then (n, lineP (n.toNat - 1), 0) else (0, [], 2)
def MapE (r : MapR) (v : AVal) : Prop := ∃ a, v = .tup [a, aint r.2.2] ∧ MapA a r.1 r.2.1
def MapB (r : MapR) (v : AVal) (B : Hp) : Prop := ∃ a, v = .tup [.agg [aint r.1, a], aint r.2.2] ∧ BufO 2 a (pcells r.2.1) r.2.1.length B
theorem lineS_in {n : Nat} (h1 : 1 ≤ n) (h2 : n ≤ 64) : lineS (n : Int) = ((n : Int), lineP (n - 1), 0) := by
  unfold lineS
  rw [if_pos ⟨by omega, by omega⟩]
  rfl
theorem mapE_view {N e : Int} {a : AVal} {ps : List (Int × Int)} {n : Nat} {B : Hp} (hb : BufO 2 a (pcells ps) n B) (hn : n = ps.length) (hB : ∀ id c, In id c B → In id c L) : ∃ u, ViewO L 64 (.tup [.agg [aint N, a], aint e]) u ∧ MapE (N, ps, e) u := by
  obtain ⟨u, h1, s, h2, h3⟩ := mapE_viewO (N := N) (e := e) hb hB
  subst hn
  exact ⟨u, h1, _, h2, s, rfl, h3⟩

theorem Line_ok (hF : E.fns = fnsT) (hm : E.mode f_route_Line = .iso true) (hml : E.mode f_route_line = .open_) (n : Int) : CallO E f_route_Line [aint n] L fun v L' => MapE (lineS n) v ∧ L' = L := by
  refine callO_iso1 hm (fns_of hF n_route_Line) rfl ?_
  have bad : ¬(1 ≤ n ∧ n ≤ 64) → lineS n = (0, [], 2) := fun h => by unfold lineS; rw [if_neg h]
  refine bodyO_of (Nat.le_of_ble_eq_true rfl) ?_; generalize ht : argSlots _ 0 .nil = t; have h0 : t.get 0 = some _ := (by rw [← ht]; rfl); clear ht
  repeat (first | intro id | refine goc ?_)
  (refine oo_guard (by exact slotq) (fun hc => ?_) (fun hc => ?_) <;> (try simp only [hc]) <;> (try simp only [decide_eq_true_eq, decide_eq_false_iff_not, ne_eq, Decidable.not_not] at hc))
  · repeat (first | intro id | refine goc ?_)
    refine wo_cond_if (by exact slotq) (fun hc => ?_) (fun hc => ?_) <;> (try simp only [decide_eq_true_eq, decide_eq_false_iff_not, ne_eq, Decidable.not_not] at hc)
    · repeat (first | intro id | refine goc ?_)
      ((first | apply retO_r | apply retO_n); (focus (exact resq)))
      rw [bad (by omega)]
      exact mapE_view (B := []) (ps := []) .nil rfl (fun _ _ h => nomatch h)
    · (first | omega | (exact absurd hc (by decide)) | (simp at hc; done) | contradiction)
  · repeat (first | intro id | refine goc ?_)
    refine wo_cond_if (by exact slotq) (fun hc => ?_) (fun hc => ?_) <;> (try simp only [decide_eq_true_eq, decide_eq_false_iff_not, ne_eq, Decidable.not_not] at hc)
    · repeat (first | intro id | refine goc ?_)
      ((first | apply retO_r | apply retO_n); (focus (exact resq)))
      rw [bad (by omega)]
      exact mapE_view (B := []) (ps := []) .nil rfl (fun _ _ h => nomatch h)
    · obtain ⟨k, rfl⟩ : ∃ k : Nat, n = k := ⟨n.toNat, by omega⟩
      repeat (first | intro id | refine goc ?_)
      refine gok ?_
      refine (line_ok hF hml (by omega) (by omega)).mono ?_
      rintro v L' ⟨B, hb, rfl⟩
      repeat (first | intro id | refine goc ?_)
      ((first | apply retO_r | apply retO_n); (focus (exact resq)))
      rw [lineS_in (by omega) (by omega)]
      exact mapE_view hb (lineP_length _).symm fun _ _ h => h.appl

theorem refLine_loop {N i4 : Nat} (hN : N ≤ 64) : ∀ (d k : Nat) (t : Tr AVal) (a : AVal) (B : Hp), d + k + 1 = N → t.get 0 = some (aint N) → t.get 5 = some (aint k) → t.get 4 = some (.ptr i4 0) → BufO 2 a (pcells (lineP k)) k B →
    WpO E (.loop c_phasorref20_Line_l0) t ((i4, [aint N, a]) :: (B ++ L)) (fun ex t' L' => ex = .exit 0 ∧ t'.get 4 = some (.ptr i4 0) ∧ t'.get 2 = t.get 2 ∧ ∃ a' B', BufO 2 a' (pcells (lineP (N - 1))) (N - 1) B' ∧ L' = (i4, [aint N, a']) :: (B' ++ L)) := by
  intro d
  induction d with
  | zero =>
    intro k t a B hk h0 h5 h4 hb
    obtain rfl : k = N - 1 := by omega
    refine wo_loop ?_
    repeat (first | intro id | refine goc ?_)
    refine wo_cond_if (by exact slotq) (fun hc => ?_) (fun hc => ?_) <;> (try simp only [decide_eq_true_eq, decide_eq_false_iff_not, ne_eq, Decidable.not_not] at hc)
    · omega
    · repeat (first | intro id | refine goc ?_)
      exact ⟨rfl, by exact slotq, by exact slotq, a, B, hb, rfl⟩
  | succ d ih =>
    intro k t a B hk h0 h5 h4 hb
    refine wo_loop ?_
    repeat (first | intro id | refine goc ?_)
    refine wo_cond_if (by exact slotq) (fun hc => ?_) (fun hc => ?_) <;> (try simp only [decide_eq_true_eq, decide_eq_false_iff_not, ne_eq, Decidable.not_not] at hc)
    · repeat (first | intro id | refine goc ?_)
      have hb' := hb.pushed (id := id) (nw := [aint k, aint ((k + 1 : Nat) : Int)]) rfl rfl
      rw [← lineP_succ] at hb' ⊢
      refine WpO.weak (WpO.mono (ih (k + 1) _ _ _ ?_ ?_ ?_ ?_ hb') ?_) ?_
      rotate_left 4
      · rintro ex t' L' ⟨h1, h2, h3, h4⟩
        exact ⟨h1, h2, h3.trans (by exact slotq), h4⟩
      · exact subq
      · omega
      · exact slotq
      · exact slotq
      · exact slotq
    · omega
end Go.Proofs.Ytfaphhcloanhnaa
