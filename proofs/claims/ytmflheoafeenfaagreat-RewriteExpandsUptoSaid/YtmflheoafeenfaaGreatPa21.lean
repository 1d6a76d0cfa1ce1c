/- Parts of the proof, joined by program: CiCH, CiCM, CiCR1, CiCR2, CiCR3. -/
import Derived.Test.YtmflheoafeenfaaGreatPa20
set_option linter.unusedSimpArgs false
set_option linter.unusedVariables false
namespace Go.Proofs.YtmflheoafeenfaaGreat
open Go.Am
set_option maxRecDepth 4000
set_option maxHeartbeats 4000000
variable {E : Env} {L : Hp}
theorem Qs_snoc {n : Int} {l : List Int} {k : Nat} (h : ∀ i, i < k → okAt n l i) (hk : okAt n l k) : ∀ i, i < k + 1 → okAt n l i := by
  intro i hi
  by_cases e : i = k
  · subst e; exact hk
  · exact h i (by omega)
theorem gcheck_loop (hF : E.fns = fnsT) (hmc : E.mode f_slices_Contains_int_int = .iso false) (hmi : E.mode f_slices_Index_int_int = .iso false) {v : AVal} {qs : List Int} {n : Int} (hq : SlI v qs) (hlt : qs.length < 2 ^ 62) :
    ∀ (d k : Nat) (t : Tr AVal), d + k = qs.length → t.get 1 = some v → t.get 2 = some (aint n) → t.get 17 = some v → t.get 18 = some (aint qs.length) → t.get 19 = some (aint k) → (∀ i, i < k → okAt n qs i) →
    WpO E (.loop c_gate_Check_l0) t L (fun ex t' L' => (ex = .exit 0 ∧ Qs n qs) ∨ (ex = .ret ∧ t'.get 6 = some (aint 61) ∧ ¬ Qs n qs)) := by
  intro d
  induction d with
  | zero =>
    intro k t hk h1 h2 h17 h18 h19 hok
    obtain rfl : k = qs.length := by omega
    refine wo_loop ?_
    repeat (first | intro id | refine goq ?_)
    exact .inl ⟨rfl, hok⟩
  | succ d ih =>
    intro k t hk h1 h2 h17 h18 h19 hok
    have hkl : k < qs.length := by omega
    have hat := okAt_iff (n := n) hkl
    have hbad : ¬ okAt n qs k → ¬ Qs n qs := fun h hh => h (hh k hkl)
    refine wo_loop ?_
    by_cases c1 : qs.getD k 0 < 0
    · repeat (first | intro id | refine goq ?_)
      exact .inr ⟨rfl, by exact slotq, hbad fun h => by have := hat.1 h; omega⟩
    by_cases c2 : n ≤ qs.getD k 0
    · repeat (first | intro id | refine goq ?_)
      exact .inr ⟨rfl, by exact slotq, hbad fun h => by have := hat.1 h; omega⟩
    repeat (first | intro id | refine goq ?_)
    refine gok ?_
    have hh := hiI_is hq (Nat.le_of_lt hkl)
    refine (contains_ok hF hmc hmi (vs_bare (bare_SlI hh) (vs_bare rfl vs_nil)) hh (by rw [List.length_take]; omega)).mono ?_
    rintro r L' ⟨rfl, rfl⟩
    by_cases c3 : qs.getD k 0 ∈ qs.take k
    · rw [decide_eq_true c3]
      repeat (first | intro id | refine goq ?_)
      exact .inr ⟨rfl, by exact slotq, hbad fun h => (hat.1 h).2.2 c3⟩
    · rw [decide_eq_false c3]
      repeat (first | intro id | refine goq ?_)
      exact ih (k + 1) _ (by omega) (by exact slotq) (by exact slotq) (by exact slotq) (by exact slotq) (by exact slotq) (Qs_snoc hok (hat.2 ⟨by omega, by omega, c3⟩))
theorem gCheck_ok (hF : E.fns = fnsT) (hm : E.mode f_gate_Check = .iso false) (hma : E.mode f_gate_Arity = .iso false) (hmo : E.mode f_gate_of = .iso false) (hmt : E.mode f_gate_table = .iso false) (hmc : E.mode f_slices_Contains_int_int = .iso false) (hmi : E.mode f_slices_Index_int_int = .iso false)
    {k n : Int} {v : AVal} {qs : List Int} (hq : SlI v qs) (hlt : qs.length < 2 ^ 62) : CallO E f_gate_Check [aint k, v, aint n] L fun r L' => (∃ e, r = aint e ∧ gateE k qs n e) ∧ L' = L := by
  refine callO_iso0 (R := fun r => ∃ e, r = aint e ∧ gateE k qs n e) hm (fns_of hF n_gate_Check) (vs_bare rfl (vs_bare (bare_SlI hq) (vs_bare rfl vs_nil))) ?_
  have hq1 := RowA.isOne hq
  refine bodyO_of (Nat.le_of_ble_eq_true rfl) ?_; generalize ht : argSlots _ 0 .nil = t; have h0 : t.get 0 = some _ := (by rw [← ht]; rfl); have h1 : t.get 1 = some _ := (by rw [← ht]; rfl); have h2 : t.get 2 = some _ := (by rw [← ht]; rfl); clear ht
  repeat (first | intro id | refine goq ?_)
  refine gok ?_
  refine (Arity_ok hF hma hmo hmt).mono ?_
  rintro r L' ⟨rfl, rfl⟩
  by_cases h0 : arity k = 0
  · repeat (first | intro id | refine goq ?_)
    ((first | apply retO_r | apply retO_n); (focus (exact resq)))
    exact ⟨rfl, 60, rfl, .inr (.inl ⟨rfl, h0⟩)⟩
  repeat (first | intro id | refine goq ?_)
  refine gok ?_
  refine (Arity_ok hF hma hmo hmt).mono ?_
  rintro r L' ⟨rfl, rfl⟩
  by_cases h1 : (qs.length : Int) = arity k
  · repeat (first | intro id | refine goq ?_)
    refine WpO.mono (gcheck_loop hF hmc hmi hq hlt qs.length 0 _ (by omega) (by exact slotq) (by exact slotq) (by exact slotq) (by exact slotq) (by exact slotq) (fun i hi => by omega)) ?_
    rintro ex t' L' (⟨rfl, hQ⟩ | ⟨rfl, g6, hQ⟩)
    · repeat (first | intro id | refine goq ?_)
      ((first | apply retO_r | apply retO_n); (focus (exact resq)))
      exact ⟨rfl, 0, rfl, .inl ⟨rfl, h0, h1, hQ⟩⟩
    · repeat (first | intro id | refine goq ?_)
      ((first | apply retO_r | apply retO_n); (focus (exact resq)))
      exact ⟨rfl, 61, rfl, .inr (.inr ⟨rfl, h0, fun h => hQ h.2⟩)⟩
  · repeat (first | intro id | refine goq ?_)
    ((first | apply retO_r | apply retO_n); (focus (exact resq)))
    exact ⟨rfl, 61, rfl, .inr (.inr ⟨rfl, h0, fun h => h1 h.1⟩)⟩

/-! The document's way -/
theorem rcheck_l0 {v : AVal} {qs : List Int} {n : Int} (hq : SlI v qs) {i : Nat} (hi : i < qs.length) (hlt : qs.length < 2 ^ 62) :
    ∀ (d k : Nat) (t : Tr AVal), d + k = i → t.get 1 = some v → t.get 7 = some (aint i) → t.get 8 = some (aint k) → (∀ j, j < k → qs.getD j 0 ≠ qs.getD i 0) →
    WpO E (.loop c_phasorref06_Check_l0) t L (fun ex t' L' => (ex = .exit 2 ∧ L' = L ∧ Keep [1, 2, 7] t t' ∧ (∀ j, j < i → qs.getD j 0 ≠ qs.getD i 0)) ∨ (ex = .ret ∧ t'.get 6 = some (aint 61) ∧ ¬ (∀ j, j < i → qs.getD j 0 ≠ qs.getD i 0))) := by
  intro d
  induction d with
  | zero =>
    intro k t hk h1 h7 h8 hok
    obtain rfl : k = i := by omega
    refine wo_loop ?_
    repeat (first | intro id | refine goq ?_)
    exact .inl ⟨rfl, rfl, by exact keepq, hok⟩
  | succ d ih =>
    intro k t hk h1 h7 h8 hok
    refine wo_loop ?_
    by_cases c : qs.getD k 0 = qs.getD i 0
    · have c' := c.symm
      repeat (first | intro id | refine goq ?_)
      exact .inr ⟨rfl, by exact slotq, fun h => h k (by omega) c⟩
    · repeat (first | intro id | refine goq ?_)
      refine WpO.mono (ih (k + 1) _ (by omega) (by exact slotq) (by exact slotq) (by exact slotq) ?_) ?_
      · intro j hj
        by_cases e : j = k
        · subst e; exact c
        · exact hok j (by omega)
      · rintro ex t' L' (⟨e1, e0, e2, e3⟩ | h)
        · exact .inl ⟨e1, e0, Keep.trans (by exact keepq) e2, e3⟩
        · exact .inr h
theorem rcheck_l1 {v : AVal} {qs : List Int} {n : Int} (hq : SlI v qs) (hlt : qs.length < 2 ^ 62) :
    ∀ (d k : Nat) (t : Tr AVal), d + k = qs.length → t.get 1 = some v → t.get 2 = some (aint n) → t.get 7 = some (aint k) → (∀ i, i < k → okAt n qs i) →
    WpO E (.loop c_phasorref06_Check_l1) t L (fun ex t' L' => (ex = .exit 0 ∧ Qs n qs) ∨ (ex = .ret ∧ t'.get 6 = some (aint 61) ∧ ¬ Qs n qs)) := by
  intro d
  induction d with
  | zero =>
    intro k t hk h1 h2 h7 hok
    obtain rfl : k = qs.length := by omega
    refine wo_loop ?_
    repeat (first | intro id | refine goq ?_)
    exact .inl ⟨rfl, hok⟩
  | succ d ih =>
    intro k t hk h1 h2 h7 hok
    have hkl : k < qs.length := by omega
    have hbad : ¬ okAt n qs k → ¬ Qs n qs := fun h hh => h (hh k hkl)
    refine wo_loop ?_
    by_cases c1 : qs.getD k 0 < 0
    · repeat (first | intro id | refine goq ?_)
      exact .inr ⟨rfl, by exact slotq, hbad fun h => by have := h.1; omega⟩
    by_cases c2 : n ≤ qs.getD k 0
    · repeat (first | intro id | refine goq ?_)
      exact .inr ⟨rfl, by exact slotq, hbad fun h => by have := h.2.1; omega⟩
    repeat (first | intro id | refine goq ?_)
    refine WpO.mono (rcheck_l0 (n := n) hq hkl hlt k 0 _ (by omega) ?_ ?_ ?_ (fun j hj => by omega)) ?_
    · exact slotq
    · exact slotq
    · exact slotq
    rintro ex t' L' (⟨rfl, rfl, hK, hno⟩ | ⟨rfl, g6, hno⟩)
    · have g1 : t'.get 1 = some v := (hK.ex 1 rfl).trans (by exact slotq)
      have g2 : t'.get 2 = some (aint n) := (hK.ex 2 rfl).trans (by exact slotq)
      have g7 : t'.get 7 = some (aint k) := (hK.ex 7 rfl).trans (by exact slotq)
      repeat (first | intro id | refine goq ?_)
      exact ih (k + 1) _ (by omega) (by exact slotq) (by exact slotq) (by exact slotq) (Qs_snoc hok ⟨by omega, by omega, hno⟩)
    · repeat (first | intro id | refine goq ?_)
      exact .inr ⟨rfl, by exact slotq, hbad fun h => hno h.2.2⟩
theorem rCheck_ok (hF : E.fns = fnsT) (hm : E.mode f_phasorref06_Check = .iso false) (hma : E.mode f_phasorref06_Arity = .iso false) (hmi : E.mode f_phasorref06_Is = .iso false)
    {k n : Int} {v : AVal} {qs : List Int} (hq : SlI v qs) (hlt : qs.length < 2 ^ 62) : CallO E f_phasorref06_Check [aint k, v, aint n] L fun r L' => (∃ e, r = aint e ∧ gateE k qs n e) ∧ L' = L := by
  refine callO_iso0 (R := fun r => ∃ e, r = aint e ∧ gateE k qs n e) hm (fns_of hF n_phasorref06_Check) (vs_bare rfl (vs_bare (bare_SlI hq) (vs_bare rfl vs_nil))) ?_
  have hq1 := RowA.isOne hq
  refine bodyO_of (Nat.le_of_ble_eq_true rfl) ?_; generalize ht : argSlots _ 0 .nil = t; have h0 : t.get 0 = some _ := (by rw [← ht]; rfl); have h1 : t.get 1 = some _ := (by rw [← ht]; rfl); have h2 : t.get 2 = some _ := (by rw [← ht]; rfl); clear ht
  repeat (first | intro id | refine goq ?_)
  refine gok ?_
  refine (Is_ok hF hmi).mono ?_
  rintro r L' ⟨rfl, rfl⟩
  by_cases h0 : arity k = 0
  · rw [decide_eq_false (by simpa using h0)]
    repeat (first | intro id | refine goq ?_)
    ((first | apply retO_r | apply retO_n); (focus (exact resq)))
    exact ⟨rfl, 60, rfl, .inr (.inl ⟨rfl, h0⟩)⟩
  rw [decide_eq_true h0]
  repeat (first | intro id | refine goq ?_)
  refine gok ?_
  refine (refArity_ok hF hma hmi).mono ?_
  rintro r L' ⟨rfl, rfl⟩
  by_cases h1 : (qs.length : Int) = arity k
  · repeat (first | intro id | refine goq ?_)
    refine WpO.mono (rcheck_l1 hq hlt qs.length 0 _ (by omega) (by exact slotq) (by exact slotq) (by exact slotq) (fun i hi => by omega)) ?_
    rintro ex t' L' (⟨rfl, hQ⟩ | ⟨rfl, g6, hQ⟩)
    · repeat (first | intro id | refine goq ?_)
      ((first | apply retO_r | apply retO_n); (focus (exact resq)))
      exact ⟨rfl, 0, rfl, .inl ⟨rfl, h0, h1, hQ⟩⟩
    · repeat (first | intro id | refine goq ?_)
      ((first | apply retO_r | apply retO_n); (focus (exact resq)))
      exact ⟨rfl, 61, rfl, .inr (.inr ⟨rfl, h0, fun h => hQ h.2⟩)⟩
  · repeat (first | intro id | refine goq ?_)
    ((first | apply retO_r | apply retO_n); (focus (exact resq)))
    exact ⟨rfl, 61, rfl, .inr (.inr ⟨rfl, h0, fun h => h1 h.1⟩)⟩
/-! Unlike numbers -/
theorem unlike_l0 {v : AVal} {qs : List Int} {n : Int} (hq : SlI v qs) {i : Nat} (hi : i < qs.length) (hlt : qs.length < 2 ^ 62) :
    ∀ (d k : Nat) (t : Tr AVal), d + k = i → t.get 0 = some v → t.get 5 = some (aint i) → t.get 6 = some (aint k) → (∀ j, j < k → qs.getD j 0 ≠ qs.getD i 0) →
    WpO E (.loop c_phasorref08_unlike_l0) t L (fun ex t' L' => (ex = .exit 2 ∧ L' = L ∧ Keep [0, 1, 5] t t' ∧ (∀ j, j < i → qs.getD j 0 ≠ qs.getD i 0)) ∨ (ex = .ret ∧ t'.get 4 = some (abool false) ∧ ¬ (∀ j, j < i → qs.getD j 0 ≠ qs.getD i 0))) := by
  intro d
  induction d with
  | zero =>
    intro k t hk h0 h5 h6 hok
    obtain rfl : k = i := by omega
    refine wo_loop ?_
    repeat (first | intro id | refine goq ?_)
    exact .inl ⟨rfl, rfl, by exact keepq, hok⟩
  | succ d ih =>
    intro k t hk h0 h5 h6 hok
    refine wo_loop ?_
    by_cases c : qs.getD k 0 = qs.getD i 0
    · repeat (first | intro id | refine goq ?_)
      exact .inr ⟨rfl, by exact slotq, fun h => h k (by omega) c⟩
    · repeat (first | intro id | refine goq ?_)
      refine WpO.mono (ih (k + 1) _ (by omega) (by exact slotq) (by exact slotq) (by exact slotq) ?_) ?_
      · intro j hj
        by_cases e : j = k
        · subst e; exact c
        · exact hok j (by omega)
      · rintro ex t' L' (⟨e1, e0, e2, e3⟩ | h)
        · exact .inl ⟨e1, e0, Keep.trans (by exact keepq) e2, e3⟩
        · exact .inr h
theorem unlike_l1 {v : AVal} {qs : List Int} {n : Int} (hq : SlI v qs) (hlt : qs.length < 2 ^ 62) :
    ∀ (d k : Nat) (t : Tr AVal), d + k = qs.length → t.get 0 = some v → t.get 1 = some (aint n) → t.get 5 = some (aint k) → (∀ i, i < k → okAt n qs i) →
    WpO E (.loop c_phasorref08_unlike_l1) t L (fun ex t' L' => (ex = .exit 0 ∧ Qs n qs) ∨ (ex = .ret ∧ t'.get 4 = some (abool false) ∧ ¬ Qs n qs)) := by
  intro d
  induction d with
  | zero =>
    intro k t hk h0 h1 h5 hok
    obtain rfl : k = qs.length := by omega
    refine wo_loop ?_
    repeat (first | intro id | refine goq ?_)
    exact .inl ⟨rfl, hok⟩
  | succ d ih =>
    intro k t hk h0 h1 h5 hok
    have hkl : k < qs.length := by omega
    have hbad : ¬ okAt n qs k → ¬ Qs n qs := fun h hh => h (hh k hkl)
    refine wo_loop ?_
    by_cases c1 : qs.getD k 0 < 0
    · repeat (first | intro id | refine goq ?_)
      exact .inr ⟨rfl, by exact slotq, hbad fun h => by have := h.1; omega⟩
    by_cases c2 : n ≤ qs.getD k 0
    · repeat (first | intro id | refine goq ?_)
      exact .inr ⟨rfl, by exact slotq, hbad fun h => by have := h.2.1; omega⟩
    repeat (first | intro id | refine goq ?_)
    refine WpO.mono (unlike_l0 (n := n) hq hkl hlt k 0 _ (by omega) ?_ ?_ ?_ (fun j hj => by omega)) ?_
    · exact slotq
    · exact slotq
    · exact slotq
    rintro ex t' L' (⟨rfl, rfl, hK, hno⟩ | ⟨rfl, g4, hno⟩)
    · have g0 : t'.get 0 = some v := (hK.ex 0 rfl).trans (by exact slotq)
      have g1 : t'.get 1 = some (aint n) := (hK.ex 1 rfl).trans (by exact slotq)
      have g5 : t'.get 5 = some (aint k) := (hK.ex 5 rfl).trans (by exact slotq)
      repeat (first | intro id | refine goq ?_)
      exact ih (k + 1) _ (by omega) (by exact slotq) (by exact slotq) (by exact slotq) (Qs_snoc hok ⟨by omega, by omega, hno⟩)
    · repeat (first | intro id | refine goq ?_)
      exact .inr ⟨rfl, by exact slotq, hbad fun h => hno h.2.2⟩
theorem unlike_ok (hF : E.fns = fnsT) (hm : E.mode f_phasorref08_unlike = .iso false) {n : Int} {v : AVal} {qs : List Int} (hq : SlI v qs) (hlt : qs.length < 2 ^ 62) : CallO E f_phasorref08_unlike [v, aint n] L fun r L' => (∃ b, r = abool b ∧ (b = true ↔ Qs n qs)) ∧ L' = L := by
  refine callO_iso0 (R := fun r => ∃ b, r = abool b ∧ (b = true ↔ Qs n qs)) hm (fns_of hF n_phasorref08_unlike) (vs_bare (bare_SlI hq) (vs_bare rfl vs_nil)) ?_
  have hq1 := RowA.isOne hq
  refine bodyO_of (Nat.le_of_ble_eq_true rfl) ?_; generalize ht : argSlots _ 0 .nil = t; have h0 : t.get 0 = some _ := (by rw [← ht]; rfl); have h1 : t.get 1 = some _ := (by rw [← ht]; rfl); clear ht
  repeat (first | intro id | refine goq ?_)
  refine WpO.mono (unlike_l1 hq hlt qs.length 0 _ (by omega) (by exact slotq) (by exact slotq) (by exact slotq) (fun i hi => by omega)) ?_
  rintro ex t' L' (⟨rfl, hQ⟩ | ⟨rfl, g4, hQ⟩)
  · repeat (first | intro id | refine goq ?_)
    ((first | apply retO_r | apply retO_n); (focus (exact resq)))
    exact ⟨rfl, true, rfl, by simp [hQ]⟩
  · repeat (first | intro id | refine goq ?_)
    ((first | apply retO_r | apply retO_n); (focus (exact resq)))
    exact ⟨rfl, false, rfl, by simp [hQ]⟩
end Go.Proofs.YtmflheoafeenfaaGreat
namespace Go.Proofs.YtmflheoafeenfaaGreat
open Go.Am
set_option maxRecDepth 4000
set_option maxHeartbeats 8000000
variable {E : Env} {L : Hp}
theorem may_l0 (hF : E.fns = fnsT) (hmc : E.mode f_slices_Contains_int_int = .iso false) (hmi : E.mode f_slices_Index_int_int = .iso false) {q : AVal} {o : OpD} {n : Int} {i3 : Nat} (hq : SlI q o.qs) (hlt : o.qs.length < 2 ^ 62) :
    ∀ (d k : Nat) (t : Tr AVal), d + k = o.qs.length → t.get 1 = some (aint n) → t.get 3 = some (.ptr i3 0) → t.get 79 = some q → t.get 80 = some (aint o.qs.length) → t.get 81 = some (aint k) → (∀ i, i < k → okAt n o.qs i) →
    WpO E (.loop c_circuit_may_l0) t ((i3, opCells q o) :: L) (fun ex t' L' => L' = (i3, opCells q o) :: L ∧ ((ex = .exit 0 ∧ Keep [1, 2, 3] t t' ∧ Qs n o.qs) ∨ (ex = .ret ∧ t'.get 6 = some (abool false) ∧ ¬ Qs n o.qs))) := by
  have hq1 := RowA.isOne hq
  unfold opCells
  intro d
  induction d with
  | zero =>
    intro k t hk h1 h3 h79 h80 h81 hok
    obtain rfl : k = o.qs.length := by omega
    refine wo_loop ?_
    repeat (first | intro id | refine goq ?_)
    exact ⟨rfl, .inl ⟨rfl, by exact keepq, hok⟩⟩
  | succ d ih =>
    intro k t hk h1 h3 h79 h80 h81 hok
    have hkl : k < o.qs.length := by omega
    have hat := okAt_iff (n := n) hkl
    have hbad : ¬ okAt n o.qs k → ¬ Qs n o.qs := fun h hh => h (hh k hkl)
    refine wo_loop ?_
    by_cases c1 : o.qs.getD k 0 < 0
    · repeat (first | intro id | refine goq ?_)
      exact ⟨rfl, .inr ⟨rfl, by exact slotq, hbad fun h => by have := hat.1 h; omega⟩⟩
    by_cases c2 : n ≤ o.qs.getD k 0
    · repeat (first | intro id | refine goq ?_)
      exact ⟨rfl, .inr ⟨rfl, by exact slotq, hbad fun h => by have := hat.1 h; omega⟩⟩
    repeat (first | intro id | refine goq ?_)
    refine gok ?_
    have hh := hiI_is hq (Nat.le_of_lt hkl)
    refine (contains_ok hF hmc hmi (vs_bare (bare_SlI hh) (vs_bare rfl vs_nil)) hh (by rw [List.length_take]; omega)).mono ?_
    rintro r L' ⟨rfl, rfl⟩
    by_cases c3 : o.qs.getD k 0 ∈ o.qs.take k
    · rw [decide_eq_true c3]
      repeat (first | intro id | refine goq ?_)
      exact ⟨rfl, .inr ⟨rfl, by exact slotq, hbad fun h => (hat.1 h).2.2 c3⟩⟩
    · rw [decide_eq_false c3]
      repeat (first | intro id | refine goq ?_)
      refine WpO.mono (ih (k + 1) _ (by omega) ?_ ?_ ?_ ?_ ?_ (Qs_snoc hok (hat.2 ⟨by omega, by omega, c3⟩))) ?_
      · exact slotq
      · exact slotq
      · exact slotq
      · exact slotq
      · exact slotq
      · rintro ex t' L' ⟨e0, ⟨e1, e2, e3⟩ | h⟩
        · exact ⟨e0, .inl ⟨e1, Keep.trans (by exact keepq) e2, e3⟩⟩
        · exact ⟨e0, .inr h⟩
theorem may_ok (hF : E.fns = fnsT) (hm : E.mode f_circuit_may = .iso false) (hmg : E.mode f_gate_Check = .iso false) (hma : E.mode f_gate_Arity = .iso false) (hmo : E.mode f_gate_of = .iso false) (hmt : E.mode f_gate_table = .iso false) (hmc : E.mode f_slices_Contains_int_int = .iso false) (hmi : E.mode f_slices_Index_int_int = .iso false)
    {n b : Int} {q : AVal} {o : OpD} (hq : SlI q o.qs) (hlt : o.qs.length < 2 ^ 62) : CallO E f_circuit_may [.agg (opCells q o), aint n, aint b] L fun r L' => (∃ x, r = abool x ∧ (x = true ↔ OpOk o n b)) ∧ L' = L := by
  refine callO_iso0 (R := fun r => ∃ x, r = abool x ∧ (x = true ↔ OpOk o n b)) hm (fns_of hF n_circuit_may) (vs_bare ?_ (vs_bare rfl (vs_bare rfl vs_nil))) ?_
  · simp [opCells, AVal.bare, bareAll, aint, bare_SlI hq]
  have hq1 := RowA.isOne hq
  unfold opCells
  refine bodyO_of (Nat.le_of_ble_eq_true rfl) ?_; generalize ht : argSlots _ 0 .nil = t; have h0 : t.get 0 = some _ := (by rw [← ht]; rfl); have h1 : t.get 1 = some _ := (by rw [← ht]; rfl); have h2 : t.get 2 = some _ := (by rw [← ht]; rfl); clear ht
  by_cases c1 : o.kind = 1
  · repeat' (first | intro id | refine goq ?_ | (refine oo_guard (by exact slotq) (fun hc => ?_) (fun hc => ?_) <;> (fail_if_success (exact absurd hc (by decide))) <;> rw [hc] <;> (try simp only [decide_eq_true_eq, decide_eq_false_iff_not, ne_eq, Decidable.not_not] at hc)) | (refine wo_cond_if (by exact slotq) (fun hc => ?_) (fun hc => ?_) <;> (try simp only [decide_eq_true_eq, decide_eq_false_iff_not, ne_eq, Decidable.not_not] at hc)) | ((first | apply retO_r | apply retO_n); (focus (exact resq))))
    all_goals (refine gok ?_)
    all_goals (refine (gCheck_ok hF hmg hma hmo hmt hmc hmi hq hlt).mono ?_; rintro r L' ⟨⟨e, rfl, ⟨rfl, e1, e2, e3⟩ | ⟨rfl, e1⟩ | ⟨rfl, e1, e2⟩⟩, rfl⟩)
    all_goals (repeat' (first | intro id | refine goq ?_ | (refine oo_guard (by exact slotq) (fun hc => ?_) (fun hc => ?_) <;> (fail_if_success (exact absurd hc (by decide))) <;> rw [hc] <;> (try simp only [decide_eq_true_eq, decide_eq_false_iff_not, ne_eq, Decidable.not_not] at hc)) | (refine wo_cond_if (by exact slotq) (fun hc => ?_) (fun hc => ?_) <;> (try simp only [decide_eq_true_eq, decide_eq_false_iff_not, ne_eq, Decidable.not_not] at hc)) | ((first | apply retO_r | apply retO_n); (focus (exact resq)))))
    all_goals (refine ⟨rfl, _, rfl, ?_⟩; unfold OpOk condOk; grind)
  · repeat' (first | intro id | refine goq ?_ | (refine oo_guard (by exact slotq) (fun hc => ?_) (fun hc => ?_) <;> (fail_if_success (exact absurd hc (by decide))) <;> rw [hc] <;> (try simp only [decide_eq_true_eq, decide_eq_false_iff_not, ne_eq, Decidable.not_not] at hc)) | (refine wo_cond_if (by exact slotq) (fun hc => ?_) (fun hc => ?_) <;> (try simp only [decide_eq_true_eq, decide_eq_false_iff_not, ne_eq, Decidable.not_not] at hc)) | ((first | apply retO_r | apply retO_n); (focus (exact resq))))
    all_goals (first | (refine ⟨rfl, _, rfl, ?_⟩; unfold OpOk condOk; grind; done) | skip)
    refine WpO.mono (may_l0 (n := n) hF hmc hmi hq hlt o.qs.length 0 _ (by omega) ?_ ?_ ?_ ?_ ?_ (fun i hi => by omega)) ?_
    · exact slotq
    · exact slotq
    · exact slotq
    · exact slotq
    · exact slotq
    unfold opCells
    rintro ex t' L' ⟨rfl, ⟨rfl, hK, hQ⟩ | ⟨rfl, g6, hQ⟩⟩
    · have g1 : t'.get 1 = some (aint n) := (hK.ex 1 rfl).trans (by exact slotq)
      have g2 : t'.get 2 = some (aint b) := (hK.ex 2 rfl).trans (by exact slotq)
      have g3 : t'.get 3 = some (.ptr id 0) := (hK.ex 3 rfl).trans (by exact slotq)
      repeat' (first | intro id | refine goq ?_ | (refine oo_guard (by exact slotq) (fun hc => ?_) (fun hc => ?_) <;> (fail_if_success (exact absurd hc (by decide))) <;> rw [hc] <;> (try simp only [decide_eq_true_eq, decide_eq_false_iff_not, ne_eq, Decidable.not_not] at hc)) | (refine wo_cond_if (by exact slotq) (fun hc => ?_) (fun hc => ?_) <;> (try simp only [decide_eq_true_eq, decide_eq_false_iff_not, ne_eq, Decidable.not_not] at hc)) | ((first | apply retO_r | apply retO_n); (focus (exact resq))))
      all_goals (refine ⟨rfl, _, rfl, ?_⟩; unfold OpOk condOk; grind)
    · repeat' (first | intro id | refine goq ?_ | (refine oo_guard (by exact slotq) (fun hc => ?_) (fun hc => ?_) <;> (fail_if_success (exact absurd hc (by decide))) <;> rw [hc] <;> (try simp only [decide_eq_true_eq, decide_eq_false_iff_not, ne_eq, Decidable.not_not] at hc)) | (refine wo_cond_if (by exact slotq) (fun hc => ?_) (fun hc => ?_) <;> (try simp only [decide_eq_true_eq, decide_eq_false_iff_not, ne_eq, Decidable.not_not] at hc)) | ((first | apply retO_r | apply retO_n); (focus (exact resq))))
      all_goals (refine ⟨rfl, _, rfl, ?_⟩; unfold OpOk condOk; grind)
/-- What may be, told. -/
def chkE (c : CircD) (v : AVal) : Prop := ∃ i e : Int, v = .tup [aint i, aint e] ∧ ((e = 0 ∧ CircOk c) ∨ (e = 80 ∧ ¬ CircOk c))
theorem ccheck_l0 (hF : E.fns = fnsT) (hmm : E.mode f_circuit_may = .iso false) (hmg : E.mode f_gate_Check = .iso false) (hma : E.mode f_gate_Arity = .iso false) (hmo : E.mode f_gate_of = .iso false) (hmt : E.mode f_gate_table = .iso false) (hmc : E.mode f_slices_Contains_int_int = .iso false) (hmi : E.mode f_slices_Index_int_int = .iso false)
    {c : CircD} {s : AVal} {cs : List AVal} {i1 : Nat} (hr : RowA s cs c.ops.length) (hcs : OpsC cs c.ops) (hlt : c.ops.length < 2 ^ 62) :
    ∀ (d k : Nat) (t : Tr AVal) (L : Hp), d + k = c.ops.length → In i1 [aint c.qubits, aint c.bits, s] L → t.get 1 = some (.ptr i1 0) → t.get 31 = some s → t.get 32 = some (aint c.ops.length) → t.get 33 = some (aint k) → (∀ i, i < k → OpOk (c.ops.getD i default) c.qubits c.bits) →
    WpO E (.loop c_circuit_Check_l0) t L (fun ex t' L' => (ex = .exit 0 ∧ (∀ i, i < c.ops.length → OpOk (c.ops.getD i default) c.qubits c.bits)) ∨ (ex = .ret ∧ (∃ j : Nat, t'.get 2 = some (aint j)) ∧ t'.get 3 = some (aint 80) ∧ ¬ (∀ i, i < c.ops.length → OpOk (c.ops.getD i default) c.qubits c.bits))) := by
  have hs1 := RowA.isOne hr
  intro d
  induction d with
  | zero =>
    intro k t L hk hin h1 h31 h32 h33 hok
    obtain rfl : k = c.ops.length := by omega
    refine wo_loop ?_
    repeat (first | intro id | refine goq ?_)
    exact .inl ⟨rfl, hok⟩
  | succ d ih =>
    intro k t L hk hin h1 h31 h32 h33 hok
    have hkl : k < c.ops.length := by omega
    obtain ⟨q, ha⟩ := hcs.at hkl
    generalize hO : c.ops.getD k default = o at ha
    have hq := ha.hq
    have hq1 := RowA.isOne hq
    have hlt6 := ha.lt
    have hseg := ha.seg
    unfold opCells at hseg
    refine wo_loop ?_
    repeat (first | intro id | refine goq ?_)
    refine gok ?_
    refine (may_ok hF hmm hmg hma hmo hmt hmc hmi hq ha.b).mono ?_
    rintro r L' ⟨⟨x, rfl, hx⟩, rfl⟩
    cases x with
    | true =>
      repeat (first | intro id | refine goq ?_)
      refine ih (k + 1) _ _ (by omega) (.next hin) ?_ ?_ ?_ ?_ ?_
      · exact slotq
      · exact slotq
      · exact slotq
      · exact slotq
      · intro i hi
        by_cases e : i = k
        · subst e; rw [hO]; exact hx.1 rfl
        · exact hok i (by omega)
    | false =>
      repeat (first | intro id | refine goq ?_)
      refine .inr ⟨rfl, ⟨k, by exact slotq⟩, by exact slotq, fun h => ?_⟩
      have := hx.2 (by rw [← hO]; exact h k hkl)
      cases this
theorem Check_okC (hF : E.fns = fnsT) (hm : E.mode f_circuit_Check = .iso false) (hmm : E.mode f_circuit_may = .iso false) (hmg : E.mode f_gate_Check = .iso false) (hma : E.mode f_gate_Arity = .iso false) (hmo : E.mode f_gate_of = .iso false) (hmt : E.mode f_gate_table = .iso false) (hmc : E.mode f_slices_Contains_int_int = .iso false) (hmi : E.mode f_slices_Index_int_int = .iso false)
    {c : CircD} {v : AVal} (hv : CircA v c) : CallO E f_circuit_Check [v] L fun r L' => chkE c r ∧ L' = L := by
  refine callO_iso0 (R := chkE c) hm (fns_of hF n_circuit_Check) (vs_bare hv.bare vs_nil) ?_
  obtain ⟨s, rfl, cs, hr, hcs, hlt⟩ := hv
  have hs1 := RowA.isOne hr
  refine bodyO_of (Nat.le_of_ble_eq_true rfl) ?_; generalize ht : argSlots _ 0 .nil = t; have h0 : t.get 0 = some _ := (by rw [← ht]; rfl); clear ht
  repeat' (first | intro id | refine goq ?_ | (refine oo_guard (by exact slotq) (fun hc => ?_) (fun hc => ?_) <;> (fail_if_success (exact absurd hc (by decide))) <;> rw [hc] <;> (try simp only [decide_eq_true_eq, decide_eq_false_iff_not, ne_eq, Decidable.not_not] at hc)) | (refine wo_cond_if (by exact slotq) (fun hc => ?_) (fun hc => ?_) <;> (try simp only [decide_eq_true_eq, decide_eq_false_iff_not, ne_eq, Decidable.not_not] at hc)) | ((first | apply retO_r | apply retO_n); (focus (exact resq))))
  all_goals (first | (refine ⟨rfl, _, _, rfl, ?_⟩; exact .inr ⟨rfl, fun h => by have := h.q0; have := h.q1; have := h.b0; have := h.b1; have := h.len; omega⟩) | skip)
  refine WpO.mono (ccheck_l0 hF hmm hmg hma hmo hmt hmc hmi hr hcs hlt c.ops.length 0 _ _ (by omega) .here ?_ ?_ ?_ ?_ (fun i hi => by omega)) ?_
  · exact slotq
  · exact slotq
  · exact slotq
  · exact slotq
  rintro ex t' L' (⟨rfl, hall⟩ | ⟨rfl, ⟨j, g2⟩, g3, hno⟩)
  · repeat (first | intro id | refine goq ?_)
    ((first | apply retO_r | apply retO_n); (focus (exact resq)))
    exact ⟨rfl, 0, 0, rfl, .inl ⟨rfl, by constructor <;> first | assumption | omega⟩⟩
  · repeat (first | intro id | refine goq ?_)
    ((first | apply retO_r | apply retO_n); (focus (exact resq)))
    exact ⟨rfl, j, 80, rfl, .inr ⟨rfl, fun h => hno h.ok⟩⟩
end Go.Proofs.YtmflheoafeenfaaGreat
namespace Go.Proofs.YtmflheoafeenfaaGreat
open Go.Am
set_option maxRecDepth 4000
set_option maxHeartbeats 8000000
variable {E : Env} {L : Hp}
theorem rOp_ok (hF : E.fns = fnsT) (hm : E.mode f_phasorref08_Op = .iso false) (hmg : E.mode f_phasorref06_Check = .iso false) (hma : E.mode f_phasorref06_Arity = .iso false) (hmi : E.mode f_phasorref06_Is = .iso false) (hmu : E.mode f_phasorref08_unlike = .iso false)
    {n b : Int} {q : AVal} {o : OpD} (hq : SlI q o.qs) (hlt : o.qs.length < 2 ^ 62) : CallO E f_phasorref08_Op [.agg (opCells q o), aint n, aint b] L fun r L' => (∃ x, r = abool x ∧ (x = true ↔ OpOk o n b)) ∧ L' = L := by
  refine callO_iso0 (R := fun r => ∃ x, r = abool x ∧ (x = true ↔ OpOk o n b)) hm (fns_of hF n_phasorref08_Op) (vs_bare ?_ (vs_bare rfl (vs_bare rfl vs_nil))) ?_
  · simp [opCells, AVal.bare, bareAll, aint, bare_SlI hq]
  have hq1 := RowA.isOne hq
  unfold opCells
  refine bodyO_of (Nat.le_of_ble_eq_true rfl) ?_; generalize ht : argSlots _ 0 .nil = t; have h0 : t.get 0 = some _ := (by rw [← ht]; rfl); have h1 : t.get 1 = some _ := (by rw [← ht]; rfl); have h2 : t.get 2 = some _ := (by rw [← ht]; rfl); clear ht
  by_cases c1 : o.kind = 1
  · repeat' (first | intro id | refine goq ?_ | (refine oo_guard (by exact slotq) (fun hc => ?_) (fun hc => ?_) <;> (fail_if_success (exact absurd hc (by decide))) <;> rw [hc] <;> (try simp only [decide_eq_true_eq, decide_eq_false_iff_not, ne_eq, Decidable.not_not] at hc)) | (refine wo_cond_if (by exact slotq) (fun hc => ?_) (fun hc => ?_) <;> (try simp only [decide_eq_true_eq, decide_eq_false_iff_not, ne_eq, Decidable.not_not] at hc)) | ((first | apply retO_r | apply retO_n); (focus (exact resq))))
    all_goals (refine gok ?_)
    all_goals (refine (rCheck_ok hF hmg hma hmi hq hlt).mono ?_; rintro r L' ⟨⟨e, rfl, ⟨rfl, e1, e2, e3⟩ | ⟨rfl, e1⟩ | ⟨rfl, e1, e2⟩⟩, rfl⟩)
    all_goals (repeat' (first | intro id | refine goq ?_ | (refine oo_guard (by exact slotq) (fun hc => ?_) (fun hc => ?_) <;> (fail_if_success (exact absurd hc (by decide))) <;> rw [hc] <;> (try simp only [decide_eq_true_eq, decide_eq_false_iff_not, ne_eq, Decidable.not_not] at hc)) | (refine wo_cond_if (by exact slotq) (fun hc => ?_) (fun hc => ?_) <;> (try simp only [decide_eq_true_eq, decide_eq_false_iff_not, ne_eq, Decidable.not_not] at hc)) | ((first | apply retO_r | apply retO_n); (focus (exact resq)))))
    all_goals (refine ⟨rfl, _, rfl, ?_⟩; unfold OpOk condOk; grind)
  · repeat' (first | intro id | refine goq ?_ | (refine oo_guard (by exact slotq) (fun hc => ?_) (fun hc => ?_) <;> (fail_if_success (exact absurd hc (by decide))) <;> rw [hc] <;> (try simp only [decide_eq_true_eq, decide_eq_false_iff_not, ne_eq, Decidable.not_not] at hc)) | (refine wo_cond_if (by exact slotq) (fun hc => ?_) (fun hc => ?_) <;> (try simp only [decide_eq_true_eq, decide_eq_false_iff_not, ne_eq, Decidable.not_not] at hc)) | ((first | apply retO_r | apply retO_n); (focus (exact resq))))
    all_goals (first | (refine ⟨rfl, _, rfl, ?_⟩; unfold OpOk condOk; grind; done) | skip)
    all_goals (refine gok ?_)
    all_goals (refine (unlike_ok hF hmu hq hlt).mono ?_; rintro r L' ⟨⟨x, rfl, hx⟩, rfl⟩)
    all_goals (repeat' (first | intro id | refine goq ?_ | (refine oo_guard (by exact slotq) (fun hc => ?_) (fun hc => ?_) <;> (fail_if_success (exact absurd hc (by decide))) <;> rw [hc] <;> (try simp only [decide_eq_true_eq, decide_eq_false_iff_not, ne_eq, Decidable.not_not] at hc)) | (refine wo_cond_if (by exact slotq) (fun hc => ?_) (fun hc => ?_) <;> (try simp only [decide_eq_true_eq, decide_eq_false_iff_not, ne_eq, Decidable.not_not] at hc)) | ((first | apply retO_r | apply retO_n); (focus (exact resq)))))
    all_goals (refine ⟨rfl, _, rfl, ?_⟩; unfold OpOk condOk; grind)
end Go.Proofs.YtmflheoafeenfaaGreat
namespace Go.Proofs.YtmflheoafeenfaaGreat
open Go.Am
set_option maxRecDepth 4000
set_option maxHeartbeats 8000000
variable {E : Env} {L : Hp}
theorem rcheck8_l0 (hF : E.fns = fnsT) (hmo : E.mode f_phasorref08_Op = .iso false) (hmg : E.mode f_phasorref06_Check = .iso false) (hma : E.mode f_phasorref06_Arity = .iso false) (hmi : E.mode f_phasorref06_Is = .iso false) (hmu : E.mode f_phasorref08_unlike = .iso false) (hst : still E c_phasorref08_Check_r5 = true)
    {c : CircD} {s : AVal} {cs : List AVal} {i1 : Nat} (hr : RowA s cs c.ops.length) (hcs : OpsC cs c.ops) (hlt : c.ops.length < 2 ^ 62) :
    ∀ (d k : Nat) (t : Tr AVal) (L : Hp), d + k = c.ops.length → In i1 [aint c.qubits, aint c.bits, s] L → t.get 1 = some (.ptr i1 0) → t.get 4 = some (aint k) → (∀ i, i < k → OpOk (c.ops.getD i default) c.qubits c.bits) →
    WpO E (.loop c_phasorref08_Check_l0) t L (fun ex t' L' => (ex = .exit 0 ∧ (∀ i, i < c.ops.length → OpOk (c.ops.getD i default) c.qubits c.bits)) ∨ (ex = .ret ∧ (∃ j : Nat, t'.get 2 = some (aint j)) ∧ t'.get 3 = some (aint 80) ∧ ¬ (∀ i, i < c.ops.length → OpOk (c.ops.getD i default) c.qubits c.bits))) := by
  have hs1 := RowA.isOne hr
  intro d
  induction d with
  | zero =>
    intro k t L hk hin h1 h4 hok
    obtain rfl : k = c.ops.length := by omega
    refine wo_loop ?_
    repeat (first | intro id | refine goq ?_)
    exact .inl ⟨rfl, hok⟩
  | succ d ih =>
    intro k t L hk hin h1 h4 hok
    have hkl : k < c.ops.length := by omega
    obtain ⟨q, ha⟩ := hcs.at hkl
    generalize hO : c.ops.getD k default = o at ha
    have hq := ha.hq
    have hq1 := RowA.isOne hq
    have hlt6 := ha.lt
    have hseg := ha.seg
    unfold opCells at hseg
    refine wo_loop ?_
    repeat (first | intro id | refine goq ?_)
    refine gok ?_
    refine (rOp_ok hF hmo hmg hma hmi hmu hq ha.b).mono ?_
    rintro r L' ⟨⟨x, rfl, hx⟩, rfl⟩
    cases x with
    | true =>
      repeat (first | intro id | refine goq ?_)
      refine ih (k + 1) _ _ (by omega) hin ?_ ?_ ?_
      · exact slotq
      · exact slotq
      · intro i hi
        by_cases e : i = k
        · subst e; rw [hO]; exact hx.1 rfl
        · exact hok i (by omega)
    | false =>
      repeat (first | intro id | refine goq ?_)
      refine .inr ⟨rfl, ⟨k, by exact slotq⟩, by exact slotq, fun h => ?_⟩
      have := hx.2 (by rw [← hO]; exact h k hkl)
      cases this
theorem rCheck8_ok (hF : E.fns = fnsT) (hm : E.mode f_phasorref08_Check = .iso false) (hmo : E.mode f_phasorref08_Op = .iso false) (hmg : E.mode f_phasorref06_Check = .iso false) (hma : E.mode f_phasorref06_Arity = .iso false) (hmi : E.mode f_phasorref06_Is = .iso false) (hmu : E.mode f_phasorref08_unlike = .iso false) (hst : still E c_phasorref08_Check_r5 = true)
    {c : CircD} {v : AVal} (hv : CircA v c) : CallO E f_phasorref08_Check [v] L fun r L' => chkE c r ∧ L' = L := by
  refine callO_iso0 (R := chkE c) hm (fns_of hF n_phasorref08_Check) (vs_bare hv.bare vs_nil) ?_
  obtain ⟨s, rfl, cs, hr, hcs, hlt⟩ := hv
  have hs1 := RowA.isOne hr
  refine bodyO_of (Nat.le_of_ble_eq_true rfl) ?_; generalize ht : argSlots _ 0 .nil = t; have h0 : t.get 0 = some _ := (by rw [← ht]; rfl); clear ht
  repeat' (first | intro id | refine goq ?_ | (refine oo_guard (by exact slotq) (fun hc => ?_) (fun hc => ?_) <;> (fail_if_success (exact absurd hc (by decide))) <;> rw [hc] <;> (try simp only [decide_eq_true_eq, decide_eq_false_iff_not, ne_eq, Decidable.not_not] at hc)) | (refine wo_cond_if (by exact slotq) (fun hc => ?_) (fun hc => ?_) <;> (try simp only [decide_eq_true_eq, decide_eq_false_iff_not, ne_eq, Decidable.not_not] at hc)) | ((first | apply retO_r | apply retO_n); (focus (exact resq))))
  all_goals (first | (refine ⟨rfl, _, _, rfl, ?_⟩; exact .inr ⟨rfl, fun h => by have := h.q0; have := h.q1; have := h.b0; have := h.b1; have := h.len; omega⟩) | skip)
  refine WpO.mono (rcheck8_l0 hF hmo hmg hma hmi hmu hst hr hcs hlt c.ops.length 0 _ _ (by omega) .here ?_ ?_ (fun i hi => by omega)) ?_
  · exact slotq
  · exact slotq
  rintro ex t' L' (⟨rfl, hall⟩ | ⟨rfl, ⟨j, g2⟩, g3, hno⟩)
  · repeat (first | intro id | refine goq ?_)
    ((first | apply retO_r | apply retO_n); (focus (exact resq)))
    exact ⟨rfl, 0, 0, rfl, .inl ⟨rfl, by constructor <;> first | assumption | omega⟩⟩
  · repeat (first | intro id | refine goq ?_)
    ((first | apply retO_r | apply retO_n); (focus (exact resq)))
    exact ⟨rfl, j, 80, rfl, .inr ⟨rfl, fun h => hno h.ok⟩⟩
theorem May_ok (hF : E.fns = fnsT) (hm : E.mode f_phasorref08_May = .iso false) (hmk : E.mode f_phasorref08_Check = .iso false) (hmo : E.mode f_phasorref08_Op = .iso false) (hmg : E.mode f_phasorref06_Check = .iso false) (hma : E.mode f_phasorref06_Arity = .iso false) (hmi : E.mode f_phasorref06_Is = .iso false) (hmu : E.mode f_phasorref08_unlike = .iso false) (hst : still E c_phasorref08_Check_r5 = true)
    {c : CircD} {v : AVal} (hv : CircA v c) : CallO E f_phasorref08_May [v] L fun r L' => (∃ x, r = abool x ∧ (x = true ↔ CircOk c)) ∧ L' = L := by
  refine callO_iso0 (R := fun r => ∃ x, r = abool x ∧ (x = true ↔ CircOk c)) hm (fns_of hF n_phasorref08_May) (vs_bare hv.bare vs_nil) ?_
  have hv0 := hv
  obtain ⟨s, rfl, cs, hr, hcs, hlt⟩ := hv
  have hs1 := RowA.isOne hr
  refine bodyO_of (Nat.le_of_ble_eq_true rfl) ?_; generalize ht : argSlots _ 0 .nil = t; have h0 : t.get 0 = some _ := (by rw [← ht]; rfl); clear ht
  repeat (first | intro id | refine goq ?_)
  refine gok ?_
  refine (rCheck8_ok hF hmk hmo hmg hma hmi hmu hst hv0).mono ?_
  rintro r L' ⟨⟨i, e, rfl, ⟨rfl, h⟩ | ⟨rfl, h⟩⟩, rfl⟩
  · repeat (first | intro id | refine goq ?_)
    ((first | apply retO_r | apply retO_n); (focus (exact resq)))
    exact ⟨rfl, true, rfl, by simp [h]⟩
  · repeat (first | intro id | refine goq ?_)
    ((first | apply retO_r | apply retO_n); (focus (exact resq)))
    exact ⟨rfl, false, rfl, by simp [h]⟩

end Go.Proofs.YtmflheoafeenfaaGreat
namespace Go.Proofs.YtmflheoafeenfaaGreat
open Go.Am
set_option maxRecDepth 4000
set_option maxHeartbeats 8000000
variable {E : Env} {L : Hp}
/-! Held against each other -/
theorem ints8_l0 {la lb : List Int} {va vb : AVal} (ha : SlI va la) (hb : SlI vb lb) (hl : la.length = lb.length) (hlt : la.length < 2 ^ 62) : ∀ (d k : Nat) (t : Tr AVal), d + k = la.length → t.get 0 = some va → t.get 1 = some vb → t.get 5 = some (aint k) →
    WpO E (.loop c_phasorref08_ints_l0) t L (fun ex t' _ => (ex = .exit 0 ∧ la.drop k = lb.drop k) ∨ (ex = .ret ∧ t'.get 4 = some (abool false) ∧ la.drop k ≠ lb.drop k)) := by
  intro d
  induction d with
  | zero =>
    intro k t hk h0 h1 h5
    refine wo_loop ?_
    repeat (first | intro id | refine goq ?_)
    refine .inl ⟨rfl, ?_⟩
    rw [List.drop_of_length_le (by omega), List.drop_of_length_le (by omega)]
  | succ d ih =>
    intro k t hk h0 h1 h5
    refine wo_loop ?_
    have hde := drop_eq 0 hl (show k < la.length by omega)
    by_cases c : la.getD k 0 = lb.getD k 0
    · repeat (first | intro id | refine goq ?_)
      refine WpO.mono (ih (k + 1) _ (by omega) (by exact slotq) (by exact slotq) (by exact slotq)) fun ex t' L' hq => ?_
      simp only [c, true_and] at hde
      simp only [ne_eq, hde]
      exact hq
    · repeat (first | intro id | refine goq ?_)
      exact .inr ⟨rfl, by exact slotq, fun he => c (hde.1 he).1⟩
theorem ints8_ok (hF : E.fns = fnsT) (hm : E.mode f_phasorref08_ints = .iso false) {a b va vb : AVal} {la lb : List Int} (hv : ViewsO L [a, b] [va, vb]) (ha : SlI va la) (hb : SlI vb lb) (hlt : la.length < 2 ^ 62) :
    CallO E f_phasorref08_ints [a, b] L fun v L' => v = abool (decide (la = lb)) ∧ L' = L := by
  refine callO_iso0 hm (fns_of hF n_phasorref08_ints) hv ?_
  have ha1 := RowA.isOne ha
  have hb1 := RowA.isOne hb
  refine bodyO_of (Nat.le_of_ble_eq_true rfl) ?_; generalize ht : argSlots _ 0 .nil = t; have h0 : t.get 0 = some _ := (by rw [← ht]; rfl); have h1 : t.get 1 = some _ := (by rw [← ht]; rfl); clear ht
  by_cases hl : la.length = lb.length
  · repeat (first | intro id | refine goq ?_)
    refine WpO.mono (ints8_l0 ha hb hl hlt la.length 0 _ (by omega) (by exact slotq) (by exact slotq) (by exact slotq)) fun ex t' L' hq => ?_
    obtain ⟨rfl, hq2⟩ | ⟨rfl, hq2, hq3⟩ := hq
    · simp only [List.drop_zero] at hq2
      repeat (first | intro id | refine goq ?_)
      ((first | apply retO_r | apply retO_n); (focus (exact resq)))
      exact ⟨rfl, by rw [decide_eq_true hq2]; rfl⟩
    · simp only [List.drop_zero] at hq3
      repeat (first | intro id | refine goq ?_)
      ((first | apply retO_r | apply retO_n); (focus (exact resq)))
      exact ⟨rfl, by rw [decide_eq_false hq3]; rfl⟩
  · repeat (first | intro id | refine goq ?_)
    ((first | apply retO_r | apply retO_n); (focus (exact resq)))
    exact ⟨rfl, by rw [decide_eq_false (by rintro rfl; exact hl rfl)]; rfl⟩
theorem SameOp_ok (hF : E.fns = fnsT) (hm : E.mode f_phasorref08_SameOp = .iso false) (hmi : E.mode f_phasorref08_ints = .iso false) {p q : AVal} {a b : OpD} (hp : SlI p a.qs) (hq : SlI q b.qs) (hlt : a.qs.length < 2 ^ 62) :
    CallO E f_phasorref08_SameOp [.agg (opCells p a), .agg (opCells q b)] L fun v L' => (∃ x, v = abool x ∧ (x = true ↔ a = b)) ∧ L' = L := by
  refine callO_iso0 (R := fun v => ∃ x, v = abool x ∧ (x = true ↔ a = b)) hm (fns_of hF n_phasorref08_SameOp) (vs_bare ?_ (vs_bare ?_ vs_nil)) ?_
  · simp [opCells, AVal.bare, bareAll, aint, bare_SlI hp]
  · simp [opCells, AVal.bare, bareAll, aint, bare_SlI hq]
  have hp1 := RowA.isOne hp
  have hq1 := RowA.isOne hq
  unfold opCells
  obtain ⟨a1, a2, a3, a4, a5, a6⟩ := a
  obtain ⟨b1, b2, b3, b4, b5, b6⟩ := b
  simp only at hp hq hlt ⊢
  simp only [OpD.mk.injEq]
  refine bodyO_of (Nat.le_of_ble_eq_true rfl) ?_; generalize ht : argSlots _ 0 .nil = t; have h0 : t.get 0 = some _ := (by rw [← ht]; rfl); have h1 : t.get 1 = some _ := (by rw [← ht]; rfl); clear ht
  repeat' (first | intro id | refine goq ?_ | (refine oo_guard (by exact slotq) (fun hc => ?_) (fun hc => ?_) <;> (fail_if_success (exact absurd hc (by decide))) <;> rw [hc] <;> (try simp only [decide_eq_true_eq, decide_eq_false_iff_not, ne_eq, Decidable.not_not] at hc)) | (refine wo_cond_if (by exact slotq) (fun hc => ?_) (fun hc => ?_) <;> (try simp only [decide_eq_true_eq, decide_eq_false_iff_not, ne_eq, Decidable.not_not] at hc)) | ((first | apply retO_r | apply retO_n); (focus (exact resq))))
  all_goals (first | (refine ⟨rfl, false, rfl, ?_⟩; simp only [Bool.false_eq_true, false_iff]; intro h; omega) | skip)
  refine gok ?_
  refine (ints8_ok hF hmi (vs_bare (bare_SlI hp) (vs_bare (bare_SlI hq) vs_nil)) hp hq hlt).mono ?_
  rintro r L' ⟨rfl, rfl⟩
  repeat (first | intro id | refine goq ?_)
  ((first | apply retO_r | apply retO_n); (focus (exact resq)))
  refine ⟨rfl, decide (a3 = b3), rfl, ?_⟩
  simp only [decide_eq_true_eq]
  exact ⟨fun h => ⟨by omega, by omega, h, by omega, by omega, by omega⟩, fun h => h.2.2.1⟩
theorem same8_l0 (hF : E.fns = fnsT) (hms : E.mode f_phasorref08_SameOp = .iso false) (hmi : E.mode f_phasorref08_ints = .iso false) (hst : still E c_phasorref08_Same_r5 = true) {a b : List OpD} {va vb : AVal} {ca cb : List AVal} {na ba nb bb : Int} {i2 i3 : Nat} (ha : RowA va ca a.length) (hca : OpsC ca a) (hb : RowA vb cb b.length) (hcb : OpsC cb b) (hl : a.length = b.length) (hlt : a.length < 2 ^ 62)
    (hi2 : In i2 [aint na, aint ba, va] L) (hi3 : In i3 [aint nb, aint bb, vb] L) :
    ∀ (d k : Nat) (t : Tr AVal), d + k = a.length → t.get 2 = some (.ptr i2 0) → t.get 3 = some (.ptr i3 0) → t.get 5 = some (aint k) →
    WpO E (.loop c_phasorref08_Same_l0) t L (fun ex t' _ => (ex = .exit 0 ∧ a.drop k = b.drop k) ∨ (ex = .ret ∧ t'.get 4 = some (abool false) ∧ a.drop k ≠ b.drop k)) := by
  have ha1 := RowA.isOne ha
  have hb1 := RowA.isOne hb
  intro d
  induction d with
  | zero =>
    intro k t hk h2 h3 h5
    refine wo_loop ?_
    repeat (first | intro id | refine goq ?_)
    refine .inl ⟨rfl, ?_⟩
    rw [List.drop_of_length_le (by omega), List.drop_of_length_le (by omega)]
  | succ d ih =>
    intro k t hk h2 h3 h5
    refine wo_loop ?_
    have hde := drop_eq default hl (show k < a.length by omega)
    obtain ⟨p, hp, hpl, hp6, hps⟩ := hca.getE (show k < a.length by omega)
    obtain ⟨q, hq, hql, hq6, hqs⟩ := hcb.getE (show k < b.length by omega)
    have hp1 := RowA.isOne hp
    have hq1 := RowA.isOne hq
    generalize a.getD k default = x at *
    generalize b.getD k default = y at *
    repeat (first | intro id | refine goq ?_)
    refine gok ?_
    refine (SameOp_ok hF hms hmi hp hq hpl).mono ?_
    rintro r L' ⟨⟨z, rfl, hz⟩, rfl⟩
    cases z with
    | true =>
      have e := hz.1 rfl
      repeat (first | intro id | refine goq ?_)
      refine WpO.mono (ih (k + 1) _ (by omega) (by exact slotq) (by exact slotq) (by exact slotq)) fun ex t' L' hq => ?_
      simp only [e, true_and] at hde
      simp only [ne_eq, hde]
      exact hq
    | false =>
      repeat (first | intro id | refine goq ?_)
      refine .inr ⟨rfl, by exact slotq, fun he => ?_⟩
      have := hz.2 (hde.1 he).1
      cases this
theorem Same8_ok (hF : E.fns = fnsT) (hm : E.mode f_phasorref08_Same = .iso false) (hms : E.mode f_phasorref08_SameOp = .iso false) (hmi : E.mode f_phasorref08_ints = .iso false) (hst : still E c_phasorref08_Same_r5 = true) {a b : AVal} {va vb : AVal} {c d : CircD} (hv : ViewsO L [a, b] [va, vb]) (hc : CircA va c) (hd : CircA vb d) :
    CallO E f_phasorref08_Same [a, b] L fun v L' => (∃ x, v = abool x ∧ (x = true ↔ c = d)) ∧ L' = L := by
  refine callO_iso0 (R := fun v => ∃ x, v = abool x ∧ (x = true ↔ c = d)) hm (fns_of hF n_phasorref08_Same) hv ?_
  obtain ⟨sa, rfl, ca, ha, hca, hlt⟩ := hc
  obtain ⟨sb, rfl, cb, hb, hcb, -⟩ := hd
  have ha1 := RowA.isOne ha
  have hb1 := RowA.isOne hb
  obtain ⟨c1, c2, c3⟩ := c
  obtain ⟨d1, d2, d3⟩ := d
  simp only at *
  simp only [CircD.mk.injEq]
  refine bodyO_of (Nat.le_of_ble_eq_true rfl) ?_; generalize ht : argSlots _ 0 .nil = t; have h0 : t.get 0 = some _ := (by rw [← ht]; rfl); have h1 : t.get 1 = some _ := (by rw [← ht]; rfl); clear ht
  repeat' (first | intro id | refine goq ?_ | (refine oo_guard (by exact slotq) (fun hc => ?_) (fun hc => ?_) <;> (fail_if_success (exact absurd hc (by decide))) <;> rw [hc] <;> (try simp only [decide_eq_true_eq, decide_eq_false_iff_not, ne_eq, Decidable.not_not] at hc)) | (refine wo_cond_if (by exact slotq) (fun hc => ?_) (fun hc => ?_) <;> (try simp only [decide_eq_true_eq, decide_eq_false_iff_not, ne_eq, Decidable.not_not] at hc)) | ((first | apply retO_r | apply retO_n); (focus (exact resq))))
  all_goals (first | (refine ⟨rfl, false, rfl, ?_⟩; simp only [Bool.false_eq_true, false_iff]; rintro ⟨h1, h2, h3⟩; first | omega | (subst h3; omega)) | skip)
  refine WpO.mono (same8_l0 hF hms hmi hst ha hca hb hcb (by omega) hlt (.next .here) .here c3.length 0 _ (by omega) (by exact slotq) (by exact slotq) (by exact slotq)) ?_
  rintro ex t' L' (⟨rfl, he⟩ | ⟨rfl, g4, he⟩)
  · simp only [List.drop_zero] at he
    repeat (first | intro id | refine goq ?_)
    ((first | apply retO_r | apply retO_n); (focus (exact resq)))
    exact ⟨rfl, true, rfl, by simp [he]; omega⟩
  · simp only [List.drop_zero] at he
    repeat (first | intro id | refine goq ?_)
    ((first | apply retO_r | apply retO_n); (focus (exact resq)))
    exact ⟨rfl, false, rfl, by simp [he]⟩
end Go.Proofs.YtmflheoafeenfaaGreat
