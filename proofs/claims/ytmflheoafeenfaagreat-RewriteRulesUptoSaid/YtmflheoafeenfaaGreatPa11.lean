/- Parts of the proof, joined by program: CiCM, CiCR1, CiCR2, CiCR3, RwR4, RwR5, RwR6, RwP3, RwP4, RwP5, RwP6. -/
import Derived.Test.YtmflheoafeenfaaGreatPa10
set_option linter.unusedSimpArgs false
set_option linter.unusedVariables false
namespace Go.Proofs.YtmflheoafeenfaaGreat
open Go.Am
set_option maxRecDepth 4000
set_option maxHeartbeats 8000000
variable {E : Env} {L : Hp}
theorem may_l0 (hF : E.fns = fnsT) (hmc : E.mode f_slices_Contains_int_int = .iso false) (hmi : E.mode f_slices_Index_int_int = .iso false) {q : AVal} {o : OpD} {n : Int} {i3 : Nat} (hq : SlI q o.qs) (hlt : o.qs.length < 2 ^ 62) :
    ∀ (d k : Nat) (t : Tr AVal), d + k = o.qs.length → t.get 1 = some (aint n) → t.get 3 = some (.ptr i3 0) → t.get 79 = some q → t.get 80 = some (aint o.qs.length) → t.get 81 = some (aint k) → (∀ i, i < k → okAt n o.qs i) →
    WpO E (.loop c_circuit_may_l0) t ((i3, opCells q o) :: L) (fun ex t' L' => L' = (i3, opCells q o) :: L ∧ ((ex = .exit 0 ∧ Keep [1, 2, 3] t t' ∧ Qs n o.qs) ∨ (ex = .ret ∧ t'.get 6 = some (abool false) ∧ ¬ Qs n o.qs))) := by
  have hq1 := RowA.isOne hq
  unfold opCells
  intro d
  induction d with
  | zero =>
    intro k t hk h1 h3 h79 h80 h81 hok
    obtain rfl : k = o.qs.length := by omega
    refine wo_loop ?_
    repeat (first | intro id | refine goq ?_)
    exact ⟨rfl, .inl ⟨rfl, by exact keepq, hok⟩⟩
  | succ d ih =>
    intro k t hk h1 h3 h79 h80 h81 hok
    have hkl : k < o.qs.length := by omega
    have hat := okAt_iff (n := n) hkl
    have hbad : ¬ okAt n o.qs k → ¬ Qs n o.qs := fun h hh => h (hh k hkl)
    refine wo_loop ?_
    by_cases c1 : o.qs.getD k 0 < 0
    · repeat (first | intro id | refine goq ?_)
      exact ⟨rfl, .inr ⟨rfl, by exact slotq, hbad fun h => by have := hat.1 h; omega⟩⟩
    by_cases c2 : n ≤ o.qs.getD k 0
    · repeat (first | intro id | refine goq ?_)
      exact ⟨rfl, .inr ⟨rfl, by exact slotq, hbad fun h => by have := hat.1 h; omega⟩⟩
    repeat (first | intro id | refine goq ?_)
    refine gok ?_
    have hh := hiI_is hq (Nat.le_of_lt hkl)
    refine (contains_ok hF hmc hmi (vs_bare (bare_SlI hh) (vs_bare rfl vs_nil)) hh (by rw [List.length_take]; omega)).mono ?_
    rintro r L' ⟨rfl, rfl⟩
    by_cases c3 : o.qs.getD k 0 ∈ o.qs.take k
    · rw [decide_eq_true c3]
      repeat (first | intro id | refine goq ?_)
      exact ⟨rfl, .inr ⟨rfl, by exact slotq, hbad fun h => (hat.1 h).2.2 c3⟩⟩
    · rw [decide_eq_false c3]
      repeat (first | intro id | refine goq ?_)
      refine WpO.mono (ih (k + 1) _ (by omega) ?_ ?_ ?_ ?_ ?_ (Qs_snoc hok (hat.2 ⟨by omega, by omega, c3⟩))) ?_
      · exact slotq
      · exact slotq
      · exact slotq
      · exact slotq
      · exact slotq
      · rintro ex t' L' ⟨e0, ⟨e1, e2, e3⟩ | h⟩
        · exact ⟨e0, .inl ⟨e1, Keep.trans (by exact keepq) e2, e3⟩⟩
        · exact ⟨e0, .inr h⟩
theorem may_ok (hF : E.fns = fnsT) (hm : E.mode f_circuit_may = .iso false) (hmg : E.mode f_gate_Check = .iso false) (hma : E.mode f_gate_Arity = .iso false) (hmo : E.mode f_gate_of = .iso false) (hmt : E.mode f_gate_table = .iso false) (hmc : E.mode f_slices_Contains_int_int = .iso false) (hmi : E.mode f_slices_Index_int_int = .iso false)
    {n b : Int} {q : AVal} {o : OpD} (hq : SlI q o.qs) (hlt : o.qs.length < 2 ^ 62) : CallO E f_circuit_may [.agg (opCells q o), aint n, aint b] L fun r L' => (∃ x, r = abool x ∧ (x = true ↔ OpOk o n b)) ∧ L' = L := by
  refine callO_iso0 (R := fun r => ∃ x, r = abool x ∧ (x = true ↔ OpOk o n b)) hm (fns_of hF n_circuit_may) (vs_bare ?_ (vs_bare rfl (vs_bare rfl vs_nil))) ?_
  · simp [opCells, AVal.bare, bareAll, aint, bare_SlI hq]
  have hq1 := RowA.isOne hq
  unfold opCells
  refine bodyO_of (Nat.le_of_ble_eq_true rfl) ?_; generalize ht : argSlots _ 0 .nil = t; have h0 : t.get 0 = some _ := (by rw [← ht]; rfl); have h1 : t.get 1 = some _ := (by rw [← ht]; rfl); have h2 : t.get 2 = some _ := (by rw [← ht]; rfl); clear ht
  by_cases c1 : o.kind = 1
  · repeat' (first | intro id | refine goq ?_ | (refine oo_guard (by exact slotq) (fun hc => ?_) (fun hc => ?_) <;> (fail_if_success (exact absurd hc (by decide))) <;> rw [hc] <;> (try simp only [decide_eq_true_eq, decide_eq_false_iff_not, ne_eq, Decidable.not_not] at hc)) | (refine wo_cond_if (by exact slotq) (fun hc => ?_) (fun hc => ?_) <;> (try simp only [decide_eq_true_eq, decide_eq_false_iff_not, ne_eq, Decidable.not_not] at hc)) | ((first | apply retO_r | apply retO_n); (focus (exact resq))))
    all_goals (refine gok ?_)
    all_goals (refine (gCheck_ok hF hmg hma hmo hmt hmc hmi hq hlt).mono ?_; rintro r L' ⟨⟨e, rfl, ⟨rfl, e1, e2, e3⟩ | ⟨rfl, e1⟩ | ⟨rfl, e1, e2⟩⟩, rfl⟩)
    all_goals (repeat' (first | intro id | refine goq ?_ | (refine oo_guard (by exact slotq) (fun hc => ?_) (fun hc => ?_) <;> (fail_if_success (exact absurd hc (by decide))) <;> rw [hc] <;> (try simp only [decide_eq_true_eq, decide_eq_false_iff_not, ne_eq, Decidable.not_not] at hc)) | (refine wo_cond_if (by exact slotq) (fun hc => ?_) (fun hc => ?_) <;> (try simp only [decide_eq_true_eq, decide_eq_false_iff_not, ne_eq, Decidable.not_not] at hc)) | ((first | apply retO_r | apply retO_n); (focus (exact resq)))))
    all_goals (refine ⟨rfl, _, rfl, ?_⟩; unfold OpOk condOk; grind)
  · repeat' (first | intro id | refine goq ?_ | (refine oo_guard (by exact slotq) (fun hc => ?_) (fun hc => ?_) <;> (fail_if_success (exact absurd hc (by decide))) <;> rw [hc] <;> (try simp only [decide_eq_true_eq, decide_eq_false_iff_not, ne_eq, Decidable.not_not] at hc)) | (refine wo_cond_if (by exact slotq) (fun hc => ?_) (fun hc => ?_) <;> (try simp only [decide_eq_true_eq, decide_eq_false_iff_not, ne_eq, Decidable.not_not] at hc)) | ((first | apply retO_r | apply retO_n); (focus (exact resq))))
    all_goals (first | (refine ⟨rfl, _, rfl, ?_⟩; unfold OpOk condOk; grind; done) | skip)
    refine WpO.mono (may_l0 (n := n) hF hmc hmi hq hlt o.qs.length 0 _ (by omega) ?_ ?_ ?_ ?_ ?_ (fun i hi => by omega)) ?_
    · exact slotq
    · exact slotq
    · exact slotq
    · exact slotq
    · exact slotq
    unfold opCells
    rintro ex t' L' ⟨rfl, ⟨rfl, hK, hQ⟩ | ⟨rfl, g6, hQ⟩⟩
    · have g1 : t'.get 1 = some (aint n) := (hK.ex 1 rfl).trans (by exact slotq)
      have g2 : t'.get 2 = some (aint b) := (hK.ex 2 rfl).trans (by exact slotq)
      have g3 : t'.get 3 = some (.ptr id 0) := (hK.ex 3 rfl).trans (by exact slotq)
      repeat' (first | intro id | refine goq ?_ | (refine oo_guard (by exact slotq) (fun hc => ?_) (fun hc => ?_) <;> (fail_if_success (exact absurd hc (by decide))) <;> rw [hc] <;> (try simp only [decide_eq_true_eq, decide_eq_false_iff_not, ne_eq, Decidable.not_not] at hc)) | (refine wo_cond_if (by exact slotq) (fun hc => ?_) (fun hc => ?_) <;> (try simp only [decide_eq_true_eq, decide_eq_false_iff_not, ne_eq, Decidable.not_not] at hc)) | ((first | apply retO_r | apply retO_n); (focus (exact resq))))
      all_goals (refine ⟨rfl, _, rfl, ?_⟩; unfold OpOk condOk; grind)
    · repeat' (first | intro id | refine goq ?_ | (refine oo_guard (by exact slotq) (fun hc => ?_) (fun hc => ?_) <;> (fail_if_success (exact absurd hc (by decide))) <;> rw [hc] <;> (try simp only [decide_eq_true_eq, decide_eq_false_iff_not, ne_eq, Decidable.not_not] at hc)) | (refine wo_cond_if (by exact slotq) (fun hc => ?_) (fun hc => ?_) <;> (try simp only [decide_eq_true_eq, decide_eq_false_iff_not, ne_eq, Decidable.not_not] at hc)) | ((first | apply retO_r | apply retO_n); (focus (exact resq))))
      all_goals (refine ⟨rfl, _, rfl, ?_⟩; unfold OpOk condOk; grind)
/-- What may be, told. -/
def chkE (c : CircD) (v : AVal) : Prop := ∃ i e : Int, v = .tup [aint i, aint e] ∧ ((e = 0 ∧ CircOk c) ∨ (e = 80 ∧ ¬ CircOk c))
theorem ccheck_l0 (hF : E.fns = fnsT) (hmm : E.mode f_circuit_may = .iso false) (hmg : E.mode f_gate_Check = .iso false) (hma : E.mode f_gate_Arity = .iso false) (hmo : E.mode f_gate_of = .iso false) (hmt : E.mode f_gate_table = .iso false) (hmc : E.mode f_slices_Contains_int_int = .iso false) (hmi : E.mode f_slices_Index_int_int = .iso false)
    {c : CircD} {s : AVal} {cs : List AVal} {i1 : Nat} (hr : RowA s cs c.ops.length) (hcs : OpsC cs c.ops) (hlt : c.ops.length < 2 ^ 62) :
    ∀ (d k : Nat) (t : Tr AVal) (L : Hp), d + k = c.ops.length → In i1 [aint c.qubits, aint c.bits, s] L → t.get 1 = some (.ptr i1 0) → t.get 31 = some s → t.get 32 = some (aint c.ops.length) → t.get 33 = some (aint k) → (∀ i, i < k → OpOk (c.ops.getD i default) c.qubits c.bits) →
    WpO E (.loop c_circuit_Check_l0) t L (fun ex t' L' => (ex = .exit 0 ∧ (∀ i, i < c.ops.length → OpOk (c.ops.getD i default) c.qubits c.bits)) ∨ (ex = .ret ∧ (∃ j : Nat, t'.get 2 = some (aint j)) ∧ t'.get 3 = some (aint 80) ∧ ¬ (∀ i, i < c.ops.length → OpOk (c.ops.getD i default) c.qubits c.bits))) := by
  have hs1 := RowA.isOne hr
  intro d
  induction d with
  | zero =>
    intro k t L hk hin h1 h31 h32 h33 hok
    obtain rfl : k = c.ops.length := by omega
    refine wo_loop ?_
    repeat (first | intro id | refine goq ?_)
    exact .inl ⟨rfl, hok⟩
  | succ d ih =>
    intro k t L hk hin h1 h31 h32 h33 hok
    have hkl : k < c.ops.length := by omega
    obtain ⟨q, ha⟩ := hcs.at hkl
    generalize hO : c.ops.getD k default = o at ha
    have hq := ha.hq
    have hq1 := RowA.isOne hq
    have hlt6 := ha.lt
    have hseg := ha.seg
    unfold opCells at hseg
    refine wo_loop ?_
    repeat (first | intro id | refine goq ?_)
    refine gok ?_
    refine (may_ok hF hmm hmg hma hmo hmt hmc hmi hq ha.b).mono ?_
    rintro r L' ⟨⟨x, rfl, hx⟩, rfl⟩
    cases x with
    | true =>
      repeat (first | intro id | refine goq ?_)
      refine ih (k + 1) _ _ (by omega) (.next hin) ?_ ?_ ?_ ?_ ?_
      · exact slotq
      · exact slotq
      · exact slotq
      · exact slotq
      · intro i hi
        by_cases e : i = k
        · subst e; rw [hO]; exact hx.1 rfl
        · exact hok i (by omega)
    | false =>
      repeat (first | intro id | refine goq ?_)
      refine .inr ⟨rfl, ⟨k, by exact slotq⟩, by exact slotq, fun h => ?_⟩
      have := hx.2 (by rw [← hO]; exact h k hkl)
      cases this
theorem Check_okC (hF : E.fns = fnsT) (hm : E.mode f_circuit_Check = .iso false) (hmm : E.mode f_circuit_may = .iso false) (hmg : E.mode f_gate_Check = .iso false) (hma : E.mode f_gate_Arity = .iso false) (hmo : E.mode f_gate_of = .iso false) (hmt : E.mode f_gate_table = .iso false) (hmc : E.mode f_slices_Contains_int_int = .iso false) (hmi : E.mode f_slices_Index_int_int = .iso false)
    {c : CircD} {v : AVal} (hv : CircA v c) : CallO E f_circuit_Check [v] L fun r L' => chkE c r ∧ L' = L := by
  refine callO_iso0 (R := chkE c) hm (fns_of hF n_circuit_Check) (vs_bare hv.bare vs_nil) ?_
  obtain ⟨s, rfl, cs, hr, hcs, hlt⟩ := hv
  have hs1 := RowA.isOne hr
  refine bodyO_of (Nat.le_of_ble_eq_true rfl) ?_; generalize ht : argSlots _ 0 .nil = t; have h0 : t.get 0 = some _ := (by rw [← ht]; rfl); clear ht
  repeat' (first | intro id | refine goq ?_ | (refine oo_guard (by exact slotq) (fun hc => ?_) (fun hc => ?_) <;> (fail_if_success (exact absurd hc (by decide))) <;> rw [hc] <;> (try simp only [decide_eq_true_eq, decide_eq_false_iff_not, ne_eq, Decidable.not_not] at hc)) | (refine wo_cond_if (by exact slotq) (fun hc => ?_) (fun hc => ?_) <;> (try simp only [decide_eq_true_eq, decide_eq_false_iff_not, ne_eq, Decidable.not_not] at hc)) | ((first | apply retO_r | apply retO_n); (focus (exact resq))))
  all_goals (first | (refine ⟨rfl, _, _, rfl, ?_⟩; exact .inr ⟨rfl, fun h => by have := h.q0; have := h.q1; have := h.b0; have := h.b1; have := h.len; omega⟩) | skip)
  refine WpO.mono (ccheck_l0 hF hmm hmg hma hmo hmt hmc hmi hr hcs hlt c.ops.length 0 _ _ (by omega) .here ?_ ?_ ?_ ?_ (fun i hi => by omega)) ?_
  · exact slotq
  · exact slotq
  · exact slotq
  · exact slotq
  rintro ex t' L' (⟨rfl, hall⟩ | ⟨rfl, ⟨j, g2⟩, g3, hno⟩)
  · repeat (first | intro id | refine goq ?_)
    ((first | apply retO_r | apply retO_n); (focus (exact resq)))
    exact ⟨rfl, 0, 0, rfl, .inl ⟨rfl, by constructor <;> first | assumption | omega⟩⟩
  · repeat (first | intro id | refine goq ?_)
    ((first | apply retO_r | apply retO_n); (focus (exact resq)))
    exact ⟨rfl, j, 80, rfl, .inr ⟨rfl, fun h => hno h.ok⟩⟩
end Go.Proofs.YtmflheoafeenfaaGreat
namespace Go.Proofs.YtmflheoafeenfaaGreat
open Go.Am
set_option maxRecDepth 4000
set_option maxHeartbeats 8000000
variable {E : Env} {L : Hp}
theorem rOp_ok (hF : E.fns = fnsT) (hm : E.mode f_phasorref08_Op = .iso false) (hmg : E.mode f_phasorref06_Check = .iso false) (hma : E.mode f_phasorref06_Arity = .iso false) (hmi : E.mode f_phasorref06_Is = .iso false) (hmu : E.mode f_phasorref08_unlike = .iso false)
    {n b : Int} {q : AVal} {o : OpD} (hq : SlI q o.qs) (hlt : o.qs.length < 2 ^ 62) : CallO E f_phasorref08_Op [.agg (opCells q o), aint n, aint b] L fun r L' => (∃ x, r = abool x ∧ (x = true ↔ OpOk o n b)) ∧ L' = L := by
  refine callO_iso0 (R := fun r => ∃ x, r = abool x ∧ (x = true ↔ OpOk o n b)) hm (fns_of hF n_phasorref08_Op) (vs_bare ?_ (vs_bare rfl (vs_bare rfl vs_nil))) ?_
  · simp [opCells, AVal.bare, bareAll, aint, bare_SlI hq]
  have hq1 := RowA.isOne hq
  unfold opCells
  refine bodyO_of (Nat.le_of_ble_eq_true rfl) ?_; generalize ht : argSlots _ 0 .nil = t; have h0 : t.get 0 = some _ := (by rw [← ht]; rfl); have h1 : t.get 1 = some _ := (by rw [← ht]; rfl); have h2 : t.get 2 = some _ := (by rw [← ht]; rfl); clear ht
  by_cases c1 : o.kind = 1
  · repeat' (first | intro id | refine goq ?_ | (refine oo_guard (by exact slotq) (fun hc => ?_) (fun hc => ?_) <;> (fail_if_success (exact absurd hc (by decide))) <;> rw [hc] <;> (try simp only [decide_eq_true_eq, decide_eq_false_iff_not, ne_eq, Decidable.not_not] at hc)) | (refine wo_cond_if (by exact slotq) (fun hc => ?_) (fun hc => ?_) <;> (try simp only [decide_eq_true_eq, decide_eq_false_iff_not, ne_eq, Decidable.not_not] at hc)) | ((first | apply retO_r | apply retO_n); (focus (exact resq))))
    all_goals (refine gok ?_)
    all_goals (refine (rCheck_ok hF hmg hma hmi hq hlt).mono ?_; rintro r L' ⟨⟨e, rfl, ⟨rfl, e1, e2, e3⟩ | ⟨rfl, e1⟩ | ⟨rfl, e1, e2⟩⟩, rfl⟩)
    all_goals (repeat' (first | intro id | refine goq ?_ | (refine oo_guard (by exact slotq) (fun hc => ?_) (fun hc => ?_) <;> (fail_if_success (exact absurd hc (by decide))) <;> rw [hc] <;> (try simp only [decide_eq_true_eq, decide_eq_false_iff_not, ne_eq, Decidable.not_not] at hc)) | (refine wo_cond_if (by exact slotq) (fun hc => ?_) (fun hc => ?_) <;> (try simp only [decide_eq_true_eq, decide_eq_false_iff_not, ne_eq, Decidable.not_not] at hc)) | ((first | apply retO_r | apply retO_n); (focus (exact resq)))))
    all_goals (refine ⟨rfl, _, rfl, ?_⟩; unfold OpOk condOk; grind)
  · repeat' (first | intro id | refine goq ?_ | (refine oo_guard (by exact slotq) (fun hc => ?_) (fun hc => ?_) <;> (fail_if_success (exact absurd hc (by decide))) <;> rw [hc] <;> (try simp only [decide_eq_true_eq, decide_eq_false_iff_not, ne_eq, Decidable.not_not] at hc)) | (refine wo_cond_if (by exact slotq) (fun hc => ?_) (fun hc => ?_) <;> (try simp only [decide_eq_true_eq, decide_eq_false_iff_not, ne_eq, Decidable.not_not] at hc)) | ((first | apply retO_r | apply retO_n); (focus (exact resq))))
    all_goals (first | (refine ⟨rfl, _, rfl, ?_⟩; unfold OpOk condOk; grind; done) | skip)
    all_goals (refine gok ?_)
    all_goals (refine (unlike_ok hF hmu hq hlt).mono ?_; rintro r L' ⟨⟨x, rfl, hx⟩, rfl⟩)
    all_goals (repeat' (first | intro id | refine goq ?_ | (refine oo_guard (by exact slotq) (fun hc => ?_) (fun hc => ?_) <;> (fail_if_success (exact absurd hc (by decide))) <;> rw [hc] <;> (try simp only [decide_eq_true_eq, decide_eq_false_iff_not, ne_eq, Decidable.not_not] at hc)) | (refine wo_cond_if (by exact slotq) (fun hc => ?_) (fun hc => ?_) <;> (try simp only [decide_eq_true_eq, decide_eq_false_iff_not, ne_eq, Decidable.not_not] at hc)) | ((first | apply retO_r | apply retO_n); (focus (exact resq)))))
    all_goals (refine ⟨rfl, _, rfl, ?_⟩; unfold OpOk condOk; grind)
end Go.Proofs.YtmflheoafeenfaaGreat
namespace Go.Proofs.YtmflheoafeenfaaGreat
open Go.Am
set_option maxRecDepth 4000
set_option maxHeartbeats 8000000
variable {E : Env} {L : Hp}
theorem rcheck8_l0 (hF : E.fns = fnsT) (hmo : E.mode f_phasorref08_Op = .iso false) (hmg : E.mode f_phasorref06_Check = .iso false) (hma : E.mode f_phasorref06_Arity = .iso false) (hmi : E.mode f_phasorref06_Is = .iso false) (hmu : E.mode f_phasorref08_unlike = .iso false) (hst : still E c_phasorref08_Check_r5 = true)
    {c : CircD} {s : AVal} {cs : List AVal} {i1 : Nat} (hr : RowA s cs c.ops.length) (hcs : OpsC cs c.ops) (hlt : c.ops.length < 2 ^ 62) :
    ∀ (d k : Nat) (t : Tr AVal) (L : Hp), d + k = c.ops.length → In i1 [aint c.qubits, aint c.bits, s] L → t.get 1 = some (.ptr i1 0) → t.get 4 = some (aint k) → (∀ i, i < k → OpOk (c.ops.getD i default) c.qubits c.bits) →
    WpO E (.loop c_phasorref08_Check_l0) t L (fun ex t' L' => (ex = .exit 0 ∧ (∀ i, i < c.ops.length → OpOk (c.ops.getD i default) c.qubits c.bits)) ∨ (ex = .ret ∧ (∃ j : Nat, t'.get 2 = some (aint j)) ∧ t'.get 3 = some (aint 80) ∧ ¬ (∀ i, i < c.ops.length → OpOk (c.ops.getD i default) c.qubits c.bits))) := by
  have hs1 := RowA.isOne hr
  intro d
  induction d with
  | zero =>
    intro k t L hk hin h1 h4 hok
    obtain rfl : k = c.ops.length := by omega
    refine wo_loop ?_
    repeat (first | intro id | refine goq ?_)
    exact .inl ⟨rfl, hok⟩
  | succ d ih =>
    intro k t L hk hin h1 h4 hok
    have hkl : k < c.ops.length := by omega
    obtain ⟨q, ha⟩ := hcs.at hkl
    generalize hO : c.ops.getD k default = o at ha
    have hq := ha.hq
    have hq1 := RowA.isOne hq
    have hlt6 := ha.lt
    have hseg := ha.seg
    unfold opCells at hseg
    refine wo_loop ?_
    repeat (first | intro id | refine goq ?_)
    refine gok ?_
    refine (rOp_ok hF hmo hmg hma hmi hmu hq ha.b).mono ?_
    rintro r L' ⟨⟨x, rfl, hx⟩, rfl⟩
    cases x with
    | true =>
      repeat (first | intro id | refine goq ?_)
      refine ih (k + 1) _ _ (by omega) hin ?_ ?_ ?_
      · exact slotq
      · exact slotq
      · intro i hi
        by_cases e : i = k
        · subst e; rw [hO]; exact hx.1 rfl
        · exact hok i (by omega)
    | false =>
      repeat (first | intro id | refine goq ?_)
      refine .inr ⟨rfl, ⟨k, by exact slotq⟩, by exact slotq, fun h => ?_⟩
      have := hx.2 (by rw [← hO]; exact h k hkl)
      cases this
theorem rCheck8_ok (hF : E.fns = fnsT) (hm : E.mode f_phasorref08_Check = .iso false) (hmo : E.mode f_phasorref08_Op = .iso false) (hmg : E.mode f_phasorref06_Check = .iso false) (hma : E.mode f_phasorref06_Arity = .iso false) (hmi : E.mode f_phasorref06_Is = .iso false) (hmu : E.mode f_phasorref08_unlike = .iso false) (hst : still E c_phasorref08_Check_r5 = true)
    {c : CircD} {v : AVal} (hv : CircA v c) : CallO E f_phasorref08_Check [v] L fun r L' => chkE c r ∧ L' = L := by
  refine callO_iso0 (R := chkE c) hm (fns_of hF n_phasorref08_Check) (vs_bare hv.bare vs_nil) ?_
  obtain ⟨s, rfl, cs, hr, hcs, hlt⟩ := hv
  have hs1 := RowA.isOne hr
  refine bodyO_of (Nat.le_of_ble_eq_true rfl) ?_; generalize ht : argSlots _ 0 .nil = t; have h0 : t.get 0 = some _ := (by rw [← ht]; rfl); clear ht
  repeat' (first | intro id | refine goq ?_ | (refine oo_guard (by exact slotq) (fun hc => ?_) (fun hc => ?_) <;> (fail_if_success (exact absurd hc (by decide))) <;> rw [hc] <;> (try simp only [decide_eq_true_eq, decide_eq_false_iff_not, ne_eq, Decidable.not_not] at hc)) | (refine wo_cond_if (by exact slotq) (fun hc => ?_) (fun hc => ?_) <;> (try simp only [decide_eq_true_eq, decide_eq_false_iff_not, ne_eq, Decidable.not_not] at hc)) | ((first | apply retO_r | apply retO_n); (focus (exact resq))))
  all_goals (first | (refine ⟨rfl, _, _, rfl, ?_⟩; exact .inr ⟨rfl, fun h => by have := h.q0; have := h.q1; have := h.b0; have := h.b1; have := h.len; omega⟩) | skip)
  refine WpO.mono (rcheck8_l0 hF hmo hmg hma hmi hmu hst hr hcs hlt c.ops.length 0 _ _ (by omega) .here ?_ ?_ (fun i hi => by omega)) ?_
  · exact slotq
  · exact slotq
  rintro ex t' L' (⟨rfl, hall⟩ | ⟨rfl, ⟨j, g2⟩, g3, hno⟩)
  · repeat (first | intro id | refine goq ?_)
    ((first | apply retO_r | apply retO_n); (focus (exact resq)))
    exact ⟨rfl, 0, 0, rfl, .inl ⟨rfl, by constructor <;> first | assumption | omega⟩⟩
  · repeat (first | intro id | refine goq ?_)
    ((first | apply retO_r | apply retO_n); (focus (exact resq)))
    exact ⟨rfl, j, 80, rfl, .inr ⟨rfl, fun h => hno h.ok⟩⟩
theorem May_ok (hF : E.fns = fnsT) (hm : E.mode f_phasorref08_May = .iso false) (hmk : E.mode f_phasorref08_Check = .iso false) (hmo : E.mode f_phasorref08_Op = .iso false) (hmg : E.mode f_phasorref06_Check = .iso false) (hma : E.mode f_phasorref06_Arity = .iso false) (hmi : E.mode f_phasorref06_Is = .iso false) (hmu : E.mode f_phasorref08_unlike = .iso false) (hst : still E c_phasorref08_Check_r5 = true)
    {c : CircD} {v : AVal} (hv : CircA v c) : CallO E f_phasorref08_May [v] L fun r L' => (∃ x, r = abool x ∧ (x = true ↔ CircOk c)) ∧ L' = L := by
  refine callO_iso0 (R := fun r => ∃ x, r = abool x ∧ (x = true ↔ CircOk c)) hm (fns_of hF n_phasorref08_May) (vs_bare hv.bare vs_nil) ?_
  have hv0 := hv
  obtain ⟨s, rfl, cs, hr, hcs, hlt⟩ := hv
  have hs1 := RowA.isOne hr
  refine bodyO_of (Nat.le_of_ble_eq_true rfl) ?_; generalize ht : argSlots _ 0 .nil = t; have h0 : t.get 0 = some _ := (by rw [← ht]; rfl); clear ht
  repeat (first | intro id | refine goq ?_)
  refine gok ?_
  refine (rCheck8_ok hF hmk hmo hmg hma hmi hmu hst hv0).mono ?_
  rintro r L' ⟨⟨i, e, rfl, ⟨rfl, h⟩ | ⟨rfl, h⟩⟩, rfl⟩
  · repeat (first | intro id | refine goq ?_)
    ((first | apply retO_r | apply retO_n); (focus (exact resq)))
    exact ⟨rfl, true, rfl, by simp [h]⟩
  · repeat (first | intro id | refine goq ?_)
    ((first | apply retO_r | apply retO_n); (focus (exact resq)))
    exact ⟨rfl, false, rfl, by simp [h]⟩

end Go.Proofs.YtmflheoafeenfaaGreat
namespace Go.Proofs.YtmflheoafeenfaaGreat
open Go.Am
set_option maxRecDepth 4000
set_option maxHeartbeats 8000000
variable {E : Env} {L : Hp}
/-! Held against each other -/
theorem ints8_l0 {la lb : List Int} {va vb : AVal} (ha : SlI va la) (hb : SlI vb lb) (hl : la.length = lb.length) (hlt : la.length < 2 ^ 62) : ∀ (d k : Nat) (t : Tr AVal), d + k = la.length → t.get 0 = some va → t.get 1 = some vb → t.get 5 = some (aint k) →
    WpO E (.loop c_phasorref08_ints_l0) t L (fun ex t' _ => (ex = .exit 0 ∧ la.drop k = lb.drop k) ∨ (ex = .ret ∧ t'.get 4 = some (abool false) ∧ la.drop k ≠ lb.drop k)) := by
  intro d
  induction d with
  | zero =>
    intro k t hk h0 h1 h5
    refine wo_loop ?_
    repeat (first | intro id | refine goq ?_)
    refine .inl ⟨rfl, ?_⟩
    rw [List.drop_of_length_le (by omega), List.drop_of_length_le (by omega)]
  | succ d ih =>
    intro k t hk h0 h1 h5
    refine wo_loop ?_
    have hde := drop_eq 0 hl (show k < la.length by omega)
    by_cases c : la.getD k 0 = lb.getD k 0
    · repeat (first | intro id | refine goq ?_)
      refine WpO.mono (ih (k + 1) _ (by omega) (by exact slotq) (by exact slotq) (by exact slotq)) fun ex t' L' hq => ?_
      simp only [c, true_and] at hde
      simp only [ne_eq, hde]
      exact hq
    · repeat (first | intro id | refine goq ?_)
      exact .inr ⟨rfl, by exact slotq, fun he => c (hde.1 he).1⟩
theorem ints8_ok (hF : E.fns = fnsT) (hm : E.mode f_phasorref08_ints = .iso false) {a b va vb : AVal} {la lb : List Int} (hv : ViewsO L [a, b] [va, vb]) (ha : SlI va la) (hb : SlI vb lb) (hlt : la.length < 2 ^ 62) :
    CallO E f_phasorref08_ints [a, b] L fun v L' => v = abool (decide (la = lb)) ∧ L' = L := by
  refine callO_iso0 hm (fns_of hF n_phasorref08_ints) hv ?_
  have ha1 := RowA.isOne ha
  have hb1 := RowA.isOne hb
  refine bodyO_of (Nat.le_of_ble_eq_true rfl) ?_; generalize ht : argSlots _ 0 .nil = t; have h0 : t.get 0 = some _ := (by rw [← ht]; rfl); have h1 : t.get 1 = some _ := (by rw [← ht]; rfl); clear ht
  by_cases hl : la.length = lb.length
  · repeat (first | intro id | refine goq ?_)
    refine WpO.mono (ints8_l0 ha hb hl hlt la.length 0 _ (by omega) (by exact slotq) (by exact slotq) (by exact slotq)) fun ex t' L' hq => ?_
    obtain ⟨rfl, hq2⟩ | ⟨rfl, hq2, hq3⟩ := hq
    · simp only [List.drop_zero] at hq2
      repeat (first | intro id | refine goq ?_)
      ((first | apply retO_r | apply retO_n); (focus (exact resq)))
      exact ⟨rfl, by rw [decide_eq_true hq2]; rfl⟩
    · simp only [List.drop_zero] at hq3
      repeat (first | intro id | refine goq ?_)
      ((first | apply retO_r | apply retO_n); (focus (exact resq)))
      exact ⟨rfl, by rw [decide_eq_false hq3]; rfl⟩
  · repeat (first | intro id | refine goq ?_)
    ((first | apply retO_r | apply retO_n); (focus (exact resq)))
    exact ⟨rfl, by rw [decide_eq_false (by rintro rfl; exact hl rfl)]; rfl⟩
theorem SameOp_ok (hF : E.fns = fnsT) (hm : E.mode f_phasorref08_SameOp = .iso false) (hmi : E.mode f_phasorref08_ints = .iso false) {p q : AVal} {a b : OpD} (hp : SlI p a.qs) (hq : SlI q b.qs) (hlt : a.qs.length < 2 ^ 62) :
    CallO E f_phasorref08_SameOp [.agg (opCells p a), .agg (opCells q b)] L fun v L' => (∃ x, v = abool x ∧ (x = true ↔ a = b)) ∧ L' = L := by
  refine callO_iso0 (R := fun v => ∃ x, v = abool x ∧ (x = true ↔ a = b)) hm (fns_of hF n_phasorref08_SameOp) (vs_bare ?_ (vs_bare ?_ vs_nil)) ?_
  · simp [opCells, AVal.bare, bareAll, aint, bare_SlI hp]
  · simp [opCells, AVal.bare, bareAll, aint, bare_SlI hq]
  have hp1 := RowA.isOne hp
  have hq1 := RowA.isOne hq
  unfold opCells
  obtain ⟨a1, a2, a3, a4, a5, a6⟩ := a
  obtain ⟨b1, b2, b3, b4, b5, b6⟩ := b
  simp only at hp hq hlt ⊢
  simp only [OpD.mk.injEq]
  refine bodyO_of (Nat.le_of_ble_eq_true rfl) ?_; generalize ht : argSlots _ 0 .nil = t; have h0 : t.get 0 = some _ := (by rw [← ht]; rfl); have h1 : t.get 1 = some _ := (by rw [← ht]; rfl); clear ht
  repeat' (first | intro id | refine goq ?_ | (refine oo_guard (by exact slotq) (fun hc => ?_) (fun hc => ?_) <;> (fail_if_success (exact absurd hc (by decide))) <;> rw [hc] <;> (try simp only [decide_eq_true_eq, decide_eq_false_iff_not, ne_eq, Decidable.not_not] at hc)) | (refine wo_cond_if (by exact slotq) (fun hc => ?_) (fun hc => ?_) <;> (try simp only [decide_eq_true_eq, decide_eq_false_iff_not, ne_eq, Decidable.not_not] at hc)) | ((first | apply retO_r | apply retO_n); (focus (exact resq))))
  all_goals (first | (refine ⟨rfl, false, rfl, ?_⟩; simp only [Bool.false_eq_true, false_iff]; intro h; omega) | skip)
  refine gok ?_
  refine (ints8_ok hF hmi (vs_bare (bare_SlI hp) (vs_bare (bare_SlI hq) vs_nil)) hp hq hlt).mono ?_
  rintro r L' ⟨rfl, rfl⟩
  repeat (first | intro id | refine goq ?_)
  ((first | apply retO_r | apply retO_n); (focus (exact resq)))
  refine ⟨rfl, decide (a3 = b3), rfl, ?_⟩
  simp only [decide_eq_true_eq]
  exact ⟨fun h => ⟨by omega, by omega, h, by omega, by omega, by omega⟩, fun h => h.2.2.1⟩
theorem same8_l0 (hF : E.fns = fnsT) (hms : E.mode f_phasorref08_SameOp = .iso false) (hmi : E.mode f_phasorref08_ints = .iso false) (hst : still E c_phasorref08_Same_r5 = true) {a b : List OpD} {va vb : AVal} {ca cb : List AVal} {na ba nb bb : Int} {i2 i3 : Nat} (ha : RowA va ca a.length) (hca : OpsC ca a) (hb : RowA vb cb b.length) (hcb : OpsC cb b) (hl : a.length = b.length) (hlt : a.length < 2 ^ 62)
    (hi2 : In i2 [aint na, aint ba, va] L) (hi3 : In i3 [aint nb, aint bb, vb] L) :
    ∀ (d k : Nat) (t : Tr AVal), d + k = a.length → t.get 2 = some (.ptr i2 0) → t.get 3 = some (.ptr i3 0) → t.get 5 = some (aint k) →
    WpO E (.loop c_phasorref08_Same_l0) t L (fun ex t' _ => (ex = .exit 0 ∧ a.drop k = b.drop k) ∨ (ex = .ret ∧ t'.get 4 = some (abool false) ∧ a.drop k ≠ b.drop k)) := by
  have ha1 := RowA.isOne ha
  have hb1 := RowA.isOne hb
  intro d
  induction d with
  | zero =>
    intro k t hk h2 h3 h5
    refine wo_loop ?_
    repeat (first | intro id | refine goq ?_)
    refine .inl ⟨rfl, ?_⟩
    rw [List.drop_of_length_le (by omega), List.drop_of_length_le (by omega)]
  | succ d ih =>
    intro k t hk h2 h3 h5
    refine wo_loop ?_
    have hde := drop_eq default hl (show k < a.length by omega)
    obtain ⟨p, hp, hpl, hp6, hps⟩ := hca.getE (show k < a.length by omega)
    obtain ⟨q, hq, hql, hq6, hqs⟩ := hcb.getE (show k < b.length by omega)
    have hp1 := RowA.isOne hp
    have hq1 := RowA.isOne hq
    generalize a.getD k default = x at *
    generalize b.getD k default = y at *
    repeat (first | intro id | refine goq ?_)
    refine gok ?_
    refine (SameOp_ok hF hms hmi hp hq hpl).mono ?_
    rintro r L' ⟨⟨z, rfl, hz⟩, rfl⟩
    cases z with
    | true =>
      have e := hz.1 rfl
      repeat (first | intro id | refine goq ?_)
      refine WpO.mono (ih (k + 1) _ (by omega) (by exact slotq) (by exact slotq) (by exact slotq)) fun ex t' L' hq => ?_
      simp only [e, true_and] at hde
      simp only [ne_eq, hde]
      exact hq
    | false =>
      repeat (first | intro id | refine goq ?_)
      refine .inr ⟨rfl, by exact slotq, fun he => ?_⟩
      have := hz.2 (hde.1 he).1
      cases this
theorem Same8_ok (hF : E.fns = fnsT) (hm : E.mode f_phasorref08_Same = .iso false) (hms : E.mode f_phasorref08_SameOp = .iso false) (hmi : E.mode f_phasorref08_ints = .iso false) (hst : still E c_phasorref08_Same_r5 = true) {a b : AVal} {va vb : AVal} {c d : CircD} (hv : ViewsO L [a, b] [va, vb]) (hc : CircA va c) (hd : CircA vb d) :
    CallO E f_phasorref08_Same [a, b] L fun v L' => (∃ x, v = abool x ∧ (x = true ↔ c = d)) ∧ L' = L := by
  refine callO_iso0 (R := fun v => ∃ x, v = abool x ∧ (x = true ↔ c = d)) hm (fns_of hF n_phasorref08_Same) hv ?_
  obtain ⟨sa, rfl, ca, ha, hca, hlt⟩ := hc
  obtain ⟨sb, rfl, cb, hb, hcb, -⟩ := hd
  have ha1 := RowA.isOne ha
  have hb1 := RowA.isOne hb
  obtain ⟨c1, c2, c3⟩ := c
  obtain ⟨d1, d2, d3⟩ := d
  simp only at *
  simp only [CircD.mk.injEq]
  refine bodyO_of (Nat.le_of_ble_eq_true rfl) ?_; generalize ht : argSlots _ 0 .nil = t; have h0 : t.get 0 = some _ := (by rw [← ht]; rfl); have h1 : t.get 1 = some _ := (by rw [← ht]; rfl); clear ht
  repeat' (first | intro id | refine goq ?_ | (refine oo_guard (by exact slotq) (fun hc => ?_) (fun hc => ?_) <;> (fail_if_success (exact absurd hc (by decide))) <;> rw [hc] <;> (try simp only [decide_eq_true_eq, decide_eq_false_iff_not, ne_eq, Decidable.not_not] at hc)) | (refine wo_cond_if (by exact slotq) (fun hc => ?_) (fun hc => ?_) <;> (try simp only [decide_eq_true_eq, decide_eq_false_iff_not, ne_eq, Decidable.not_not] at hc)) | ((first | apply retO_r | apply retO_n); (focus (exact resq))))
  all_goals (first | (refine ⟨rfl, false, rfl, ?_⟩; simp only [Bool.false_eq_true, false_iff]; rintro ⟨h1, h2, h3⟩; first | omega | (subst h3; omega)) | skip)
  refine WpO.mono (same8_l0 hF hms hmi hst ha hca hb hcb (by omega) hlt (.next .here) .here c3.length 0 _ (by omega) (by exact slotq) (by exact slotq) (by exact slotq)) ?_
  rintro ex t' L' (⟨rfl, he⟩ | ⟨rfl, g4, he⟩)
  · simp only [List.drop_zero] at he
    repeat (first | intro id | refine goq ?_)
    ((first | apply retO_r | apply retO_n); (focus (exact resq)))
    exact ⟨rfl, true, rfl, by simp [he]; omega⟩
  · simp only [List.drop_zero] at he
    repeat (first | intro id | refine goq ?_)
    ((first | apply retO_r | apply retO_n); (focus (exact resq)))
    exact ⟨rfl, false, rfl, by simp [he]⟩
end Go.Proofs.YtmflheoafeenfaaGreat
namespace Go.Proofs.YtmflheoafeenfaaGreat
open Go.Am
set_option maxRecDepth 4000
set_option maxHeartbeats 8000000
variable {E : Env} {L : Hp}
theorem OpsC.append {cs ds : List AVal} {os ps : List OpD} (h : OpsC cs os) (k : OpsC ds ps) : OpsC (cs ++ ds) (os ++ ps) := by
  induction h with
  | nil => exact k
  | cons hq hb h ih => rw [List.append_assoc, List.cons_append]; exact .cons hq hb ih
theorem OpsC.drop {cs : List AVal} {os : List OpD} (h : OpsC cs os) : ∀ k, OpsC (cs.drop (k * 6)) (os.drop k) := by
  induction h with
  | nil => intro k; simp; exact .nil
  | @cons q o cs os hq hb h ih =>
    intro k
    cases k with
    | zero => simpa using OpsC.cons hq hb h
    | succ k =>
      have e : (opCells q o ++ cs).drop ((k + 1) * 6) = cs.drop (k * 6) := by
        have : (k + 1) * 6 = (opCells q o).length + k * 6 := by simp [opCells]; omega
        rw [this, List.drop_append, Nat.add_sub_cancel_left, List.drop_of_length_le (by omega), List.nil_append]
      rw [e, List.drop_succ_cons]
      exact ih k
theorem OpsC.take {cs : List AVal} {os : List OpD} (h : OpsC cs os) : ∀ k, OpsC (cs.take (k * 6)) (os.take k) := by
  induction h with
  | nil => intro k; simp; exact .nil
  | @cons q o cs os hq hb h ih =>
    intro k
    cases k with
    | zero => simpa using OpsC.nil
    | succ k =>
      have e : (opCells q o ++ cs).take ((k + 1) * 6) = opCells q o ++ cs.take (k * 6) := by
        have : (k + 1) * 6 = (opCells q o).length + k * 6 := by simp [opCells]; omega
        rw [this, List.take_append, Nat.add_sub_cancel_left, List.take_of_length_le (by omega)]
      rw [e, List.take_succ_cons]
      exact .cons hq hb (ih k)
theorem OpsC.erase {cs : List AVal} {os : List OpD} (h : OpsC cs os) (k : Nat) : OpsC (cs.take (k * 6) ++ cs.drop ((k + 1) * 6)) (os.eraseIdx k) := by
  rw [List.eraseIdx_eq_take_drop_succ]
  exact (h.take k).append (h.drop (k + 1))
theorem OpsC.one {cs : List AVal} {os : List OpD} (h : OpsC cs os) : cs.all AVal.one = true := by
  induction h with
  | nil => rfl
  | @cons q o cs os hq hb h ih =>
    rw [List.all_append, ih]
    have hq1 := RowA.isOne hq
    simp only [opCells, List.all_cons, List.all_nil, hq1, Bool.and_true]
    rfl
theorem OpsC.viewL {k : Nat} {cs : List AVal} {os : List OpD} (h : OpsC cs os) : ViewL L (k + 1) cs cs := by
  induction h with
  | nil => exact vl_nil
  | @cons q o cs os hq hb h ih =>
    exact vl_app (vl_cons vo_sc (vl_cons vo_sc (vl_cons (vo_bareI hq) (vl_cons vo_sc (vl_cons vo_sc (vl_cons vo_sc vl_nil)))))) ih
/-- A row of operations in a box of its own, its qubits in rows that stay: seen. -/
theorem bufOps_view {k n : Nat} {a : AVal} {cs : List AVal} {os : List OpD} {B M : Hp} (hb : BufO 6 a cs n B) (hcs : OpsC cs os) (hn : n = os.length) (hlt : os.length < 2 ^ 62) (hM : ∀ id c, In id c B → In id c M) : ∃ u, ViewO M (k + 2) a u ∧ OpsA u os := by
  subst hn
  rcases bufInv hb with ⟨rfl, rfl, e, rfl⟩ | ⟨id, rfl, rfl⟩
  · exact ⟨anil, vo_sc, [], .inl ⟨rfl, e, rfl⟩, hcs, hlt⟩
  · exact ⟨_, vo_sl (hM _ _ .here) (seg_full hb.length) hcs.viewL, cs, .inr ⟨none, rfl⟩, hcs, hlt⟩
end Go.Proofs.YtmflheoafeenfaaGreat
namespace Go.Proofs.YtmflheoafeenfaaGreat
open Go.Am
set_option maxRecDepth 4000
set_option maxHeartbeats 8000000
variable {E : Env} {L : Hp}
end Go.Proofs.YtmflheoafeenfaaGreat
namespace Go.Proofs.YtmflheoafeenfaaGreat
open Go.Am
set_option maxRecDepth 4000
set_option maxHeartbeats 8000000
variable {E : Env} {L : Hp}
def zeroC : List AVal := [aint 0, aint 0, anil]
/-- What Order tells, in rows that stay. -/
def OrdA (c : CircD) (r : AVal) : Prop := (¬ CircOk c ∧ r = .tup [.agg zeroC, aint 80]) ∨ (CircOk c ∧ ∃ s, r = .tup [.agg [aint c.qubits, aint c.bits, s], aint 0] ∧ OpsA s (ordL c.ops))
theorem vo_zeroC {e : Int} {M : Hp} : ViewO M 64 (.tup [.agg zeroC, aint e]) (.tup [.agg zeroC, aint e]) := vo_tup (vl_cons (vo_agg (vl_cons vo_sc (vl_cons vo_sc (vl_cons vo_sc vl_nil)))) (vl_cons vo_sc vl_nil))
/-- Whether two circuits come to the same order. -/
def ReoR (c d : CircD) (r : AVal) : Prop := (¬ (CircOk c ∧ CircOk d) ∧ r = .tup [abool false, aint 80]) ∨ (CircOk c ∧ CircOk d ∧ ∃ x, r = .tup [abool x, aint 0] ∧ (x = true ↔ (⟨c.qubits, c.bits, ordL c.ops⟩ : CircD) = ⟨d.qubits, d.bits, ordL d.ops⟩))
theorem OrdA.shape {c : CircD} {r : AVal} (h : OrdA c r) : ∃ (q b e : Int) (s : AVal) (os : List OpD), r = .tup [.agg [aint q, aint b, s], aint e] ∧ OpsA s os ∧ ((¬ CircOk c ∧ e = 80) ∨ (CircOk c ∧ e = 0 ∧ q = c.qubits ∧ b = c.bits ∧ os = ordL c.ops)) := by
  rcases h with ⟨h, rfl⟩ | ⟨h, s, rfl, hs⟩
  · exact ⟨0, 0, 80, anil, [], rfl, ⟨[], .inl ⟨rfl, rfl, rfl⟩, .nil, by simp⟩, .inl ⟨h, rfl⟩⟩
  · exact ⟨_, _, 0, s, _, rfl, hs, .inr ⟨h, rfl, rfl, rfl, rfl⟩⟩
end Go.Proofs.YtmflheoafeenfaaGreat
namespace Go.Proofs.YtmflheoafeenfaaGreat
open Go.Am
set_option maxRecDepth 4000
set_option maxHeartbeats 16000000
variable {E : Env} {L : Hp}
/-- Operations in boxes, by their numbers. -/
structure OpsF (cs : List AVal) (os : List OpD) (H : Hp) (u : Nat → AVal) (Bf : Nat → Hp) : Prop where
  len : cs.length = os.length * 6
  seg : ∀ k, k < os.length → seg cs (0 + k * 6) 6 = some (opCells (u k) (gO os k))
  own : ∀ k, k < os.length → OwnI (u k) (gO os k).qs (Bf k)
  ql : ∀ k, k < os.length → (gO os k).qs.length < 2 ^ 62
  H : H = (List.range os.length).flatMap Bf
theorem flatMap_congr' {α β : Type} {f g : α → List β} : ∀ {l : List α}, (∀ x ∈ l, f x = g x) → l.flatMap f = l.flatMap g
  | [], _ => rfl
  | x :: l, h => by rw [List.flatMap_cons, List.flatMap_cons, h x (by simp), flatMap_congr' (fun y hy => h y (by simp [hy]))]
theorem OpsB.fn {cs : List AVal} {os : List OpD} {H : Hp} (h : OpsB cs os H) : ∃ u Bf, OpsF cs os H u Bf := by
  induction h with
  | nil => exact ⟨fun _ => anil, fun _ => [], rfl, fun k hk => by simp at hk, fun k hk => by simp at hk, fun k hk => by simp at hk, rfl⟩
  | @snoc cs os H B u o h hq hb ih =>
    obtain ⟨u0, Bf, ih⟩ := ih
    have hl := ih.len
    have g1 : ∀ k, k < os.length → gO (os ++ [o]) k = gO os k := fun k hk => by simp [gO, List.getElem?_append_left hk]
    have g2 : gO (os ++ [o]) os.length = o := by simp [gO]
    refine ⟨fun k => if k = os.length then u else u0 k, fun k => if k = os.length then B else Bf k, ?_, ?_, ?_, ?_, ?_⟩
    · simp [hl, opCells]; omega
    · intro k hk
      by_cases e : k = os.length
      · subst e
        rw [if_pos rfl, g2, Am.seg, if_pos (by simp [hl, opCells]), Nat.zero_add, ← hl, List.drop_left]
        simp [opCells]
      · have hk2 : k < os.length := by simp at hk; omega
        rw [if_neg e, g1 k hk2]
        have hs := ih.seg k hk2
        unfold Am.seg at hs ⊢
        split at hs
        · rename_i hle
          rw [if_pos (by simp; omega), List.drop_append_of_le_length (by omega), List.take_append_of_le_length (by simp; omega)]
          exact hs
        · cases hs
    · intro k hk
      by_cases e : k = os.length
      · subst e
        rw [if_pos rfl, if_pos rfl, g2]
        exact hq
      · have hk2 : k < os.length := by simp at hk; omega
        rw [if_neg e, if_neg e, g1 k hk2]
        exact ih.own k hk2
    · intro k hk
      by_cases e : k = os.length
      · subst e
        rw [g2]
        exact hb
      · have hk2 : k < os.length := by simp at hk; omega
        rw [g1 k hk2]
        exact ih.ql k hk2
    · rw [List.length_append, List.length_singleton, List.range_succ, List.flatMap_append, ih.H]
      congr 1
      · refine flatMap_congr' fun x hx => ?_
        rw [if_neg (by have := List.mem_range.1 hx; omega)]
      · simp
theorem OpsF.box {cs : List AVal} {os : List OpD} {H : Hp} {u : Nat → AVal} {Bf : Nat → Hp} (h : OpsF cs os H u Bf) {k : Nat} (hk : k < os.length) : ∀ id c, In id c (Bf k) → In id c H := by
  intro id c hi
  rw [h.H]
  have : ∀ (l : List Nat), k ∈ l → In id c (l.flatMap Bf) := by
    intro l
    induction l with
    | nil => intro h; simp at h
    | cons x l ih =>
      intro hm
      rw [List.flatMap_cons]
      rcases List.mem_cons.1 hm with rfl | hm
      · exact hi.appl
      · exact (ih hm).app
  exact this _ (List.mem_range.2 hk)
theorem OwnI.views {v : AVal} {o : OpD} {B : Hp} (h : OwnI v o.qs B) : ∃ q, SlI q o.qs ∧ ∀ M : Hp, (∀ id c, In id c B → In id c M) → ∀ vs us, ViewsO M vs us → ViewsO M (.agg (opCells v o) :: vs) (opV q o :: us) := by
  rcases h with ⟨rfl, e, rfl⟩ | ⟨id, cap, rfl, rfl⟩
  · have hq : SlI anil o.qs := by rw [e]; exact .inl ⟨rfl, rfl, rfl⟩
    exact ⟨anil, hq, fun M _ vs us hv => vs_bare (bare_opV hq) hv⟩
  · refine ⟨.rs (o.qs.map aint) o.qs.length cap, .inr ⟨cap, rfl⟩, fun M hM vs us hv => vs_view rfl ?_ hv⟩
    exact vo_agg (vl_cons vo_sc (vl_cons vo_sc (vl_cons (vo_sl (hM _ _ .here) (by rw [Nat.mul_one]; exact seg_full (by simp)) (vl_sc (sc_ints o.qs))) (vl_cons vo_sc (vl_cons vo_sc (vl_cons vo_sc vl_nil))))))
end Go.Proofs.YtmflheoafeenfaaGreat
namespace Go.Proofs.YtmflheoafeenfaaGreat
open Go.Am
set_option maxRecDepth 4000
set_option maxHeartbeats 16000000
variable {E : Env} {L : Hp}
end Go.Proofs.YtmflheoafeenfaaGreat
namespace Go.Proofs.YtmflheoafeenfaaGreat
open Go.Am
set_option maxRecDepth 4000
set_option maxHeartbeats 16000000
variable {E : Env} {L : Hp}
/-- What Order tells, in boxes of its own. -/
def OrdO (c : CircD) (r : AVal) (B : Hp) : Prop := (¬ CircOk c ∧ r = .tup [.agg zeroC, aint 80] ∧ B = []) ∨ (CircOk c ∧ ∃ v, r = .tup [v, aint 0] ∧ CircO v ⟨c.qubits, c.bits, ordL c.ops⟩ B)
end Go.Proofs.YtmflheoafeenfaaGreat
namespace Go.Proofs.YtmflheoafeenfaaGreat
open Go.Am
set_option maxRecDepth 4000
set_option maxHeartbeats 16000000
variable {E : Env} {L : Hp}
theorem equalI_l0 (hst : still E c_slices_Equal_int_int_r6 = true) {la lb : List Int} {va vb : AVal} (ha : SlI va la) (hb : SlI vb lb) (hl : la.length = lb.length) (hlt : la.length < 2 ^ 62) : ∀ (d k : Nat) (t : Tr AVal), d + k = la.length → t.get 0 = some va → t.get 1 = some vb → t.get 12 = some (aint la.length) → t.get 13 = some (aint k) →
    WpO E (.loop c_slices_Equal_int_int_l0) t L (fun ex t' _ => (ex = .exit 0 ∧ la.drop k = lb.drop k) ∨ (ex = .ret ∧ t'.get 4 = some (abool false) ∧ la.drop k ≠ lb.drop k)) := by
  have ha1 := RowA.isOne ha
  have hb1 := RowA.isOne hb
  intro d
  induction d with
  | zero =>
    intro k t hk h0 h1 h12 h13
    refine wo_loop ?_
    repeat (first | intro id | refine goq ?_)
    refine .inl ⟨rfl, ?_⟩
    rw [List.drop_of_length_le (by omega), List.drop_of_length_le (by omega)]
  | succ d ih =>
    intro k t hk h0 h1 h12 h13
    refine wo_loop ?_
    have hde := drop_eq 0 hl (show k < la.length by omega)
    by_cases c : la.getD k 0 = lb.getD k 0
    · repeat (first | intro id | refine goq ?_)
      refine WpO.mono (ih (k + 1) _ (by omega) (by exact slotq) (by exact slotq) (by exact slotq) (by exact slotq)) fun ex t' L' hq => ?_
      simp only [c, true_and] at hde
      simp only [ne_eq, hde]
      exact hq
    · repeat (first | intro id | refine goq ?_)
      exact .inr ⟨rfl, by exact slotq, fun he => c (hde.1 he).1⟩
theorem equalI_ok (hF : E.fns = fnsT) (hm : E.mode f_slices_Equal_int_int = .iso false) (hst : still E c_slices_Equal_int_int_r6 = true) {a b va vb : AVal} {la lb : List Int} (hv : ViewsO L [a, b] [va, vb]) (ha : SlI va la) (hb : SlI vb lb) (hlt : la.length < 2 ^ 62) :
    CallO E f_slices_Equal_int_int [a, b] L fun v L' => v = abool (decide (la = lb)) ∧ L' = L := by
  refine callO_iso0 hm (fns_of hF n_slices_Equal_int_int) hv ?_
  have ha1 := RowA.isOne ha
  have hb1 := RowA.isOne hb
  refine bodyO_of (Nat.le_of_ble_eq_true rfl) ?_; generalize ht : argSlots _ 0 .nil = t; have h0 : t.get 0 = some _ := (by rw [← ht]; rfl); have h1 : t.get 1 = some _ := (by rw [← ht]; rfl); clear ht
  by_cases hl : la.length = lb.length
  · repeat (first | intro id | refine goq ?_)
    refine WpO.mono (equalI_l0 hst ha hb hl hlt la.length 0 _ (by omega) (by exact slotq) (by exact slotq) (by exact slotq) (by exact slotq)) fun ex t' L' hq => ?_
    obtain ⟨rfl, hq2⟩ | ⟨rfl, hq2, hq3⟩ := hq
    · simp only [List.drop_zero] at hq2
      repeat (first | intro id | refine goq ?_)
      ((first | apply retO_r | apply retO_n); (focus (exact resq)))
      exact ⟨rfl, by rw [decide_eq_true hq2]; rfl⟩
    · simp only [List.drop_zero] at hq3
      repeat (first | intro id | refine goq ?_)
      ((first | apply retO_r | apply retO_n); (focus (exact resq)))
      exact ⟨rfl, by rw [decide_eq_false hq3]; rfl⟩
  · repeat (first | intro id | refine goq ?_)
    ((first | apply retO_r | apply retO_n); (focus (exact resq)))
    exact ⟨rfl, by rw [decide_eq_false (by rintro rfl; exact hl rfl)]; rfl⟩
end Go.Proofs.YtmflheoafeenfaaGreat
