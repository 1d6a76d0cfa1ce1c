/- Parts of the proof, joined by program: CiCM, CiCF, CiCR1, CiCR2, RtDist. -/
import Derived.Test.YtfaphhcloanhnaaPa9
set_option linter.unusedSimpArgs false
set_option linter.unusedVariables false
namespace Go.Proofs.Ytfaphhcloanhnaa
open Go.Am
set_option maxRecDepth 4000
set_option maxHeartbeats 8000000
variable {E : Env} {L : Hp}
theorem may_l0 (hF : E.fns = fnsT) (hmc : E.mode f_slices_Contains_int_int = .iso false) (hmi : E.mode f_slices_Index_int_int = .iso false) {q : AVal} {o : OpD} {n : Int} {i3 : Nat} (hq : SlI q o.qs) (hlt : o.qs.length < 2 ^ 62) :
    ∀ (d k : Nat) (t : Tr AVal), d + k = o.qs.length → t.get 1 = some (aint n) → t.get 3 = some (.ptr i3 0) → t.get 79 = some q → t.get 80 = some (aint o.qs.length) → t.get 81 = some (aint k) → (∀ i, i < k → okAt n o.qs i) →
    WpO E (.loop c_circuit_may_l0) t ((i3, opCells q o) :: L) (fun ex t' L' => L' = (i3, opCells q o) :: L ∧ ((ex = .exit 0 ∧ Keep [1, 2, 3] t t' ∧ Qs n o.qs) ∨ (ex = .ret ∧ t'.get 6 = some (abool false) ∧ ¬ Qs n o.qs))) := by
  have hq1 := RowA.isOne hq
  unfold opCells
  intro d
  induction d with
  | zero =>
    intro k t hk h1 h3 h79 h80 h81 hok
    obtain rfl : k = o.qs.length := by omega
    refine wo_loop ?_
    repeat (first | intro id | refine goq ?_)
    exact ⟨rfl, .inl ⟨rfl, by exact keepq, hok⟩⟩
  | succ d ih =>
    intro k t hk h1 h3 h79 h80 h81 hok
    have hkl : k < o.qs.length := by omega
    have hat := okAt_iff (n := n) hkl
    have hbad : ¬ okAt n o.qs k → ¬ Qs n o.qs := fun h hh => h (hh k hkl)
    refine wo_loop ?_
    by_cases c1 : o.qs.getD k 0 < 0
    · repeat (first | intro id | refine goq ?_)
      exact ⟨rfl, .inr ⟨rfl, by exact slotq, hbad fun h => by have := hat.1 h; omega⟩⟩
    by_cases c2 : n ≤ o.qs.getD k 0
    · repeat (first | intro id | refine goq ?_)
      exact ⟨rfl, .inr ⟨rfl, by exact slotq, hbad fun h => by have := hat.1 h; omega⟩⟩
    repeat (first | intro id | refine goq ?_)
    refine gok ?_
    have hh := hiI_is hq (Nat.le_of_lt hkl)
    refine (contains_ok hF hmc hmi (vs_bare (bare_SlI hh) (vs_bare rfl vs_nil)) hh (by rw [List.length_take]; omega)).mono ?_
    rintro r L' ⟨rfl, rfl⟩
    by_cases c3 : o.qs.getD k 0 ∈ o.qs.take k
    · rw [decide_eq_true c3]
      repeat (first | intro id | refine goq ?_)
      exact ⟨rfl, .inr ⟨rfl, by exact slotq, hbad fun h => (hat.1 h).2.2 c3⟩⟩
    · rw [decide_eq_false c3]
      repeat (first | intro id | refine goq ?_)
      refine WpO.mono (ih (k + 1) _ (by omega) ?_ ?_ ?_ ?_ ?_ (Qs_snoc hok (hat.2 ⟨by omega, by omega, c3⟩))) ?_
      · exact slotq
      · exact slotq
      · exact slotq
      · exact slotq
      · exact slotq
      · rintro ex t' L' ⟨e0, ⟨e1, e2, e3⟩ | h⟩
        · exact ⟨e0, .inl ⟨e1, Keep.trans (by exact keepq) e2, e3⟩⟩
        · exact ⟨e0, .inr h⟩
theorem may_ok (hF : E.fns = fnsT) (hm : E.mode f_circuit_may = .iso false) (hmg : E.mode f_gate_Check = .iso false) (hma : E.mode f_gate_Arity = .iso false) (hmo : E.mode f_gate_of = .iso false) (hmt : E.mode f_gate_table = .iso false) (hmc : E.mode f_slices_Contains_int_int = .iso false) (hmi : E.mode f_slices_Index_int_int = .iso false)
    {n b : Int} {q : AVal} {o : OpD} (hq : SlI q o.qs) (hlt : o.qs.length < 2 ^ 62) : CallO E f_circuit_may [.agg (opCells q o), aint n, aint b] L fun r L' => (∃ x, r = abool x ∧ (x = true ↔ OpOk o n b)) ∧ L' = L := by
  refine callO_iso0 (R := fun r => ∃ x, r = abool x ∧ (x = true ↔ OpOk o n b)) hm (fns_of hF n_circuit_may) (vs_bare ?_ (vs_bare rfl (vs_bare rfl vs_nil))) ?_
  · simp [opCells, AVal.bare, bareAll, aint, bare_SlI hq]
  have hq1 := RowA.isOne hq
  unfold opCells
  refine bodyO_of (Nat.le_of_ble_eq_true rfl) ?_; generalize ht : argSlots _ 0 .nil = t; have h0 : t.get 0 = some _ := (by rw [← ht]; rfl); have h1 : t.get 1 = some _ := (by rw [← ht]; rfl); have h2 : t.get 2 = some _ := (by rw [← ht]; rfl); clear ht
  by_cases c1 : o.kind = 1
  · repeat' (first | intro id | refine goq ?_ | (refine oo_guard (by exact slotq) (fun hc => ?_) (fun hc => ?_) <;> (fail_if_success (exact absurd hc (by decide))) <;> rw [hc] <;> (try simp only [decide_eq_true_eq, decide_eq_false_iff_not, ne_eq, Decidable.not_not] at hc)) | (refine wo_cond_if (by exact slotq) (fun hc => ?_) (fun hc => ?_) <;> (try simp only [decide_eq_true_eq, decide_eq_false_iff_not, ne_eq, Decidable.not_not] at hc)) | ((first | apply retO_r | apply retO_n); (focus (exact resq))))
    all_goals (refine gok ?_)
    all_goals (refine (gCheck_ok hF hmg hma hmo hmt hmc hmi hq hlt).mono ?_; rintro r L' ⟨⟨e, rfl, ⟨rfl, e1, e2, e3⟩ | ⟨rfl, e1⟩ | ⟨rfl, e1, e2⟩⟩, rfl⟩)
    all_goals (repeat' (first | intro id | refine goq ?_ | (refine oo_guard (by exact slotq) (fun hc => ?_) (fun hc => ?_) <;> (fail_if_success (exact absurd hc (by decide))) <;> rw [hc] <;> (try simp only [decide_eq_true_eq, decide_eq_false_iff_not, ne_eq, Decidable.not_not] at hc)) | (refine wo_cond_if (by exact slotq) (fun hc => ?_) (fun hc => ?_) <;> (try simp only [decide_eq_true_eq, decide_eq_false_iff_not, ne_eq, Decidable.not_not] at hc)) | ((first | apply retO_r | apply retO_n); (focus (exact resq)))))
    all_goals (refine ⟨rfl, _, rfl, ?_⟩; unfold OpOk condOk; grind)
  · repeat' (first | intro id | refine goq ?_ | (refine oo_guard (by exact slotq) (fun hc => ?_) (fun hc => ?_) <;> (fail_if_success (exact absurd hc (by decide))) <;> rw [hc] <;> (try simp only [decide_eq_true_eq, decide_eq_false_iff_not, ne_eq, Decidable.not_not] at hc)) | (refine wo_cond_if (by exact slotq) (fun hc => ?_) (fun hc => ?_) <;> (try simp only [decide_eq_true_eq, decide_eq_false_iff_not, ne_eq, Decidable.not_not] at hc)) | ((first | apply retO_r | apply retO_n); (focus (exact resq))))
    all_goals (first | (refine ⟨rfl, _, rfl, ?_⟩; unfold OpOk condOk; grind; done) | skip)
    refine WpO.mono (may_l0 (n := n) hF hmc hmi hq hlt o.qs.length 0 _ (by omega) ?_ ?_ ?_ ?_ ?_ (fun i hi => by omega)) ?_
    · exact slotq
    · exact slotq
    · exact slotq
    · exact slotq
    · exact slotq
    unfold opCells
    rintro ex t' L' ⟨rfl, ⟨rfl, hK, hQ⟩ | ⟨rfl, g6, hQ⟩⟩
    · have g1 : t'.get 1 = some (aint n) := (hK.ex 1 rfl).trans (by exact slotq)
      have g2 : t'.get 2 = some (aint b) := (hK.ex 2 rfl).trans (by exact slotq)
      have g3 : t'.get 3 = some (.ptr id 0) := (hK.ex 3 rfl).trans (by exact slotq)
      repeat' (first | intro id | refine goq ?_ | (refine oo_guard (by exact slotq) (fun hc => ?_) (fun hc => ?_) <;> (fail_if_success (exact absurd hc (by decide))) <;> rw [hc] <;> (try simp only [decide_eq_true_eq, decide_eq_false_iff_not, ne_eq, Decidable.not_not] at hc)) | (refine wo_cond_if (by exact slotq) (fun hc => ?_) (fun hc => ?_) <;> (try simp only [decide_eq_true_eq, decide_eq_false_iff_not, ne_eq, Decidable.not_not] at hc)) | ((first | apply retO_r | apply retO_n); (focus (exact resq))))
      all_goals (refine ⟨rfl, _, rfl, ?_⟩; unfold OpOk condOk; grind)
    · repeat' (first | intro id | refine goq ?_ | (refine oo_guard (by exact slotq) (fun hc => ?_) (fun hc => ?_) <;> (fail_if_success (exact absurd hc (by decide))) <;> rw [hc] <;> (try simp only [decide_eq_true_eq, decide_eq_false_iff_not, ne_eq, Decidable.not_not] at hc)) | (refine wo_cond_if (by exact slotq) (fun hc => ?_) (fun hc => ?_) <;> (try simp only [decide_eq_true_eq, decide_eq_false_iff_not, ne_eq, Decidable.not_not] at hc)) | ((first | apply retO_r | apply retO_n); (focus (exact resq))))
      all_goals (refine ⟨rfl, _, rfl, ?_⟩; unfold OpOk condOk; grind)
/-- What may be, told. -/
def chkE (c : CircD) (v : AVal) : Prop := ∃ i e : Int, v = .tup [aint i, aint e] ∧ ((e = 0 ∧ CircOk c) ∨ (e = 80 ∧ ¬ CircOk c))
theorem ccheck_l0 (hF : E.fns = fnsT) (hmm : E.mode f_circuit_may = .iso false) (hmg : E.mode f_gate_Check = .iso false) (hma : E.mode f_gate_Arity = .iso false) (hmo : E.mode f_gate_of = .iso false) (hmt : E.mode f_gate_table = .iso false) (hmc : E.mode f_slices_Contains_int_int = .iso false) (hmi : E.mode f_slices_Index_int_int = .iso false)
    {c : CircD} {s : AVal} {cs : List AVal} {i1 : Nat} (hr : RowA s cs c.ops.length) (hcs : OpsC cs c.ops) (hlt : c.ops.length < 2 ^ 62) :
    ∀ (d k : Nat) (t : Tr AVal) (L : Hp), d + k = c.ops.length → In i1 [aint c.qubits, aint c.bits, s] L → t.get 1 = some (.ptr i1 0) → t.get 31 = some s → t.get 32 = some (aint c.ops.length) → t.get 33 = some (aint k) → (∀ i, i < k → OpOk (c.ops.getD i default) c.qubits c.bits) →
    WpO E (.loop c_circuit_Check_l0) t L (fun ex t' L' => (ex = .exit 0 ∧ (∀ i, i < c.ops.length → OpOk (c.ops.getD i default) c.qubits c.bits)) ∨ (ex = .ret ∧ (∃ j : Nat, t'.get 2 = some (aint j)) ∧ t'.get 3 = some (aint 80) ∧ ¬ (∀ i, i < c.ops.length → OpOk (c.ops.getD i default) c.qubits c.bits))) := by
  have hs1 := RowA.isOne hr
  intro d
  induction d with
  | zero =>
    intro k t L hk hin h1 h31 h32 h33 hok
    obtain rfl : k = c.ops.length := by omega
    refine wo_loop ?_
    repeat (first | intro id | refine goq ?_)
    exact .inl ⟨rfl, hok⟩
  | succ d ih =>
    intro k t L hk hin h1 h31 h32 h33 hok
    have hkl : k < c.ops.length := by omega
    obtain ⟨q, ha⟩ := hcs.at hkl
    generalize hO : c.ops.getD k default = o at ha
    have hq := ha.hq
    have hq1 := RowA.isOne hq
    have hlt6 := ha.lt
    have hseg := ha.seg
    unfold opCells at hseg
    refine wo_loop ?_
    repeat (first | intro id | refine goq ?_)
    refine gok ?_
    refine (may_ok hF hmm hmg hma hmo hmt hmc hmi hq ha.b).mono ?_
    rintro r L' ⟨⟨x, rfl, hx⟩, rfl⟩
    cases x with
    | true =>
      repeat (first | intro id | refine goq ?_)
      refine ih (k + 1) _ _ (by omega) (.next hin) ?_ ?_ ?_ ?_ ?_
      · exact slotq
      · exact slotq
      · exact slotq
      · exact slotq
      · intro i hi
        by_cases e : i = k
        · subst e; rw [hO]; exact hx.1 rfl
        · exact hok i (by omega)
    | false =>
      repeat (first | intro id | refine goq ?_)
      refine .inr ⟨rfl, ⟨k, by exact slotq⟩, by exact slotq, fun h => ?_⟩
      have := hx.2 (by rw [← hO]; exact h k hkl)
      cases this
theorem Check_okC (hF : E.fns = fnsT) (hm : E.mode f_circuit_Check = .iso false) (hmm : E.mode f_circuit_may = .iso false) (hmg : E.mode f_gate_Check = .iso false) (hma : E.mode f_gate_Arity = .iso false) (hmo : E.mode f_gate_of = .iso false) (hmt : E.mode f_gate_table = .iso false) (hmc : E.mode f_slices_Contains_int_int = .iso false) (hmi : E.mode f_slices_Index_int_int = .iso false)
    {c : CircD} {v : AVal} (hv : CircA v c) : CallO E f_circuit_Check [v] L fun r L' => chkE c r ∧ L' = L := by
  refine callO_iso0 (R := chkE c) hm (fns_of hF n_circuit_Check) (vs_bare hv.bare vs_nil) ?_
  obtain ⟨s, rfl, cs, hr, hcs, hlt⟩ := hv
  have hs1 := RowA.isOne hr
  refine bodyO_of (Nat.le_of_ble_eq_true rfl) ?_; generalize ht : argSlots _ 0 .nil = t; have h0 : t.get 0 = some _ := (by rw [← ht]; rfl); clear ht
  repeat' (first | intro id | refine goq ?_ | (refine oo_guard (by exact slotq) (fun hc => ?_) (fun hc => ?_) <;> (fail_if_success (exact absurd hc (by decide))) <;> rw [hc] <;> (try simp only [decide_eq_true_eq, decide_eq_false_iff_not, ne_eq, Decidable.not_not] at hc)) | (refine wo_cond_if (by exact slotq) (fun hc => ?_) (fun hc => ?_) <;> (try simp only [decide_eq_true_eq, decide_eq_false_iff_not, ne_eq, Decidable.not_not] at hc)) | ((first | apply retO_r | apply retO_n); (focus (exact resq))))
  all_goals (first | (refine ⟨rfl, _, _, rfl, ?_⟩; exact .inr ⟨rfl, fun h => by have := h.q0; have := h.q1; have := h.b0; have := h.b1; have := h.len; omega⟩) | skip)
  refine WpO.mono (ccheck_l0 hF hmm hmg hma hmo hmt hmc hmi hr hcs hlt c.ops.length 0 _ _ (by omega) .here ?_ ?_ ?_ ?_ (fun i hi => by omega)) ?_
  · exact slotq
  · exact slotq
  · exact slotq
  · exact slotq
  rintro ex t' L' (⟨rfl, hall⟩ | ⟨rfl, ⟨j, g2⟩, g3, hno⟩)
  · repeat (first | intro id | refine goq ?_)
    ((first | apply retO_r | apply retO_n); (focus (exact resq)))
    exact ⟨rfl, 0, 0, rfl, .inl ⟨rfl, by constructor <;> first | assumption | omega⟩⟩
  · repeat (first | intro id | refine goq ?_)
    ((first | apply retO_r | apply retO_n); (focus (exact resq)))
    exact ⟨rfl, j, 80, rfl, .inr ⟨rfl, fun h => hno h.ok⟩⟩
end Go.Proofs.Ytfaphhcloanhnaa
namespace Go.Proofs.Ytfaphhcloanhnaa
open Go.Am
set_option maxRecDepth 4000
set_option maxHeartbeats 4000000
variable {E : Env} {L : Hp}
end Go.Proofs.Ytfaphhcloanhnaa
namespace Go.Proofs.Ytfaphhcloanhnaa
open Go.Am
set_option maxRecDepth 4000
set_option maxHeartbeats 8000000
variable {E : Env} {L : Hp}
theorem rOp_ok (hF : E.fns = fnsT) (hm : E.mode f_phasorref08_Op = .iso false) (hmg : E.mode f_phasorref06_Check = .iso false) (hma : E.mode f_phasorref06_Arity = .iso false) (hmi : E.mode f_phasorref06_Is = .iso false) (hmu : E.mode f_phasorref08_unlike = .iso false)
    {n b : Int} {q : AVal} {o : OpD} (hq : SlI q o.qs) (hlt : o.qs.length < 2 ^ 62) : CallO E f_phasorref08_Op [.agg (opCells q o), aint n, aint b] L fun r L' => (∃ x, r = abool x ∧ (x = true ↔ OpOk o n b)) ∧ L' = L := by
  refine callO_iso0 (R := fun r => ∃ x, r = abool x ∧ (x = true ↔ OpOk o n b)) hm (fns_of hF n_phasorref08_Op) (vs_bare ?_ (vs_bare rfl (vs_bare rfl vs_nil))) ?_
  · simp [opCells, AVal.bare, bareAll, aint, bare_SlI hq]
  have hq1 := RowA.isOne hq
  unfold opCells
  refine bodyO_of (Nat.le_of_ble_eq_true rfl) ?_; generalize ht : argSlots _ 0 .nil = t; have h0 : t.get 0 = some _ := (by rw [← ht]; rfl); have h1 : t.get 1 = some _ := (by rw [← ht]; rfl); have h2 : t.get 2 = some _ := (by rw [← ht]; rfl); clear ht
  by_cases c1 : o.kind = 1
  · repeat' (first | intro id | refine goq ?_ | (refine oo_guard (by exact slotq) (fun hc => ?_) (fun hc => ?_) <;> (fail_if_success (exact absurd hc (by decide))) <;> rw [hc] <;> (try simp only [decide_eq_true_eq, decide_eq_false_iff_not, ne_eq, Decidable.not_not] at hc)) | (refine wo_cond_if (by exact slotq) (fun hc => ?_) (fun hc => ?_) <;> (try simp only [decide_eq_true_eq, decide_eq_false_iff_not, ne_eq, Decidable.not_not] at hc)) | ((first | apply retO_r | apply retO_n); (focus (exact resq))))
    all_goals (refine gok ?_)
    all_goals (refine (rCheck_ok hF hmg hma hmi hq hlt).mono ?_; rintro r L' ⟨⟨e, rfl, ⟨rfl, e1, e2, e3⟩ | ⟨rfl, e1⟩ | ⟨rfl, e1, e2⟩⟩, rfl⟩)
    all_goals (repeat' (first | intro id | refine goq ?_ | (refine oo_guard (by exact slotq) (fun hc => ?_) (fun hc => ?_) <;> (fail_if_success (exact absurd hc (by decide))) <;> rw [hc] <;> (try simp only [decide_eq_true_eq, decide_eq_false_iff_not, ne_eq, Decidable.not_not] at hc)) | (refine wo_cond_if (by exact slotq) (fun hc => ?_) (fun hc => ?_) <;> (try simp only [decide_eq_true_eq, decide_eq_false_iff_not, ne_eq, Decidable.not_not] at hc)) | ((first | apply retO_r | apply retO_n); (focus (exact resq)))))
    all_goals (refine ⟨rfl, _, rfl, ?_⟩; unfold OpOk condOk; grind)
  · repeat' (first | intro id | refine goq ?_ | (refine oo_guard (by exact slotq) (fun hc => ?_) (fun hc => ?_) <;> (fail_if_success (exact absurd hc (by decide))) <;> rw [hc] <;> (try simp only [decide_eq_true_eq, decide_eq_false_iff_not, ne_eq, Decidable.not_not] at hc)) | (refine wo_cond_if (by exact slotq) (fun hc => ?_) (fun hc => ?_) <;> (try simp only [decide_eq_true_eq, decide_eq_false_iff_not, ne_eq, Decidable.not_not] at hc)) | ((first | apply retO_r | apply retO_n); (focus (exact resq))))
    all_goals (first | (refine ⟨rfl, _, rfl, ?_⟩; unfold OpOk condOk; grind; done) | skip)
    all_goals (refine gok ?_)
    all_goals (refine (unlike_ok hF hmu hq hlt).mono ?_; rintro r L' ⟨⟨x, rfl, hx⟩, rfl⟩)
    all_goals (repeat' (first | intro id | refine goq ?_ | (refine oo_guard (by exact slotq) (fun hc => ?_) (fun hc => ?_) <;> (fail_if_success (exact absurd hc (by decide))) <;> rw [hc] <;> (try simp only [decide_eq_true_eq, decide_eq_false_iff_not, ne_eq, Decidable.not_not] at hc)) | (refine wo_cond_if (by exact slotq) (fun hc => ?_) (fun hc => ?_) <;> (try simp only [decide_eq_true_eq, decide_eq_false_iff_not, ne_eq, Decidable.not_not] at hc)) | ((first | apply retO_r | apply retO_n); (focus (exact resq)))))
    all_goals (refine ⟨rfl, _, rfl, ?_⟩; unfold OpOk condOk; grind)
end Go.Proofs.Ytfaphhcloanhnaa
namespace Go.Proofs.Ytfaphhcloanhnaa
open Go.Am
set_option maxRecDepth 4000
set_option maxHeartbeats 8000000
variable {E : Env} {L : Hp}
theorem rcheck8_l0 (hF : E.fns = fnsT) (hmo : E.mode f_phasorref08_Op = .iso false) (hmg : E.mode f_phasorref06_Check = .iso false) (hma : E.mode f_phasorref06_Arity = .iso false) (hmi : E.mode f_phasorref06_Is = .iso false) (hmu : E.mode f_phasorref08_unlike = .iso false) (hst : still E c_phasorref08_Check_r5 = true)
    {c : CircD} {s : AVal} {cs : List AVal} {i1 : Nat} (hr : RowA s cs c.ops.length) (hcs : OpsC cs c.ops) (hlt : c.ops.length < 2 ^ 62) :
    ∀ (d k : Nat) (t : Tr AVal) (L : Hp), d + k = c.ops.length → In i1 [aint c.qubits, aint c.bits, s] L → t.get 1 = some (.ptr i1 0) → t.get 4 = some (aint k) → (∀ i, i < k → OpOk (c.ops.getD i default) c.qubits c.bits) →
    WpO E (.loop c_phasorref08_Check_l0) t L (fun ex t' L' => (ex = .exit 0 ∧ (∀ i, i < c.ops.length → OpOk (c.ops.getD i default) c.qubits c.bits)) ∨ (ex = .ret ∧ (∃ j : Nat, t'.get 2 = some (aint j)) ∧ t'.get 3 = some (aint 80) ∧ ¬ (∀ i, i < c.ops.length → OpOk (c.ops.getD i default) c.qubits c.bits))) := by
  have hs1 := RowA.isOne hr
  intro d
  induction d with
  | zero =>
    intro k t L hk hin h1 h4 hok
    obtain rfl : k = c.ops.length := by omega
    refine wo_loop ?_
    repeat (first | intro id | refine goq ?_)
    exact .inl ⟨rfl, hok⟩
  | succ d ih =>
    intro k t L hk hin h1 h4 hok
    have hkl : k < c.ops.length := by omega
    obtain ⟨q, ha⟩ := hcs.at hkl
    generalize hO : c.ops.getD k default = o at ha
    have hq := ha.hq
    have hq1 := RowA.isOne hq
    have hlt6 := ha.lt
    have hseg := ha.seg
    unfold opCells at hseg
    refine wo_loop ?_
    repeat (first | intro id | refine goq ?_)
    refine gok ?_
    refine (rOp_ok hF hmo hmg hma hmi hmu hq ha.b).mono ?_
    rintro r L' ⟨⟨x, rfl, hx⟩, rfl⟩
    cases x with
    | true =>
      repeat (first | intro id | refine goq ?_)
      refine ih (k + 1) _ _ (by omega) hin ?_ ?_ ?_
      · exact slotq
      · exact slotq
      · intro i hi
        by_cases e : i = k
        · subst e; rw [hO]; exact hx.1 rfl
        · exact hok i (by omega)
    | false =>
      repeat (first | intro id | refine goq ?_)
      refine .inr ⟨rfl, ⟨k, by exact slotq⟩, by exact slotq, fun h => ?_⟩
      have := hx.2 (by rw [← hO]; exact h k hkl)
      cases this
theorem rCheck8_ok (hF : E.fns = fnsT) (hm : E.mode f_phasorref08_Check = .iso false) (hmo : E.mode f_phasorref08_Op = .iso false) (hmg : E.mode f_phasorref06_Check = .iso false) (hma : E.mode f_phasorref06_Arity = .iso false) (hmi : E.mode f_phasorref06_Is = .iso false) (hmu : E.mode f_phasorref08_unlike = .iso false) (hst : still E c_phasorref08_Check_r5 = true)
    {c : CircD} {v : AVal} (hv : CircA v c) : CallO E f_phasorref08_Check [v] L fun r L' => chkE c r ∧ L' = L := by
  refine callO_iso0 (R := chkE c) hm (fns_of hF n_phasorref08_Check) (vs_bare hv.bare vs_nil) ?_
  obtain ⟨s, rfl, cs, hr, hcs, hlt⟩ := hv
  have hs1 := RowA.isOne hr
  refine bodyO_of (Nat.le_of_ble_eq_true rfl) ?_; generalize ht : argSlots _ 0 .nil = t; have h0 : t.get 0 = some _ := (by rw [← ht]; rfl); clear ht
  repeat' (first | intro id | refine goq ?_ | (refine oo_guard (by exact slotq) (fun hc => ?_) (fun hc => ?_) <;> (fail_if_success (exact absurd hc (by decide))) <;> rw [hc] <;> (try simp only [decide_eq_true_eq, decide_eq_false_iff_not, ne_eq, Decidable.not_not] at hc)) | (refine wo_cond_if (by exact slotq) (fun hc => ?_) (fun hc => ?_) <;> (try simp only [decide_eq_true_eq, decide_eq_false_iff_not, ne_eq, Decidable.not_not] at hc)) | ((first | apply retO_r | apply retO_n); (focus (exact resq))))
  all_goals (first | (refine ⟨rfl, _, _, rfl, ?_⟩; exact .inr ⟨rfl, fun h => by have := h.q0; have := h.q1; have := h.b0; have := h.b1; have := h.len; omega⟩) | skip)
  refine WpO.mono (rcheck8_l0 hF hmo hmg hma hmi hmu hst hr hcs hlt c.ops.length 0 _ _ (by omega) .here ?_ ?_ (fun i hi => by omega)) ?_
  · exact slotq
  · exact slotq
  rintro ex t' L' (⟨rfl, hall⟩ | ⟨rfl, ⟨j, g2⟩, g3, hno⟩)
  · repeat (first | intro id | refine goq ?_)
    ((first | apply retO_r | apply retO_n); (focus (exact resq)))
    exact ⟨rfl, 0, 0, rfl, .inl ⟨rfl, by constructor <;> first | assumption | omega⟩⟩
  · repeat (first | intro id | refine goq ?_)
    ((first | apply retO_r | apply retO_n); (focus (exact resq)))
    exact ⟨rfl, j, 80, rfl, .inr ⟨rfl, fun h => hno h.ok⟩⟩
theorem May_ok (hF : E.fns = fnsT) (hm : E.mode f_phasorref08_May = .iso false) (hmk : E.mode f_phasorref08_Check = .iso false) (hmo : E.mode f_phasorref08_Op = .iso false) (hmg : E.mode f_phasorref06_Check = .iso false) (hma : E.mode f_phasorref06_Arity = .iso false) (hmi : E.mode f_phasorref06_Is = .iso false) (hmu : E.mode f_phasorref08_unlike = .iso false) (hst : still E c_phasorref08_Check_r5 = true)
    {c : CircD} {v : AVal} (hv : CircA v c) : CallO E f_phasorref08_May [v] L fun r L' => (∃ x, r = abool x ∧ (x = true ↔ CircOk c)) ∧ L' = L := by
  refine callO_iso0 (R := fun r => ∃ x, r = abool x ∧ (x = true ↔ CircOk c)) hm (fns_of hF n_phasorref08_May) (vs_bare hv.bare vs_nil) ?_
  have hv0 := hv
  obtain ⟨s, rfl, cs, hr, hcs, hlt⟩ := hv
  have hs1 := RowA.isOne hr
  refine bodyO_of (Nat.le_of_ble_eq_true rfl) ?_; generalize ht : argSlots _ 0 .nil = t; have h0 : t.get 0 = some _ := (by rw [← ht]; rfl); clear ht
  repeat (first | intro id | refine goq ?_)
  refine gok ?_
  refine (rCheck8_ok hF hmk hmo hmg hma hmi hmu hst hv0).mono ?_
  rintro r L' ⟨⟨i, e, rfl, ⟨rfl, h⟩ | ⟨rfl, h⟩⟩, rfl⟩
  · repeat (first | intro id | refine goq ?_)
    ((first | apply retO_r | apply retO_n); (focus (exact resq)))
    exact ⟨rfl, true, rfl, by simp [h]⟩
  · repeat (first | intro id | refine goq ?_)
    ((first | apply retO_r | apply retO_n); (focus (exact resq)))
    exact ⟨rfl, false, rfl, by simp [h]⟩

end Go.Proofs.Ytfaphhcloanhnaa
namespace Go.Dist

theorem getD_set (r : List Int) (b : Nat) (x : Int) (v : Nat) : (r.set b x).getD v 0 = if v = b ∧ b < r.length then x else r.getD v 0 := by
  simp only [List.getD_eq_getElem?_getD, List.getElem?_set]
  by_cases h : b = v
  · subst h
    by_cases hl : b < r.length
    · simp [hl]
    · simp [hl]
  · simp [h, Ne.symm h]

structure IsDist (N : Nat) (adj : Nat → Nat → Prop) (src : Nat) (r : List Int) : Prop where
  len : r.length = N
  src0 : r.getD src 0 = 0
  lo : ∀ v, v < N → -1 ≤ r.getD v 0
  edge : ∀ a b, a < N → b < N → adj a b → 0 ≤ r.getD a 0 → 0 ≤ r.getD b 0 ∧ r.getD b 0 ≤ r.getD a 0 + 1
  pred : ∀ v, v < N → v ≠ src → 0 ≤ r.getD v 0 → ∃ u, u < N ∧ adj u v ∧ 0 ≤ r.getD u 0 ∧ r.getD v 0 = r.getD u 0 + 1

theorem IsDist.le {N : Nat} {adj : Nat → Nat → Prop} {src : Nat} {r r' : List Int} (h : IsDist N adj src r) (h' : IsDist N adj src r') : ∀ (k : Nat) (v : Nat), v < N → r.getD v 0 = k → 0 ≤ r'.getD v 0 ∧ r'.getD v 0 ≤ k := by
  intro k
  induction k with
  | zero =>
    intro v hv hk
    by_cases e : v = src
    · subst e; rw [h'.src0]; omega
    · obtain ⟨u, _, _, h1, h2⟩ := h.pred v hv e (by omega); omega
  | succ k ih =>
    intro v hv hk
    by_cases e : v = src
    · subst e; rw [h'.src0]; omega
    · obtain ⟨u, hu, ha, h1, h2⟩ := h.pred v hv e (by omega)
      have := ih u hu (by omega)
      have := h'.edge u v hu hv ha this.1
      omega

theorem IsDist.unique {N : Nat} {adj : Nat → Nat → Prop} {src : Nat} {r r' : List Int} (h : IsDist N adj src r) (h' : IsDist N adj src r') : r = r' := by
  refine List.ext_getElem (by rw [h.len, h'.len]) fun v hv hv' => ?_
  have e1 : r.getD v 0 = r[v] := by simp [List.getD_eq_getElem?_getD, hv]
  have e2 : r'.getD v 0 = r'[v] := by simp [List.getD_eq_getElem?_getD, hv']
  have hN : v < N := by rw [← h.len]; exact hv
  rw [← e1, ← e2]
  have l1 := h.lo v hN
  have l2 := h'.lo v hN
  by_cases c : 0 ≤ r.getD v 0
  · have := h.le h' (r.getD v 0).toNat v hN (by omega)
    have := h'.le h (r'.getD v 0).toNat v hN (by omega)
    omega
  · by_cases c' : 0 ≤ r'.getD v 0
    · have := h'.le h (r'.getD v 0).toNat v hN (by omega)
      omega
    · omega

/-! ### By rounds over all pairs -/
def rel1 (s : Int) (r : List Int) (a b : Nat) : List Int := if r.getD a 0 = s ∧ r.getD b 0 < 0 then r.set b (s + 1) else r
def relP (s : Int) (r : List Int) (p : Nat × Nat) : List Int := rel1 s (rel1 s r p.1 p.2) p.2 p.1
def relA (s : Int) (ps : List (Nat × Nat)) (r : List Int) : List Int := ps.foldl (relP s) r
def relN (ps : List (Nat × Nat)) : Nat → Int → List Int → List Int
  | 0, _, r => r
  | k + 1, s, r => relN ps k (s + 1) (relA s ps r)
def start (N i : Nat) : List Int := (List.replicate N (-1)).set i 0
def dist (N : Nat) (ps : List (Nat × Nat)) (i : Nat) : List Int := relN ps N 0 (start N i)
def Adj (ps : List (Nat × Nat)) (a b : Nat) : Prop := (a, b) ∈ ps ∨ (b, a) ∈ ps

/-- In the round s: what is told stays; what is new is s + 1. -/
structure Ext (s : Int) (r r' : List Int) : Prop where
  len : r'.length = r.length
  keep : ∀ v, 0 ≤ r.getD v 0 → r'.getD v 0 = r.getD v 0
  new : ∀ v, r.getD v 0 < 0 → r'.getD v 0 = r.getD v 0 ∨ r'.getD v 0 = s + 1
theorem Ext.refl (s : Int) (r : List Int) : Ext s r r := ⟨rfl, fun _ _ => rfl, fun _ _ => .inl rfl⟩
theorem Ext.trans {s : Int} {a b c : List Int} (hs : 0 ≤ s) (h : Ext s a b) (k : Ext s b c) : Ext s a c :=
  ⟨k.len.trans h.len, fun v hv => by have := h.keep v hv; rw [k.keep v (by omega)]; exact this,
   fun v hv => by
    rcases h.new v hv with e | e
    · rcases k.new v (by omega) with e' | e'
      · left; omega
      · right; exact e'
    · right; rw [k.keep v (by omega)]; exact e⟩

structure PreI (N : Nat) (adj : Nat → Nat → Prop) (src : Nat) (s : Int) (r : List Int) : Prop where
  len : r.length = N
  src0 : r.getD src 0 = 0
  lo : ∀ v, v < N → -1 ≤ r.getD v 0
  hi : ∀ v, v < N → r.getD v 0 ≤ s
  pred : ∀ v, v < N → v ≠ src → 0 ≤ r.getD v 0 → ∃ u, u < N ∧ adj u v ∧ 0 ≤ r.getD u 0 ∧ r.getD v 0 = r.getD u 0 + 1
  done : ∀ a b, a < N → b < N → adj a b → 0 ≤ r.getD a 0 → r.getD a 0 < s → 0 ≤ r.getD b 0 ∧ r.getD b 0 ≤ r.getD a 0 + 1

theorem rel1_ext {s : Int} (r : List Int) (a b : Nat) : Ext s r (rel1 s r a b) := by
  unfold rel1
  split
  · rename_i h
    refine ⟨by simp, fun v hv => ?_, fun v hv => ?_⟩
    · rw [getD_set]
      by_cases e : v = b
      · subst e; omega
      · rw [if_neg (by simp [e])]
    · rw [getD_set]
      split
      · right; rfl
      · left; rfl
  · exact Ext.refl s r

/-- A pair's end. -/
structure Mid (N : Nat) (adj : Nat → Nat → Prop) (s : Int) (r0 r : List Int) : Prop where
  ext : Ext s r0 r
  pred : ∀ v, v < N → r0.getD v 0 < 0 → 0 ≤ r.getD v 0 → ∃ u, u < N ∧ adj u v ∧ r0.getD u 0 = s

theorem rel1_mid {N : Nat} {adj : Nat → Nat → Prop} {s : Int} {r0 r : List Int} {a b : Nat} (hs : 0 ≤ s) (hl : r0.length = N) (h : Mid N adj s r0 r) (ha : a < N) (hb : b < N) (hadj : adj a b) :
    Mid N adj s r0 (rel1 s r a b) ∧ (r0.getD a 0 = s → 0 ≤ (rel1 s r a b).getD b 0) := by
  have hx := rel1_ext (s := s) r a b
  refine ⟨⟨h.ext.trans hs hx, fun v hv h0 h1 => ?_⟩, fun h0 => ?_⟩
  · unfold rel1 at h1
    split at h1
    · rename_i hc
      rw [getD_set] at h1
      by_cases e : v = b
      · subst e
        refine ⟨a, ha, hadj, ?_⟩
        by_cases c : 0 ≤ r0.getD a 0
        · rw [← h.ext.keep a c]; exact hc.1
        · rcases h.ext.new a (by omega) with e | e <;> omega
      · rw [if_neg (by simp [e])] at h1
        exact h.pred v hv h0 h1
    · exact h.pred v hv h0 h1
  · have e : r.getD a 0 = s := by rw [h.ext.keep a (by omega)]; exact h0
    unfold rel1
    by_cases c : r.getD b 0 < 0
    · rw [if_pos ⟨e, c⟩, getD_set, if_pos ⟨rfl, by rw [h.ext.len, hl]; exact hb⟩]; omega
    · rw [if_neg (by omega)]; omega

theorem relA_mid {N : Nat} {ps : List (Nat × Nat)} {s : Int} {r0 : List Int} (hs : 0 ≤ s) (hl : r0.length = N) : ∀ (qs : List (Nat × Nat)) (r : List Int), (∀ p ∈ qs, p ∈ ps ∧ p.1 < N ∧ p.2 < N) → Mid N (Adj ps) s r0 r →
    Mid N (Adj ps) s r0 (relA s qs r) ∧ ∀ a b, (a, b) ∈ qs ∨ (b, a) ∈ qs → r0.getD a 0 = s → 0 ≤ (relA s qs r).getD b 0
  | [], r, _, h => ⟨h, fun a b h => by simp at h⟩
  | p :: qs, r, hq, h => by
    obtain ⟨hp, h1, h2⟩ := hq p (by simp)
    obtain ⟨m1, e1⟩ := rel1_mid hs hl h h1 h2 (.inl hp)
    obtain ⟨m2, e2⟩ := rel1_mid hs hl m1 h2 h1 (.inr hp)
    obtain ⟨m3, e3⟩ := relA_mid hs hl qs (relP s r p) (fun p hp => hq p (by simp [hp])) m2
    refine ⟨m3, fun a b hab h0 => ?_⟩
    have hkeep : ∀ v, 0 ≤ (relP s r p).getD v 0 → 0 ≤ (relA s qs (relP s r p)).getD v 0 := by
      intro v hv
      have hm : Mid N (Adj ps) s (relP s r p) (relP s r p) := ⟨Ext.refl _ _, fun v _ h h' => by omega⟩
      have hl' : (relP s r p).length = N := m2.ext.len.trans hl
      obtain ⟨m4, _⟩ := relA_mid hs hl' qs (relP s r p) (fun p hp => hq p (by simp [hp])) hm
      rw [m4.ext.keep v hv]; exact hv
    show 0 ≤ (relA s qs (relP s r p)).getD b 0
    rcases hab with hab | hab <;> rcases List.mem_cons.1 hab with e | e
    · subst e
      refine hkeep _ ?_
      have := e1 h0
      have hx := rel1_ext (s := s) (rel1 s r a b) b a
      show 0 ≤ (rel1 s (rel1 s r a b) b a).getD b 0
      rw [hx.keep b this]; exact this
    · exact e3 a b (.inl e) h0
    · subst e
      exact hkeep _ (e2 h0)
    · exact e3 a b (.inr e) h0

theorem relA_pre {N : Nat} {ps : List (Nat × Nat)} {src : Nat} {s : Int} {r : List Int} (hs : 0 ≤ s) (hps : ∀ p ∈ ps, p.1 < N ∧ p.2 < N) (h : PreI N (Adj ps) src s r) : PreI N (Adj ps) src (s + 1) (relA s ps r) := by
  obtain ⟨m, e⟩ := relA_mid hs h.len ps r (fun p hp => ⟨hp, hps p hp⟩) ⟨Ext.refl s r, fun v _ h h' => by omega⟩
  refine ⟨by rw [m.ext.len]; exact h.len, by rw [m.ext.keep src (by rw [h.src0]; omega)]; exact h.src0, fun v hv => ?_, fun v hv => ?_, fun v hv hne h0 => ?_, fun a b ha hb hab h0 h1 => ?_⟩
  · by_cases c : 0 ≤ r.getD v 0
    · rw [m.ext.keep v c]; omega
    · have := h.lo v hv
      rcases m.ext.new v (by omega) with e | e <;> omega
  · have := h.hi v hv
    by_cases c : 0 ≤ r.getD v 0
    · rw [m.ext.keep v c]; omega
    · rcases m.ext.new v (by omega) with e | e <;> omega
  · by_cases c : 0 ≤ r.getD v 0
    · obtain ⟨u, hu, ha, h2, h3⟩ := h.pred v hv hne c
      refine ⟨u, hu, ha, by rw [m.ext.keep u h2]; exact h2, by rw [m.ext.keep v c, m.ext.keep u h2]; exact h3⟩
    · obtain ⟨u, hu, ha, h2⟩ := m.pred v hv (by omega) h0
      refine ⟨u, hu, ha, by rw [m.ext.keep u (by omega)]; omega, ?_⟩
      rw [m.ext.keep u (by omega)]
      rcases m.ext.new v (by omega) with e | e <;> omega
  · have hbhi : (relA s ps r).getD b 0 ≤ s + 1 := by
      have := h.hi b hb
      by_cases c : 0 ≤ r.getD b 0
      · rw [m.ext.keep b c]; omega
      · rcases m.ext.new b (by omega) with e | e <;> omega
    by_cases c : 0 ≤ r.getD a 0
    · rw [m.ext.keep a c] at h1 ⊢
      by_cases c2 : r.getD a 0 < s
      · obtain ⟨k1, k2⟩ := h.done a b ha hb hab c c2
        rw [m.ext.keep b k1]; exact ⟨k1, k2⟩
      · have := e a b hab (by omega)
        omega
    · rcases m.ext.new a (by omega) with e | e <;> omega

theorem relN_pre {N : Nat} {ps : List (Nat × Nat)} {src : Nat} (hps : ∀ p ∈ ps, p.1 < N ∧ p.2 < N) : ∀ (k : Nat) (s : Int) (r : List Int), 0 ≤ s → PreI N (Adj ps) src s r → PreI N (Adj ps) src (s + k) (relN ps k s r)
  | 0, s, r, _, h => by simpa [relN] using h
  | k + 1, s, r, hs, h => by
    have := relN_pre hps k (s + 1) (relA s ps r) (by omega) (relA_pre hs hps h)
    unfold relN
    rw [show s + ((k + 1 : Nat) : Int) = s + 1 + k by omega]
    exact this

theorem start_pre {N src : Nat} {adj : Nat → Nat → Prop} (h : src < N) : PreI N adj src 0 (start N src) := by
  have hg : ∀ v, (start N src).getD v 0 = if v = src then 0 else if v < N then -1 else 0 := by
    intro v
    unfold start
    rw [getD_set]
    by_cases e : v = src
    · simp [e, h]
    · simp only [e, false_and, if_false]
      simp only [List.getD_eq_getElem?_getD, List.getElem?_replicate]
      split <;> simp
  refine ⟨by simp [start], by rw [hg, if_pos rfl], fun v hv => ?_, fun v hv => ?_, fun v hv hne h0 => ?_, fun a b ha hb hab h0 h1 => ?_⟩
  · rw [hg]; split <;> (try split) <;> omega
  · rw [hg]; split <;> (try split) <;> omega
  · rw [hg, if_neg hne, if_pos hv] at h0; omega
  · omega

/-- Not more different numbers than places. -/
theorem pigeon : ∀ (n : Nat) (l : List Nat), (∀ k, k < n → k ∈ l) → n ≤ l.length
  | 0, _, _ => Nat.zero_le _
  | n + 1, l, h => by
    have hn : n ∈ l := h n (by omega)
    have := pigeon n (l.erase n) fun k hk => (List.mem_erase_of_ne (by omega)).2 (h k (by omega))
    have hl := List.length_erase_of_mem hn
    have : 0 < l.length := List.length_pos_of_mem hn
    omega

theorem chain {N : Nat} {adj : Nat → Nat → Prop} {src : Nat} {s : Int} {r : List Int} (hsrc : src < N) (h : PreI N adj src s r) : ∀ (k v : Nat), v < N → r.getD v 0 = k → ∀ j, j ≤ k → ∃ u, u < N ∧ r.getD u 0 = (j : Int)
  | 0, v, hv, hk, j, hj => ⟨v, hv, by rw [hk]; omega⟩
  | k + 1, v, hv, hk, j, hj => by
    by_cases e : j = k + 1
    · exact ⟨v, hv, by rw [hk, e]⟩
    · have hne : v ≠ src := by rintro rfl; have := h.src0; omega
      obtain ⟨u, hu, _, h1, h2⟩ := h.pred v hv hne (by omega)
      exact chain hsrc h k u hu (by omega) j (by omega)

theorem lt_N {N : Nat} {adj : Nat → Nat → Prop} {src : Nat} {s : Int} {r : List Int} (hsrc : src < N) (h : PreI N adj src s r) {v : Nat} (hv : v < N) : r.getD v 0 < N := by
  apply Classical.byContradiction
  intro hc
  have := pigeon (N + 1) (r.map Int.toNat) fun k hk => by
    obtain ⟨u, hu, e⟩ := chain hsrc h (r.getD v 0).toNat v hv (by omega) k (by omega)
    refine List.mem_map.2 ⟨r.getD u 0, ?_, by omega⟩
    have : u < r.length := by rw [h.len]; exact hu
    rw [List.getD_eq_getElem?_getD, List.getElem?_eq_getElem this]
    simp
  simp only [List.length_map, h.len] at this
  omega

theorem dist_is {N src : Nat} {ps : List (Nat × Nat)} (hps : ∀ p ∈ ps, p.1 < N ∧ p.2 < N) (hsrc : src < N) : IsDist N (Adj ps) src (dist N ps src) := by
  have h := relN_pre hps N 0 (start N src) (by omega) (start_pre hsrc)
  refine ⟨h.len, h.src0, h.lo, fun a b ha hb hab h0 => h.done a b ha hb hab h0 ?_, h.pred⟩
  have := lt_N hsrc h ha
  show (relN ps N 0 (start N src)).getD a 0 < 0 + N
  omega

/-! ### By a queue -/
def negs (r : List Int) : Nat := (r.filter fun x => decide (x < 0)).length
structure QInv (N : Nat) (adj : Nat → Nat → Prop) (src : Nat) (r : List Int) (w : List Nat) : Prop where
  len : r.length = N
  src0 : r.getD src 0 = 0
  lo : ∀ v, v < N → -1 ≤ r.getD v 0
  pred : ∀ v, v < N → v ≠ src → 0 ≤ r.getD v 0 → ∃ u, u < N ∧ adj u v ∧ 0 ≤ r.getD u 0 ∧ r.getD v 0 = r.getD u 0 + 1
  wait : ∀ x ∈ w, x < N ∧ 0 ≤ r.getD x 0
  rise : w.Pairwise fun x y => r.getD x 0 ≤ r.getD y 0
  top : ∀ h t, w = h :: t → ∀ v, v < N → r.getD v 0 ≤ r.getD h 0 + 1
  done : ∀ a b, a < N → b < N → adj a b → 0 ≤ r.getD a 0 → a ∉ w → 0 ≤ r.getD b 0 ∧ r.getD b 0 ≤ r.getD a 0 + 1

/-- Within the round of h: those met so far. -/
structure QMid (N : Nat) (adj : Nat → Nat → Prop) (src h : Nat) (t : List Nat) (r : List Int) (new : List Nat) (met : Nat → Prop) : Prop where
  len : r.length = N
  src0 : r.getD src 0 = 0
  lo : ∀ v, v < N → -1 ≤ r.getD v 0
  pred : ∀ v, v < N → v ≠ src → 0 ≤ r.getD v 0 → ∃ u, u < N ∧ adj u v ∧ 0 ≤ r.getD u 0 ∧ r.getD v 0 = r.getD u 0 + 1
  wait : ∀ x ∈ h :: t, x < N ∧ 0 ≤ r.getD x 0
  rise : (h :: t).Pairwise fun x y => r.getD x 0 ≤ r.getD y 0
  top : ∀ v, v < N → r.getD v 0 ≤ r.getD h 0 + 1
  news : ∀ x ∈ new, x < N ∧ r.getD x 0 = r.getD h 0 + 1
  mets : ∀ b, met b → 0 ≤ r.getD b 0
  done : ∀ a b, a < N → b < N → adj a b → 0 ≤ r.getD a 0 → a ∉ h :: t → a ∉ new → 0 ≤ r.getD b 0 ∧ r.getD b 0 ≤ r.getD a 0 + 1

theorem QInv.enter {N : Nat} {adj : Nat → Nat → Prop} {src h : Nat} {t : List Nat} {r : List Int} (q : QInv N adj src r (h :: t)) : QMid N adj src h t r [] fun _ => False :=
  ⟨q.len, q.src0, q.lo, q.pred, q.wait, q.rise, q.top h t rfl, by simp, by simp, fun a b ha hb hab h0 h1 _ => q.done a b ha hb hab h0 h1⟩

theorem QMid.old {N : Nat} {adj : Nat → Nat → Prop} {src h : Nat} {t : List Nat} {r : List Int} {new : List Nat} {met : Nat → Prop} (q : QMid N adj src h t r new met) {p : Nat} (hp : 0 ≤ r.getD p 0) : QMid N adj src h t r new fun b => met b ∨ b = p :=
  ⟨q.len, q.src0, q.lo, q.pred, q.wait, q.rise, q.top, q.news, fun b hb => by rcases hb with hb | rfl; exact q.mets b hb; exact hp, q.done⟩

theorem QMid.push {N : Nat} {adj : Nat → Nat → Prop} {src h : Nat} {t : List Nat} {r : List Int} {new : List Nat} {met : Nat → Prop} (q : QMid N adj src h t r new met) {p : Nat} (hN : p < N) (hadj : adj h p) (hp : r.getD p 0 < 0) :
    QMid N adj src h t (r.set p (r.getD h 0 + 1)) (new ++ [p]) fun b => met b ∨ b = p := by
  have hh := q.wait h (by simp)
  have hg : ∀ v, (r.set p (r.getD h 0 + 1)).getD v 0 = if v = p then r.getD h 0 + 1 else r.getD v 0 := by
    intro v
    rw [getD_set]
    by_cases e : v = p
    · simp [e, q.len, hN]
    · simp [e]
  have hk : ∀ v, 0 ≤ r.getD v 0 → (r.set p (r.getD h 0 + 1)).getD v 0 = r.getD v 0 := by
    intro v hv
    rw [hg, if_neg]
    rintro rfl; omega
  have hh' := hk h hh.2
  refine ⟨by rw [List.length_set]; exact q.len, by rw [hk src (by rw [q.src0]; omega)]; exact q.src0, fun v hv => ?_, fun v hv hne h0 => ?_, fun x hx => ?_, ?_, fun v hv => ?_, fun x hx => ?_, fun b hb => ?_, fun a b ha hb hab h0 h1 h2 => ?_⟩
  · rw [hg]; have := q.lo v hv; split <;> omega
  · by_cases e : v = p
    · subst e
      refine ⟨h, hh.1, hadj, by rw [hh']; exact hh.2, by rw [hh', hg, if_pos rfl]⟩
    · rw [hg, if_neg e] at h0
      obtain ⟨u, hu, ha, h1, h2⟩ := q.pred v hv hne h0
      exact ⟨u, hu, ha, by rw [hk u h1]; exact h1, by rw [hk u h1, hk v h0]; exact h2⟩
  · obtain ⟨h1, h2⟩ := q.wait x hx
    exact ⟨h1, by rw [hk x h2]; exact h2⟩
  · refine q.rise.imp_of_mem fun {x y} hx hy hxy => ?_
    rw [hk x (q.wait x hx).2, hk y (q.wait y hy).2]; exact hxy
  · rw [hh', hg]
    have := q.top v hv
    split <;> omega
  · rw [hh']
    rcases List.mem_append.1 hx with hx | hx
    · obtain ⟨h1, h2⟩ := q.news x hx
      exact ⟨h1, by rw [hk x (by omega)]; exact h2⟩
    · simp only [List.mem_singleton] at hx
      subst hx
      exact ⟨hN, by rw [hg, if_pos rfl]⟩
  · rcases hb with hb | rfl
    · rw [hk b (q.mets b hb)]; exact q.mets b hb
    · rw [hg, if_pos rfl]; omega
  · have hap : a ≠ p := by rintro rfl; exact h2 (by simp)
    rw [hg, if_neg hap] at h0
    obtain ⟨k1, k2⟩ := q.done a b ha hb hab h0 h1 (fun hc => h2 (by simp [hc]))
    rw [hk a h0, hk b k1]; exact ⟨k1, k2⟩

theorem QMid.leave {N : Nat} {adj : Nat → Nat → Prop} {src h : Nat} {t : List Nat} {r : List Int} {new : List Nat} {met : Nat → Prop} (q : QMid N adj src h t r new met) (hall : ∀ b, b < N → adj h b → met b) : QInv N adj src r (t ++ new) := by
  have hh := q.wait h (by simp)
  refine ⟨q.len, q.src0, q.lo, q.pred, fun x hx => ?_, ?_, fun x l he v hv => ?_, fun a b ha hb hab h0 h1 => ?_⟩
  · rcases List.mem_append.1 hx with hx | hx
    · exact q.wait x (by simp [hx])
    · obtain ⟨h1, h2⟩ := q.news x hx; exact ⟨h1, by omega⟩
  · refine List.pairwise_append.2 ⟨(List.pairwise_cons.1 q.rise).2, ?_, fun x hx y hy => ?_⟩
    · refine (List.pairwise_of_forall (R := fun _ _ => True) fun _ _ => trivial).imp_of_mem fun {x y} hx hy _ => ?_
      rw [(q.news x hx).2, (q.news y hy).2]; omega
    · rw [(q.news y hy).2]
      exact q.top x (q.wait x (by simp [hx])).1
  · have h1 := q.top v hv
    have hx : x ∈ t ++ new := by rw [he]; simp
    rcases List.mem_append.1 hx with hx | hx
    · have := (List.pairwise_cons.1 q.rise).1 x hx; omega
    · have := (q.news x hx).2; omega
  · by_cases e : a = h
    · subst e
      have := q.mets b (hall b hb hab)
      exact ⟨this, q.top b hb⟩
    · exact q.done a b ha hb hab h0 (by simp only [List.mem_cons, not_or]; exact ⟨e, fun hc => h1 (by simp [hc])⟩) (fun hc => h1 (by simp [hc]))

theorem QInv.end_ {N : Nat} {adj : Nat → Nat → Prop} {src : Nat} {r : List Int} (q : QInv N adj src r []) : IsDist N adj src r :=
  ⟨q.len, q.src0, q.lo, fun a b ha hb hab h0 => q.done a b ha hb hab h0 (by simp), q.pred⟩

theorem QInv.start {N src : Nat} {adj : Nat → Nat → Prop} (h : src < N) : QInv N adj src (start N src) [src] := by
  have p := start_pre (adj := adj) h
  refine ⟨p.len, p.src0, p.lo, p.pred, fun x hx => by simp only [List.mem_singleton] at hx; subst hx; exact ⟨h, by rw [p.src0]; omega⟩, by simp, fun x t he v hv => ?_, fun a b ha hb hab h0 h1 => ?_⟩
  · cases he
    have := p.hi v hv
    rw [p.src0]; omega
  · have := p.hi a ha
    have hne : a ≠ src := by simpa using h1
    obtain ⟨u, hu, _, h2, h3⟩ := p.pred a ha hne h0
    omega

theorem negs_set {r : List Int} {p : Nat} {x : Int} (hl : p < r.length) (hp : r.getD p 0 < 0) (hx : 0 ≤ x) : negs r = negs (r.set p x) + 1 := by
  induction r generalizing p with
  | nil => simp at hl
  | cons a r ih =>
    cases p with
    | zero =>
      simp at hp
      have hx' : ¬ x < 0 := by omega
      simp [negs, hp, hx']
    | succ p =>
      have := ih (p := p) (by simpa using hl) (by simpa using hp)
      unfold negs at this ⊢
      rw [List.set_cons_succ, List.filter_cons, List.filter_cons]
      split <;> (try simp only [List.length_cons]) <;> omega
end Go.Dist
