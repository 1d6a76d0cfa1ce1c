/- Parts of the proof, joined by program: CiCR1, CiCR2, CiCR3, RwR4, RwR5, RwR6. -/
import Derived.Test.YtmflheoafeenfaaGreatPa11
import Derived.Test.YtmflheoafeenfaaGreatPa10
set_option linter.unusedSimpArgs false
set_option linter.unusedVariables false
namespace Go.Proofs.YtmflheoafeenfaaGreat
open Go.Am
set_option maxRecDepth 4000
set_option maxHeartbeats 8000000
variable {E : Env} {L : Hp}
theorem rOp_ok (hF : E.fns = fnsT) (hm : E.mode f_phasorref08_Op = .iso false) (hmg : E.mode f_phasorref06_Check = .iso false) (hma : E.mode f_phasorref06_Arity = .iso false) (hmi : E.mode f_phasorref06_Is = .iso false) (hmu : E.mode f_phasorref08_unlike = .iso false)
    {n b : Int} {q : AVal} {o : OpD} (hq : SlI q o.qs) (hlt : o.qs.length < 2 ^ 62) : CallO E f_phasorref08_Op [.agg (opCells q o), aint n, aint b] L fun r L' => (∃ x, r = abool x ∧ (x = true ↔ OpOk o n b)) ∧ L' = L := by
  refine callO_iso0 (R := fun r => ∃ x, r = abool x ∧ (x = true ↔ OpOk o n b)) hm (fns_of hF n_phasorref08_Op) (vs_bare ?_ (vs_bare rfl (vs_bare rfl vs_nil))) ?_
  · simp [opCells, AVal.bare, bareAll, aint, bare_SlI hq]
  have hq1 := RowA.isOne hq
  unfold opCells
  refine bodyO_of (Nat.le_of_ble_eq_true rfl) ?_; generalize ht : argSlots _ 0 .nil = t; have h0 : t.get 0 = some _ := (by rw [← ht]; rfl); have h1 : t.get 1 = some _ := (by rw [← ht]; rfl); have h2 : t.get 2 = some _ := (by rw [← ht]; rfl); clear ht
  by_cases c1 : o.kind = 1
  · repeat' (first | intro id | refine goq ?_ | (refine oo_guard (by exact slotq) (fun hc => ?_) (fun hc => ?_) <;> (fail_if_success (exact absurd hc (by decide))) <;> rw [hc] <;> (try simp only [decide_eq_true_eq, decide_eq_false_iff_not, ne_eq, Decidable.not_not] at hc)) | (refine wo_cond_if (by exact slotq) (fun hc => ?_) (fun hc => ?_) <;> (try simp only [decide_eq_true_eq, decide_eq_false_iff_not, ne_eq, Decidable.not_not] at hc)) | ((first | apply retO_r | apply retO_n); (focus (exact resq))))
    all_goals (refine gok ?_)
    all_goals (refine (rCheck_ok hF hmg hma hmi hq hlt).mono ?_; rintro r L' ⟨⟨e, rfl, ⟨rfl, e1, e2, e3⟩ | ⟨rfl, e1⟩ | ⟨rfl, e1, e2⟩⟩, rfl⟩)
    all_goals (repeat' (first | intro id | refine goq ?_ | (refine oo_guard (by exact slotq) (fun hc => ?_) (fun hc => ?_) <;> (fail_if_success (exact absurd hc (by decide))) <;> rw [hc] <;> (try simp only [decide_eq_true_eq, decide_eq_false_iff_not, ne_eq, Decidable.not_not] at hc)) | (refine wo_cond_if (by exact slotq) (fun hc => ?_) (fun hc => ?_) <;> (try simp only [decide_eq_true_eq, decide_eq_false_iff_not, ne_eq, Decidable.not_not] at hc)) | ((first | apply retO_r | apply retO_n); (focus (exact resq)))))
    all_goals (refine ⟨rfl, _, rfl, ?_⟩; unfold OpOk condOk; grind)
  · repeat' (first | intro id | refine goq ?_ | (refine oo_guard (by exact slotq) (fun hc => ?_) (fun hc => ?_) <;> (fail_if_success (exact absurd hc (by decide))) <;> rw [hc] <;> (try simp only [decide_eq_true_eq, decide_eq_false_iff_not, ne_eq, Decidable.not_not] at hc)) | (refine wo_cond_if (by exact slotq) (fun hc => ?_) (fun hc => ?_) <;> (try simp only [decide_eq_true_eq, decide_eq_false_iff_not, ne_eq, Decidable.not_not] at hc)) | ((first | apply retO_r | apply retO_n); (focus (exact resq))))
    all_goals (first | (refine ⟨rfl, _, rfl, ?_⟩; unfold OpOk condOk; grind; done) | skip)
    all_goals (refine gok ?_)
    all_goals (refine (unlike_ok hF hmu hq hlt).mono ?_; rintro r L' ⟨⟨x, rfl, hx⟩, rfl⟩)
    all_goals (repeat' (first | intro id | refine goq ?_ | (refine oo_guard (by exact slotq) (fun hc => ?_) (fun hc => ?_) <;> (fail_if_success (exact absurd hc (by decide))) <;> rw [hc] <;> (try simp only [decide_eq_true_eq, decide_eq_false_iff_not, ne_eq, Decidable.not_not] at hc)) | (refine wo_cond_if (by exact slotq) (fun hc => ?_) (fun hc => ?_) <;> (try simp only [decide_eq_true_eq, decide_eq_false_iff_not, ne_eq, Decidable.not_not] at hc)) | ((first | apply retO_r | apply retO_n); (focus (exact resq)))))
    all_goals (refine ⟨rfl, _, rfl, ?_⟩; unfold OpOk condOk; grind)
end Go.Proofs.YtmflheoafeenfaaGreat
namespace Go.Proofs.YtmflheoafeenfaaGreat
open Go.Am
set_option maxRecDepth 4000
set_option maxHeartbeats 8000000
variable {E : Env} {L : Hp}
theorem rcheck8_l0 (hF : E.fns = fnsT) (hmo : E.mode f_phasorref08_Op = .iso false) (hmg : E.mode f_phasorref06_Check = .iso false) (hma : E.mode f_phasorref06_Arity = .iso false) (hmi : E.mode f_phasorref06_Is = .iso false) (hmu : E.mode f_phasorref08_unlike = .iso false) (hst : still E c_phasorref08_Check_r5 = true)
    {c : CircD} {s : AVal} {cs : List AVal} {i1 : Nat} (hr : RowA s cs c.ops.length) (hcs : OpsC cs c.ops) (hlt : c.ops.length < 2 ^ 62) :
    ∀ (d k : Nat) (t : Tr AVal) (L : Hp), d + k = c.ops.length → In i1 [aint c.qubits, aint c.bits, s] L → t.get 1 = some (.ptr i1 0) → t.get 4 = some (aint k) → (∀ i, i < k → OpOk (c.ops.getD i default) c.qubits c.bits) →
    WpO E (.loop c_phasorref08_Check_l0) t L (fun ex t' L' => (ex = .exit 0 ∧ (∀ i, i < c.ops.length → OpOk (c.ops.getD i default) c.qubits c.bits)) ∨ (ex = .ret ∧ (∃ j : Nat, t'.get 2 = some (aint j)) ∧ t'.get 3 = some (aint 80) ∧ ¬ (∀ i, i < c.ops.length → OpOk (c.ops.getD i default) c.qubits c.bits))) := by
  have hs1 := RowA.isOne hr
  intro d
  induction d with
  | zero =>
    intro k t L hk hin h1 h4 hok
    obtain rfl : k = c.ops.length := by omega
    refine wo_loop ?_
    repeat (first | intro id | refine goq ?_)
    exact .inl ⟨rfl, hok⟩
  | succ d ih =>
    intro k t L hk hin h1 h4 hok
    have hkl : k < c.ops.length := by omega
    obtain ⟨q, ha⟩ := hcs.at hkl
    generalize hO : c.ops.getD k default = o at ha
    have hq := ha.hq
    have hq1 := RowA.isOne hq
    have hlt6 := ha.lt
    have hseg := ha.seg
    unfold opCells at hseg
    refine wo_loop ?_
    repeat (first | intro id | refine goq ?_)
    refine gok ?_
    refine (rOp_ok hF hmo hmg hma hmi hmu hq ha.b).mono ?_
    rintro r L' ⟨⟨x, rfl, hx⟩, rfl⟩
    cases x with
    | true =>
      repeat (first | intro id | refine goq ?_)
      refine ih (k + 1) _ _ (by omega) hin ?_ ?_ ?_
      · exact slotq
      · exact slotq
      · intro i hi
        by_cases e : i = k
        · subst e; rw [hO]; exact hx.1 rfl
        · exact hok i (by omega)
    | false =>
      repeat (first | intro id | refine goq ?_)
      refine .inr ⟨rfl, ⟨k, by exact slotq⟩, by exact slotq, fun h => ?_⟩
      have := hx.2 (by rw [← hO]; exact h k hkl)
      cases this
theorem rCheck8_ok (hF : E.fns = fnsT) (hm : E.mode f_phasorref08_Check = .iso false) (hmo : E.mode f_phasorref08_Op = .iso false) (hmg : E.mode f_phasorref06_Check = .iso false) (hma : E.mode f_phasorref06_Arity = .iso false) (hmi : E.mode f_phasorref06_Is = .iso false) (hmu : E.mode f_phasorref08_unlike = .iso false) (hst : still E c_phasorref08_Check_r5 = true)
    {c : CircD} {v : AVal} (hv : CircA v c) : CallO E f_phasorref08_Check [v] L fun r L' => chkE c r ∧ L' = L := by
  refine callO_iso0 (R := chkE c) hm (fns_of hF n_phasorref08_Check) (vs_bare hv.bare vs_nil) ?_
  obtain ⟨s, rfl, cs, hr, hcs, hlt⟩ := hv
  have hs1 := RowA.isOne hr
  refine bodyO_of (Nat.le_of_ble_eq_true rfl) ?_; generalize ht : argSlots _ 0 .nil = t; have h0 : t.get 0 = some _ := (by rw [← ht]; rfl); clear ht
  repeat' (first | intro id | refine goq ?_ | (refine oo_guard (by exact slotq) (fun hc => ?_) (fun hc => ?_) <;> (fail_if_success (exact absurd hc (by decide))) <;> rw [hc] <;> (try simp only [decide_eq_true_eq, decide_eq_false_iff_not, ne_eq, Decidable.not_not] at hc)) | (refine wo_cond_if (by exact slotq) (fun hc => ?_) (fun hc => ?_) <;> (try simp only [decide_eq_true_eq, decide_eq_false_iff_not, ne_eq, Decidable.not_not] at hc)) | ((first | apply retO_r | apply retO_n); (focus (exact resq))))
  all_goals (first | (refine ⟨rfl, _, _, rfl, ?_⟩; exact .inr ⟨rfl, fun h => by have := h.q0; have := h.q1; have := h.b0; have := h.b1; have := h.len; omega⟩) | skip)
  refine WpO.mono (rcheck8_l0 hF hmo hmg hma hmi hmu hst hr hcs hlt c.ops.length 0 _ _ (by omega) .here ?_ ?_ (fun i hi => by omega)) ?_
  · exact slotq
  · exact slotq
  rintro ex t' L' (⟨rfl, hall⟩ | ⟨rfl, ⟨j, g2⟩, g3, hno⟩)
  · repeat (first | intro id | refine goq ?_)
    ((first | apply retO_r | apply retO_n); (focus (exact resq)))
    exact ⟨rfl, 0, 0, rfl, .inl ⟨rfl, by constructor <;> first | assumption | omega⟩⟩
  · repeat (first | intro id | refine goq ?_)
    ((first | apply retO_r | apply retO_n); (focus (exact resq)))
    exact ⟨rfl, j, 80, rfl, .inr ⟨rfl, fun h => hno h.ok⟩⟩
theorem May_ok (hF : E.fns = fnsT) (hm : E.mode f_phasorref08_May = .iso false) (hmk : E.mode f_phasorref08_Check = .iso false) (hmo : E.mode f_phasorref08_Op = .iso false) (hmg : E.mode f_phasorref06_Check = .iso false) (hma : E.mode f_phasorref06_Arity = .iso false) (hmi : E.mode f_phasorref06_Is = .iso false) (hmu : E.mode f_phasorref08_unlike = .iso false) (hst : still E c_phasorref08_Check_r5 = true)
    {c : CircD} {v : AVal} (hv : CircA v c) : CallO E f_phasorref08_May [v] L fun r L' => (∃ x, r = abool x ∧ (x = true ↔ CircOk c)) ∧ L' = L := by
  refine callO_iso0 (R := fun r => ∃ x, r = abool x ∧ (x = true ↔ CircOk c)) hm (fns_of hF n_phasorref08_May) (vs_bare hv.bare vs_nil) ?_
  have hv0 := hv
  obtain ⟨s, rfl, cs, hr, hcs, hlt⟩ := hv
  have hs1 := RowA.isOne hr
  refine bodyO_of (Nat.le_of_ble_eq_true rfl) ?_; generalize ht : argSlots _ 0 .nil = t; have h0 : t.get 0 = some _ := (by rw [← ht]; rfl); clear ht
  repeat (first | intro id | refine goq ?_)
  refine gok ?_
  refine (rCheck8_ok hF hmk hmo hmg hma hmi hmu hst hv0).mono ?_
  rintro r L' ⟨⟨i, e, rfl, ⟨rfl, h⟩ | ⟨rfl, h⟩⟩, rfl⟩
  · repeat (first | intro id | refine goq ?_)
    ((first | apply retO_r | apply retO_n); (focus (exact resq)))
    exact ⟨rfl, true, rfl, by simp [h]⟩
  · repeat (first | intro id | refine goq ?_)
    ((first | apply retO_r | apply retO_n); (focus (exact resq)))
    exact ⟨rfl, false, rfl, by simp [h]⟩

end Go.Proofs.YtmflheoafeenfaaGreat
namespace Go.Proofs.YtmflheoafeenfaaGreat
open Go.Am
set_option maxRecDepth 4000
set_option maxHeartbeats 8000000
variable {E : Env} {L : Hp}
/-! Held against each other -/
theorem ints8_l0 {la lb : List Int} {va vb : AVal} (ha : SlI va la) (hb : SlI vb lb) (hl : la.length = lb.length) (hlt : la.length < 2 ^ 62) : ∀ (d k : Nat) (t : Tr AVal), d + k = la.length → t.get 0 = some va → t.get 1 = some vb → t.get 5 = some (aint k) →
    WpO E (.loop c_phasorref08_ints_l0) t L (fun ex t' _ => (ex = .exit 0 ∧ la.drop k = lb.drop k) ∨ (ex = .ret ∧ t'.get 4 = some (abool false) ∧ la.drop k ≠ lb.drop k)) := by
  intro d
  induction d with
  | zero =>
    intro k t hk h0 h1 h5
    refine wo_loop ?_
    repeat (first | intro id | refine goq ?_)
    refine .inl ⟨rfl, ?_⟩
    rw [List.drop_of_length_le (by omega), List.drop_of_length_le (by omega)]
  | succ d ih =>
    intro k t hk h0 h1 h5
    refine wo_loop ?_
    have hde := drop_eq 0 hl (show k < la.length by omega)
    by_cases c : la.getD k 0 = lb.getD k 0
    · repeat (first | intro id | refine goq ?_)
      refine WpO.mono (ih (k + 1) _ (by omega) (by exact slotq) (by exact slotq) (by exact slotq)) fun ex t' L' hq => ?_
      simp only [c, true_and] at hde
      simp only [ne_eq, hde]
      exact hq
    · repeat (first | intro id | refine goq ?_)
      exact .inr ⟨rfl, by exact slotq, fun he => c (hde.1 he).1⟩
theorem ints8_ok (hF : E.fns = fnsT) (hm : E.mode f_phasorref08_ints = .iso false) {a b va vb : AVal} {la lb : List Int} (hv : ViewsO L [a, b] [va, vb]) (ha : SlI va la) (hb : SlI vb lb) (hlt : la.length < 2 ^ 62) :
    CallO E f_phasorref08_ints [a, b] L fun v L' => v = abool (decide (la = lb)) ∧ L' = L := by
  refine callO_iso0 hm (fns_of hF n_phasorref08_ints) hv ?_
  have ha1 := RowA.isOne ha
  have hb1 := RowA.isOne hb
  refine bodyO_of (Nat.le_of_ble_eq_true rfl) ?_; generalize ht : argSlots _ 0 .nil = t; have h0 : t.get 0 = some _ := (by rw [← ht]; rfl); have h1 : t.get 1 = some _ := (by rw [← ht]; rfl); clear ht
  by_cases hl : la.length = lb.length
  · repeat (first | intro id | refine goq ?_)
    refine WpO.mono (ints8_l0 ha hb hl hlt la.length 0 _ (by omega) (by exact slotq) (by exact slotq) (by exact slotq)) fun ex t' L' hq => ?_
    obtain ⟨rfl, hq2⟩ | ⟨rfl, hq2, hq3⟩ := hq
    · simp only [List.drop_zero] at hq2
      repeat (first | intro id | refine goq ?_)
      ((first | apply retO_r | apply retO_n); (focus (exact resq)))
      exact ⟨rfl, by rw [decide_eq_true hq2]; rfl⟩
    · simp only [List.drop_zero] at hq3
      repeat (first | intro id | refine goq ?_)
      ((first | apply retO_r | apply retO_n); (focus (exact resq)))
      exact ⟨rfl, by rw [decide_eq_false hq3]; rfl⟩
  · repeat (first | intro id | refine goq ?_)
    ((first | apply retO_r | apply retO_n); (focus (exact resq)))
    exact ⟨rfl, by rw [decide_eq_false (by rintro rfl; exact hl rfl)]; rfl⟩
theorem SameOp_ok (hF : E.fns = fnsT) (hm : E.mode f_phasorref08_SameOp = .iso false) (hmi : E.mode f_phasorref08_ints = .iso false) {p q : AVal} {a b : OpD} (hp : SlI p a.qs) (hq : SlI q b.qs) (hlt : a.qs.length < 2 ^ 62) :
    CallO E f_phasorref08_SameOp [.agg (opCells p a), .agg (opCells q b)] L fun v L' => (∃ x, v = abool x ∧ (x = true ↔ a = b)) ∧ L' = L := by
  refine callO_iso0 (R := fun v => ∃ x, v = abool x ∧ (x = true ↔ a = b)) hm (fns_of hF n_phasorref08_SameOp) (vs_bare ?_ (vs_bare ?_ vs_nil)) ?_
  · simp [opCells, AVal.bare, bareAll, aint, bare_SlI hp]
  · simp [opCells, AVal.bare, bareAll, aint, bare_SlI hq]
  have hp1 := RowA.isOne hp
  have hq1 := RowA.isOne hq
  unfold opCells
  obtain ⟨a1, a2, a3, a4, a5, a6⟩ := a
  obtain ⟨b1, b2, b3, b4, b5, b6⟩ := b
  simp only at hp hq hlt ⊢
  simp only [OpD.mk.injEq]
  refine bodyO_of (Nat.le_of_ble_eq_true rfl) ?_; generalize ht : argSlots _ 0 .nil = t; have h0 : t.get 0 = some _ := (by rw [← ht]; rfl); have h1 : t.get 1 = some _ := (by rw [← ht]; rfl); clear ht
  repeat' (first | intro id | refine goq ?_ | (refine oo_guard (by exact slotq) (fun hc => ?_) (fun hc => ?_) <;> (fail_if_success (exact absurd hc (by decide))) <;> rw [hc] <;> (try simp only [decide_eq_true_eq, decide_eq_false_iff_not, ne_eq, Decidable.not_not] at hc)) | (refine wo_cond_if (by exact slotq) (fun hc => ?_) (fun hc => ?_) <;> (try simp only [decide_eq_true_eq, decide_eq_false_iff_not, ne_eq, Decidable.not_not] at hc)) | ((first | apply retO_r | apply retO_n); (focus (exact resq))))
  all_goals (first | (refine ⟨rfl, false, rfl, ?_⟩; simp only [Bool.false_eq_true, false_iff]; intro h; omega) | skip)
  refine gok ?_
  refine (ints8_ok hF hmi (vs_bare (bare_SlI hp) (vs_bare (bare_SlI hq) vs_nil)) hp hq hlt).mono ?_
  rintro r L' ⟨rfl, rfl⟩
  repeat (first | intro id | refine goq ?_)
  ((first | apply retO_r | apply retO_n); (focus (exact resq)))
  refine ⟨rfl, decide (a3 = b3), rfl, ?_⟩
  simp only [decide_eq_true_eq]
  exact ⟨fun h => ⟨by omega, by omega, h, by omega, by omega, by omega⟩, fun h => h.2.2.1⟩
theorem same8_l0 (hF : E.fns = fnsT) (hms : E.mode f_phasorref08_SameOp = .iso false) (hmi : E.mode f_phasorref08_ints = .iso false) (hst : still E c_phasorref08_Same_r5 = true) {a b : List OpD} {va vb : AVal} {ca cb : List AVal} {na ba nb bb : Int} {i2 i3 : Nat} (ha : RowA va ca a.length) (hca : OpsC ca a) (hb : RowA vb cb b.length) (hcb : OpsC cb b) (hl : a.length = b.length) (hlt : a.length < 2 ^ 62)
    (hi2 : In i2 [aint na, aint ba, va] L) (hi3 : In i3 [aint nb, aint bb, vb] L) :
    ∀ (d k : Nat) (t : Tr AVal), d + k = a.length → t.get 2 = some (.ptr i2 0) → t.get 3 = some (.ptr i3 0) → t.get 5 = some (aint k) →
    WpO E (.loop c_phasorref08_Same_l0) t L (fun ex t' _ => (ex = .exit 0 ∧ a.drop k = b.drop k) ∨ (ex = .ret ∧ t'.get 4 = some (abool false) ∧ a.drop k ≠ b.drop k)) := by
  have ha1 := RowA.isOne ha
  have hb1 := RowA.isOne hb
  intro d
  induction d with
  | zero =>
    intro k t hk h2 h3 h5
    refine wo_loop ?_
    repeat (first | intro id | refine goq ?_)
    refine .inl ⟨rfl, ?_⟩
    rw [List.drop_of_length_le (by omega), List.drop_of_length_le (by omega)]
  | succ d ih =>
    intro k t hk h2 h3 h5
    refine wo_loop ?_
    have hde := drop_eq default hl (show k < a.length by omega)
    obtain ⟨p, hp, hpl, hp6, hps⟩ := hca.getE (show k < a.length by omega)
    obtain ⟨q, hq, hql, hq6, hqs⟩ := hcb.getE (show k < b.length by omega)
    have hp1 := RowA.isOne hp
    have hq1 := RowA.isOne hq
    generalize a.getD k default = x at *
    generalize b.getD k default = y at *
    repeat (first | intro id | refine goq ?_)
    refine gok ?_
    refine (SameOp_ok hF hms hmi hp hq hpl).mono ?_
    rintro r L' ⟨⟨z, rfl, hz⟩, rfl⟩
    cases z with
    | true =>
      have e := hz.1 rfl
      repeat (first | intro id | refine goq ?_)
      refine WpO.mono (ih (k + 1) _ (by omega) (by exact slotq) (by exact slotq) (by exact slotq)) fun ex t' L' hq => ?_
      simp only [e, true_and] at hde
      simp only [ne_eq, hde]
      exact hq
    | false =>
      repeat (first | intro id | refine goq ?_)
      refine .inr ⟨rfl, by exact slotq, fun he => ?_⟩
      have := hz.2 (hde.1 he).1
      cases this
theorem Same8_ok (hF : E.fns = fnsT) (hm : E.mode f_phasorref08_Same = .iso false) (hms : E.mode f_phasorref08_SameOp = .iso false) (hmi : E.mode f_phasorref08_ints = .iso false) (hst : still E c_phasorref08_Same_r5 = true) {a b : AVal} {va vb : AVal} {c d : CircD} (hv : ViewsO L [a, b] [va, vb]) (hc : CircA va c) (hd : CircA vb d) :
    CallO E f_phasorref08_Same [a, b] L fun v L' => (∃ x, v = abool x ∧ (x = true ↔ c = d)) ∧ L' = L := by
  refine callO_iso0 (R := fun v => ∃ x, v = abool x ∧ (x = true ↔ c = d)) hm (fns_of hF n_phasorref08_Same) hv ?_
  obtain ⟨sa, rfl, ca, ha, hca, hlt⟩ := hc
  obtain ⟨sb, rfl, cb, hb, hcb, -⟩ := hd
  have ha1 := RowA.isOne ha
  have hb1 := RowA.isOne hb
  obtain ⟨c1, c2, c3⟩ := c
  obtain ⟨d1, d2, d3⟩ := d
  simp only at *
  simp only [CircD.mk.injEq]
  refine bodyO_of (Nat.le_of_ble_eq_true rfl) ?_; generalize ht : argSlots _ 0 .nil = t; have h0 : t.get 0 = some _ := (by rw [← ht]; rfl); have h1 : t.get 1 = some _ := (by rw [← ht]; rfl); clear ht
  repeat' (first | intro id | refine goq ?_ | (refine oo_guard (by exact slotq) (fun hc => ?_) (fun hc => ?_) <;> (fail_if_success (exact absurd hc (by decide))) <;> rw [hc] <;> (try simp only [decide_eq_true_eq, decide_eq_false_iff_not, ne_eq, Decidable.not_not] at hc)) | (refine wo_cond_if (by exact slotq) (fun hc => ?_) (fun hc => ?_) <;> (try simp only [decide_eq_true_eq, decide_eq_false_iff_not, ne_eq, Decidable.not_not] at hc)) | ((first | apply retO_r | apply retO_n); (focus (exact resq))))
  all_goals (first | (refine ⟨rfl, false, rfl, ?_⟩; simp only [Bool.false_eq_true, false_iff]; rintro ⟨h1, h2, h3⟩; first | omega | (subst h3; omega)) | skip)
  refine WpO.mono (same8_l0 hF hms hmi hst ha hca hb hcb (by omega) hlt (.next .here) .here c3.length 0 _ (by omega) (by exact slotq) (by exact slotq) (by exact slotq)) ?_
  rintro ex t' L' (⟨rfl, he⟩ | ⟨rfl, g4, he⟩)
  · simp only [List.drop_zero] at he
    repeat (first | intro id | refine goq ?_)
    ((first | apply retO_r | apply retO_n); (focus (exact resq)))
    exact ⟨rfl, true, rfl, by simp [he]; omega⟩
  · simp only [List.drop_zero] at he
    repeat (first | intro id | refine goq ?_)
    ((first | apply retO_r | apply retO_n); (focus (exact resq)))
    exact ⟨rfl, false, rfl, by simp [he]⟩
end Go.Proofs.YtmflheoafeenfaaGreat
namespace Go.Proofs.YtmflheoafeenfaaGreat
open Go.Am
set_option maxRecDepth 4000
set_option maxHeartbeats 8000000
variable {E : Env} {L : Hp}
theorem OpsC.append {cs ds : List AVal} {os ps : List OpD} (h : OpsC cs os) (k : OpsC ds ps) : OpsC (cs ++ ds) (os ++ ps) := by
  induction h with
  | nil => exact k
  | cons hq hb h ih => rw [List.append_assoc, List.cons_append]; exact .cons hq hb ih
theorem OpsC.drop {cs : List AVal} {os : List OpD} (h : OpsC cs os) : ∀ k, OpsC (cs.drop (k * 6)) (os.drop k) := by
  induction h with
  | nil => intro k; simp; exact .nil
  | @cons q o cs os hq hb h ih =>
    intro k
    cases k with
    | zero => simpa using OpsC.cons hq hb h
    | succ k =>
      have e : (opCells q o ++ cs).drop ((k + 1) * 6) = cs.drop (k * 6) := by
        have : (k + 1) * 6 = (opCells q o).length + k * 6 := by simp [opCells]; omega
        rw [this, List.drop_append, Nat.add_sub_cancel_left, List.drop_of_length_le (by omega), List.nil_append]
      rw [e, List.drop_succ_cons]
      exact ih k
theorem OpsC.take {cs : List AVal} {os : List OpD} (h : OpsC cs os) : ∀ k, OpsC (cs.take (k * 6)) (os.take k) := by
  induction h with
  | nil => intro k; simp; exact .nil
  | @cons q o cs os hq hb h ih =>
    intro k
    cases k with
    | zero => simpa using OpsC.nil
    | succ k =>
      have e : (opCells q o ++ cs).take ((k + 1) * 6) = opCells q o ++ cs.take (k * 6) := by
        have : (k + 1) * 6 = (opCells q o).length + k * 6 := by simp [opCells]; omega
        rw [this, List.take_append, Nat.add_sub_cancel_left, List.take_of_length_le (by omega)]
      rw [e, List.take_succ_cons]
      exact .cons hq hb (ih k)
theorem OpsC.erase {cs : List AVal} {os : List OpD} (h : OpsC cs os) (k : Nat) : OpsC (cs.take (k * 6) ++ cs.drop ((k + 1) * 6)) (os.eraseIdx k) := by
  rw [List.eraseIdx_eq_take_drop_succ]
  exact (h.take k).append (h.drop (k + 1))
theorem OpsC.one {cs : List AVal} {os : List OpD} (h : OpsC cs os) : cs.all AVal.one = true := by
  induction h with
  | nil => rfl
  | @cons q o cs os hq hb h ih =>
    rw [List.all_append, ih]
    have hq1 := RowA.isOne hq
    simp only [opCells, List.all_cons, List.all_nil, hq1, Bool.and_true]
    rfl
theorem OpsC.viewL {k : Nat} {cs : List AVal} {os : List OpD} (h : OpsC cs os) : ViewL L (k + 1) cs cs := by
  induction h with
  | nil => exact vl_nil
  | @cons q o cs os hq hb h ih =>
    exact vl_app (vl_cons vo_sc (vl_cons vo_sc (vl_cons (vo_bareI hq) (vl_cons vo_sc (vl_cons vo_sc (vl_cons vo_sc vl_nil)))))) ih
/-- A row of operations in a box of its own, its qubits in rows that stay: seen. -/
theorem bufOps_view {k n : Nat} {a : AVal} {cs : List AVal} {os : List OpD} {B M : Hp} (hb : BufO 6 a cs n B) (hcs : OpsC cs os) (hn : n = os.length) (hlt : os.length < 2 ^ 62) (hM : ∀ id c, In id c B → In id c M) : ∃ u, ViewO M (k + 2) a u ∧ OpsA u os := by
  subst hn
  rcases bufInv hb with ⟨rfl, rfl, e, rfl⟩ | ⟨id, rfl, rfl⟩
  · exact ⟨anil, vo_sc, [], .inl ⟨rfl, e, rfl⟩, hcs, hlt⟩
  · exact ⟨_, vo_sl (hM _ _ .here) (seg_full hb.length) hcs.viewL, cs, .inr ⟨none, rfl⟩, hcs, hlt⟩
theorem rwithout_ok (hF : E.fns = fnsT) (hm : E.mode f_phasorref18_without = .iso true) {v : AVal} {l : List OpD} {j : Nat} (hv : OpsA v l) (hj : j < l.length) (hlt : l.length ≤ 1000000) :
    CallO E f_phasorref18_without [v, aint j] L fun r L' => OpsA r (l.eraseIdx j) ∧ L' = L := by
  refine callO_iso1 (R := fun r => OpsA r (l.eraseIdx j)) hm (fns_of hF n_phasorref18_without) (by simp [hv.bare]; rfl) ?_
  obtain ⟨cs, hr, hcs, -⟩ := hv
  have hv1 := RowA.isOne hr
  have hlen := hcs.length
  rcases hr with ⟨rfl, h0, h1⟩ | ⟨cap, rfl⟩
  · omega
  have s1 : seg cs 0 (j * 6) = some (cs.take (j * 6)) := by unfold seg; rw [if_pos (by omega)]; simp
  have s2 : seg cs ((j + 1) * 6) ((l.length - (j + 1)) * 6) = some (cs.drop ((j + 1) * 6)) := by
    unfold seg
    rw [if_pos (by omega), List.take_of_length_le (by simp; omega)]
  have r1 : RowA (.rs (cs.take (j * 6)) j cap) (cs.take (j * 6)) j := .inr ⟨_, rfl⟩
  have r2 : RowA (.rs (cs.drop ((j + 1) * 6)) (l.length - (j + 1)) (cap.map (· - (j + 1)))) (cs.drop ((j + 1) * 6)) (l.length - (j + 1)) := .inr ⟨_, rfl⟩
  refine bodyO_of (Nat.le_of_ble_eq_true rfl) ?_; generalize ht : argSlots _ 0 .nil = t; have h0 : t.get 0 = some _ := (by rw [← ht]; rfl); have h1 : t.get 1 = some _ := (by rw [← ht]; rfl); clear ht
  repeat (first | intro id | refine goq ?_)
  refine oo_p wanted_none (fun m hm => op_sliceHiR (by exact slotq) (by exact slotq) (by omega) s1) ?_
  repeat (first | intro id | refine goq ?_)
  refine oo_appendR wanted_none (by exact slotq) .nil (by exact slotq) r1 .nil (by simp; omega) (hcs.take j).one (by omega) (by omega) ?_
  intro a C ha
  have a1 := ha.isOne
  repeat (first | intro id | refine goq ?_)
  refine oo_p wanted_none (fun m hm => op_sliceLoR (lo := j + 1) (by exact slotq) (by exact slotq) (by omega) s2) ?_
  repeat (first | intro id | refine goq ?_)
  refine oo_appendR wanted_none (by exact slotq) ha (by exact slotq) r2 Rem.here (by simp; omega) (hcs.drop (j + 1)).one (by omega) (by omega) ?_
  intro b D hb
  have b1 := hb.isOne
  repeat (first | intro id | refine goq ?_)
  ((first | apply retO_r | apply retO_n); (focus (exact resq)))
  exact bufOps_view hb (by simpa using hcs.erase j) (by rw [List.length_eraseIdx, if_pos hj]; omega) (by rw [List.length_eraseIdx, if_pos hj]; omega) (fun id c hi => hi.appl)
end Go.Proofs.YtmflheoafeenfaaGreat
namespace Go.Proofs.YtmflheoafeenfaaGreat
open Go.Am
set_option maxRecDepth 4000
set_option maxHeartbeats 8000000
variable {E : Env} {L : Hp}
theorem rorder_l0 (hF : E.fns = fnsT) (hmp : E.mode f_phasorref18_partner = .iso false) (hmT : E.mode f_phasorref18_Touch = .iso false) (hmt : E.mode f_phasorref18_takes = .iso false) (hms : E.mode f_phasorref18_sets = .iso false) (hst : still E c_phasorref18_partner_r3 = true)
    (hml : E.mode f_phasorref18_less = .iso false) (hmc : E.mode f_phasorref18_compare = .iso false) (hstl : still E c_phasorref18_less_r6 = true) (hst10 : still E c_phasorref18_Order_r10 = true)
    {v : AVal} {l : List OpD} (hv : OpsA v l) :
    ∀ (d k : Nat) (t : Tr AVal), d + k = l.length → t.get 5 = some v → t.get 6 = some (aint (bestTo l k)) → t.get 7 = some (aint k) →
    WpO E (.loop c_phasorref18_Order_l0) t L (fun ex t' L' => ex = .exit 2 ∧ Keep [1, 2, 4, 5] t t' ∧ t'.get 6 = some (aint (bestTo l l.length)) ∧ L' = L) := by
  have hv0 := hv
  have hvb := hv.bare
  obtain ⟨cs, hr, hcs, hlt⟩ := hv
  have hv1 := RowA.isOne hr
  intro d
  induction d with
  | zero =>
    intro k t hk h5 h6 h7
    obtain rfl : k = l.length := by omega
    refine wo_loop ?_
    repeat (first | intro id | refine goq ?_)
    exact ⟨rfl, by exact keepq, by exact slotq, rfl⟩
  | succ d ih =>
    intro k t hk h5 h6 h7
    have hkl : k < l.length := by omega
    obtain ⟨q, hq, hqb, hlt6, hseg⟩ := hcs.getE hkl
    have hq1 := RowA.isOne hq
    unfold opCells at hseg
    have hpn := partI_neg hkl
    have next : ∀ (t2 : Tr AVal), Keep [1, 2, 4, 5] t t2 → t2.get 6 = some (aint (bestTo l (k + 1))) → t2.get 7 = some (aint ((k + 1 : Nat) : Int)) →
        WpO E (.loop c_phasorref18_Order_l0) t2 L (fun ex t' L' => ex = .exit 2 ∧ Keep [1, 2, 4, 5] t t' ∧ t'.get 6 = some (aint (bestTo l l.length)) ∧ L' = L) := fun t2 hK e6 e7 =>
      WpO.mono (ih (k + 1) t2 (by omega) ((hK.ex 5 rfl).trans h5) e6 e7) (fun ex t' L' ⟨x1, x2, x3, x4⟩ => ⟨x1, hK.trans x2, x3, x4⟩)
    refine wo_loop ?_
    repeat (first | intro id | refine goq ?_)
    refine gok ?_
    refine (rpartner_ok hF hmp hmT hmt hms hst (vs_bare hvb (vs_bare rfl vs_nil)) hv0 hkl).mono ?_
    rintro r L' ⟨rfl, rfl⟩
    by_cases hf : freeB l k = true
    · have hp := hpn.2 hf
      rcases bestTo_spec l k with ⟨e, -⟩ | ⟨b, e, hb⟩
      · have e2 : bestTo l (k + 1) = k := by simp only [bestTo]; rw [if_pos ⟨hf, .inl (by omega)⟩]
        rw [e] at h6
        repeat (first | intro id | refine goq ?_)
        refine next _ (by exact keepq) ?_ ?_
        · rw [e2]
          exact slotq
        · exact slotq
      · rw [e] at h6
        have hbl := hb.lt
        obtain ⟨p, hp', hpb, plt6, pseg⟩ := hcs.getE (show b < l.length by omega)
        have hp1 := RowA.isOne hp'
        have ll := fun (M : Hp) => rless_ok (L := M) hF hml hmc hstl hq hp' hqb hpb (vs_bare (bare_opV hq) (vs_bare (bare_opV hp') vs_nil))
        unfold opV opCells at ll
        unfold opCells at pseg
        repeat (first | intro id | refine goq ?_)
        refine gok ?_
        refine (ll _).mono ?_
        rintro r L' ⟨rfl, rfl⟩
        cases hl : lessB (l.getD k default) (l.getD b default) with
        | true =>
          have e2 : bestTo l (k + 1) = k := by simp only [bestTo]; rw [if_pos ⟨hf, .inr (by rw [e, Int.toNat_natCast]; exact hl)⟩]
          repeat (first | intro id | refine goq ?_)
          refine next _ (by exact keepq) ?_ ?_
          · rw [e2]
            exact slotq
          · exact slotq
        | false =>
          have e2 : bestTo l (k + 1) = b := by simp only [bestTo]; rw [if_neg (fun h => by rcases h.2 with h | h; omega; rw [e, Int.toNat_natCast, hl] at h; cases h)]; exact e
          repeat (first | intro id | refine goq ?_)
          refine next _ (by exact keepq) ?_ ?_
          · rw [e2]
            exact slotq
          · exact slotq
    · have hp : ¬ partI l k < 0 := fun h => hf (hpn.1 h)
      have e2 : bestTo l (k + 1) = bestTo l k := by simp only [bestTo]; rw [if_neg (fun h => hf h.1)]
      rw [← e2] at h6
      repeat (first | intro id | refine goq ?_)
      refine next _ (by exact keepq) ?_ ?_
      · exact slotq
      · exact slotq
theorem rorder_l1 (hF : E.fns = fnsT) (hmp : E.mode f_phasorref18_partner = .iso false) (hmT : E.mode f_phasorref18_Touch = .iso false) (hmt : E.mode f_phasorref18_takes = .iso false) (hms : E.mode f_phasorref18_sets = .iso false) (hst : still E c_phasorref18_partner_r3 = true)
    (hml : E.mode f_phasorref18_less = .iso false) (hmc : E.mode f_phasorref18_compare = .iso false) (hstl : still E c_phasorref18_less_r6 = true) (hst10 : still E c_phasorref18_Order_r10 = true) (hst13 : still E c_phasorref18_Order_r13 = true) (hmw : E.mode f_phasorref18_without = .iso true)
    {i4 : Nat} {cq cb : Int} {os0 : List OpD} (hlt : os0.length ≤ 1000000) :
    ∀ (n : Nat) (l os : List OpD) (v a : AVal) (cs : List AVal) (B : Hp) (t : Tr AVal), l.length = n → os.length + n = os0.length → ordL os0 = os ++ ordF n l → OpsA v l → BufO 6 a cs os.length B → OpsC cs os → t.get 4 = some (.ptr i4 0) → t.get 5 = some v →
    WpO E (.loop c_phasorref18_Order_l1) t ((i4, [aint cq, aint cb, a]) :: (B ++ L)) (fun ex t' L' => ex = .exit 0 ∧ Keep [1, 2, 4] t t' ∧ ∃ a' cs' B', BufO 6 a' cs' (ordL os0).length B' ∧ OpsC cs' (ordL os0) ∧ L' = (i4, [aint cq, aint cb, a']) :: (B' ++ L)) := by
  intro n
  induction n with
  | zero =>
    intro l os v a cs B t hl hn ho hv hb hcs h4 h5
    have hv1 : v.one = true := by obtain ⟨_, hr, -, -⟩ := hv; exact RowA.isOne hr
    obtain ⟨rs, hr, hrs, hrl⟩ := hv
    refine wo_loop ?_
    repeat (first | intro id | refine goq ?_)
    have e : ordL os0 = os := by rw [ho]; simp [ordF]
    rw [e]
    exact ⟨rfl, by exact keepq, a, cs, B, hb, hcs, rfl⟩
  | succ n ih =>
    intro l os v a cs B t hl hn ho hv hb hcs h4 h5
    have hv0 := hv
    have hvb := hv.bare
    obtain ⟨rs, hr, hrs, hrl⟩ := hv
    have hv1 := RowA.isOne hr
    have a1 := hb.isOne
    have hbest := bestI_spec (l := l) (by omega)
    have hbl := hbest.lt
    obtain ⟨q, hq, hqb, hlt6, hseg⟩ := hrs.getE hbl
    have hq1 := RowA.isOne hq
    have hbt : bestTo l l.length = (bestI l : Int) := by
      rcases bestTo_spec l l.length with ⟨e, h⟩ | ⟨b, e, h⟩
      · have := h 0 (by omega)
        rw [free_zero] at this
        cases this
      · unfold bestI
        rw [e, Int.toNat_natCast]
    unfold opCells at hseg
    refine wo_loop ?_
    repeat (first | intro id | refine goq ?_)
    refine WpO.mono (rorder_l0 hF hmp hmT hmt hms hst hml hmc hstl hst10 hv0 l.length 0 _ (by omega) ?_ ?_ ?_) ?_
    · exact slotq
    · exact slotq
    · exact slotq
    rintro ex t1 L' ⟨rfl, hK, g6, rfl⟩
    have g4 : t1.get 4 = some (.ptr i4 0) := (hK.ex 4 rfl).trans (by exact slotq)
    have g5 : t1.get 5 = some v := (hK.ex 5 rfl).trans (by exact slotq)
    have hKt : Keep [1, 2, 4] t t1 := Keep.trans (by exact keepq) (hK.less rfl)
    clear hK
    rw [hbt] at g6
    generalize hbi : bestI l = b at *
    generalize hO : l.getD b default = o at *
    refine blkO.x (seqO.n ?_)
    repeat (first | intro id | refine goq ?_)
    refine gok ?_
    refine (rwithout_ok hF hmw hv0 hbl (by omega)).mono ?_
    rintro w L' ⟨hw, rfl⟩
    have w1 := (hw : OpsA w _).bare
    repeat (first | intro id | refine goq ?_)
    have hb2 := hb.pushed (id := id) (nw := opCells q o) rfl (by simp only [opCells, List.all_cons, List.all_nil, hq1, Bool.and_true]; rfl)
    have hc2 : OpsC (cs ++ opCells q o) (os ++ [o]) := hcs.snoc hq hqb
    have ho2 : ordL os0 = (os ++ [o]) ++ ordF n (l.eraseIdx b) := by rw [ho, List.append_assoc]; simp only [ordF, hbi, hO]; rfl
    refine WpO.weak (WpO.mono (ih (l.eraseIdx b) (os ++ [o]) w (.sl id 0 (os.length + 1) 6 none) _ [(id, cs ++ opCells q o)] _ (by rw [List.length_eraseIdx, if_pos hbl]; omega) (by simp; omega) ho2 hw (by simpa using hb2) hc2 ?_ ?_) ?_) ?_
    · exact slotq
    · exact slotq
    · rintro ex t' L' ⟨e1, e2, e3⟩
      exact ⟨e1, Keep.trans (by exact keepq) e2, e3⟩
    · unfold opCells
      exact subq
end Go.Proofs.YtmflheoafeenfaaGreat
namespace Go.Proofs.YtmflheoafeenfaaGreat
open Go.Am
set_option maxRecDepth 4000
set_option maxHeartbeats 8000000
variable {E : Env} {L : Hp}
def zeroC : List AVal := [aint 0, aint 0, anil]
/-- What Order tells, in rows that stay. -/
def OrdA (c : CircD) (r : AVal) : Prop := (¬ CircOk c ∧ r = .tup [.agg zeroC, aint 80]) ∨ (CircOk c ∧ ∃ s, r = .tup [.agg [aint c.qubits, aint c.bits, s], aint 0] ∧ OpsA s (ordL c.ops))
theorem vo_zeroC {e : Int} {M : Hp} : ViewO M 64 (.tup [.agg zeroC, aint e]) (.tup [.agg zeroC, aint e]) := vo_tup (vl_cons (vo_agg (vl_cons vo_sc (vl_cons vo_sc (vl_cons vo_sc vl_nil)))) (vl_cons vo_sc vl_nil))
theorem ordF_length : ∀ (n : Nat) (l : List OpD), (ordF n l).length = n
  | 0, _ => rfl
  | n + 1, l => by simp [ordF, ordF_length n]
theorem ordL_length (l : List OpD) : (ordL l).length = l.length := ordF_length _ _
theorem rOrder_ok (hF : E.fns = fnsT) (hm : E.mode f_phasorref18_Order = .iso true) (hmp : E.mode f_phasorref18_partner = .iso false) (hmT : E.mode f_phasorref18_Touch = .iso false) (hmt : E.mode f_phasorref18_takes = .iso false) (hms : E.mode f_phasorref18_sets = .iso false) (hst : still E c_phasorref18_partner_r3 = true)
    (hml : E.mode f_phasorref18_less = .iso false) (hmc : E.mode f_phasorref18_compare = .iso false) (hstl : still E c_phasorref18_less_r6 = true) (hst10 : still E c_phasorref18_Order_r10 = true) (hst13 : still E c_phasorref18_Order_r13 = true) (hmw : E.mode f_phasorref18_without = .iso true)
    (hmM : E.mode f_phasorref08_May = .iso false) (hmk : E.mode f_phasorref08_Check = .iso false) (hmo : E.mode f_phasorref08_Op = .iso false) (hmg : E.mode f_phasorref06_Check = .iso false) (hma : E.mode f_phasorref06_Arity = .iso false) (hmi : E.mode f_phasorref06_Is = .iso false) (hmu : E.mode f_phasorref08_unlike = .iso false) (hst8 : still E c_phasorref08_Check_r5 = true) (hmC : E.mode f_phasorref08_Copy = .iso true)
    {v : AVal} {c : CircD} (hv : CircA v c) (hsm : Small c) : CallO E f_phasorref18_Order [v] L fun r L' => OrdA c r ∧ L' = L := by
  refine callO_iso1 (R := OrdA c) hm (fns_of hF n_phasorref18_Order) (by simp [hv.bare]) ?_
  have hv0 := hv
  obtain ⟨so, rfl, hops⟩ := hv
  have hso1 : so.one = true := by obtain ⟨_, hr, -, -⟩ := hops; exact RowA.isOne hr
  have hsm1 := hsm.ops
  refine bodyO_of (Nat.le_of_ble_eq_true rfl) ?_; generalize ht : argSlots _ 0 .nil = t; have h0 : t.get 0 = some _ := (by rw [← ht]; rfl); clear ht
  repeat (first | intro id | refine goq ?_)
  rename_i i1
  refine gok ?_
  refine (May_ok hF hmM hmk hmo hmg hma hmi hmu hst8 hv0).mono ?_
  rintro u L' ⟨⟨x, rfl, hx⟩, rfl⟩
  have z1 : AVal.sc (Value.int .i64 0) = aint 0 := rfl
  have z2 : AVal.sc (Value.slice none 0 0) = anil := rfl
  simp only [z1, z2]
  cases x with
  | true =>
    have hC := hx.1 rfl
    repeat (first | intro id | refine goq ?_)
    refine gok ?_
    refine (RCopy_ok hF hmC hv0 hsm).mono ?_
    rintro w L' ⟨hw, rfl⟩
    obtain ⟨sw, rfl, hwo⟩ := hw
    have hsw1 : sw.one = true := by obtain ⟨_, hr, -, -⟩ := hwo; exact RowA.isOne hr
    repeat (first | intro id | refine goq ?_)
    rename_i i2
    refine WpO.weak (WpO.mono (rorder_l1 (L := [(i2, [aint 0, aint 0, anil]), (i1, [aint c.qubits, aint c.bits, so])]) hF hmp hmT hmt hms hst hml hmc hstl hst10 hst13 hmw (i4 := id) (cq := c.qubits) (cb := c.bits) (os0 := c.ops) hsm1 c.ops.length c.ops [] sw anil [] [] _ rfl (by simp) rfl hwo .nil .nil ?_ ?_) ?_) ?_
    · exact slotq
    · exact slotq
    · rintro ex t1 L' ⟨rfl, hK, a', cs', B', hb, hcs, rfl⟩
      have g2 : t1.get 2 = some (.ptr i2 0) := (hK.ex 2 rfl).trans (by exact slotq)
      have g4 : t1.get 4 = some (.ptr id 0) := (hK.ex 4 rfl).trans (by exact slotq)
      clear hK
      have a1 := hb.isOne
      refine blkO.x (seqO.n ?_)
      repeat (first | intro id | refine goq ?_)
      ((first | apply retO_r | apply retO_n); (focus (exact resq)))
      have key : ∀ M : Hp, (∀ id c, In id c B' → In id c M) → ∃ u, ViewO M 64 (.tup [.agg [aint c.qubits, aint c.bits, a'], aint 0]) u ∧ OrdA c u := fun M hM => by
        obtain ⟨u, h1, h2⟩ := bufOps_view (k := 60) hb hcs rfl (by rw [ordL_length]; omega) hM
        exact ⟨_, vo_tup (vl_cons (vo_agg (vl_cons vo_sc (vl_cons vo_sc (vl_cons h1 vl_nil)))) (vl_cons vo_sc vl_nil)), .inr ⟨hC, u, rfl, h2⟩⟩
      exact key _ (fun id c hi => .next hi.appl)
    · exact subq
  | false =>
    have hC : ¬ CircOk c := fun h => by have := hx.2 h; cases this
    repeat (first | intro id | refine goq ?_)
    ((first | apply retO_r | apply retO_n); (focus (exact resq)))
    exact ⟨_, vo_zeroC, .inl ⟨hC, rfl⟩⟩
/-- Whether two circuits come to the same order. -/
def ReoR (c d : CircD) (r : AVal) : Prop := (¬ (CircOk c ∧ CircOk d) ∧ r = .tup [abool false, aint 80]) ∨ (CircOk c ∧ CircOk d ∧ ∃ x, r = .tup [abool x, aint 0] ∧ (x = true ↔ (⟨c.qubits, c.bits, ordL c.ops⟩ : CircD) = ⟨d.qubits, d.bits, ordL d.ops⟩))
theorem OrdA.shape {c : CircD} {r : AVal} (h : OrdA c r) : ∃ (q b e : Int) (s : AVal) (os : List OpD), r = .tup [.agg [aint q, aint b, s], aint e] ∧ OpsA s os ∧ ((¬ CircOk c ∧ e = 80) ∨ (CircOk c ∧ e = 0 ∧ q = c.qubits ∧ b = c.bits ∧ os = ordL c.ops)) := by
  rcases h with ⟨h, rfl⟩ | ⟨h, s, rfl, hs⟩
  · exact ⟨0, 0, 80, anil, [], rfl, ⟨[], .inl ⟨rfl, rfl, rfl⟩, .nil, by simp⟩, .inl ⟨h, rfl⟩⟩
  · exact ⟨_, _, 0, s, _, rfl, hs, .inr ⟨h, rfl, rfl, rfl, rfl⟩⟩
theorem rReorders_ok (hF : E.fns = fnsT) (hmR : E.mode f_phasorref18_Reorders = .iso false) (hm : E.mode f_phasorref18_Order = .iso true) (hmp : E.mode f_phasorref18_partner = .iso false) (hmT : E.mode f_phasorref18_Touch = .iso false) (hmt : E.mode f_phasorref18_takes = .iso false) (hms : E.mode f_phasorref18_sets = .iso false) (hst : still E c_phasorref18_partner_r3 = true)
    (hml : E.mode f_phasorref18_less = .iso false) (hmc : E.mode f_phasorref18_compare = .iso false) (hstl : still E c_phasorref18_less_r6 = true) (hst10 : still E c_phasorref18_Order_r10 = true) (hst13 : still E c_phasorref18_Order_r13 = true) (hmw : E.mode f_phasorref18_without = .iso true)
    (hmM : E.mode f_phasorref08_May = .iso false) (hmk : E.mode f_phasorref08_Check = .iso false) (hmo : E.mode f_phasorref08_Op = .iso false) (hmg : E.mode f_phasorref06_Check = .iso false) (hma : E.mode f_phasorref06_Arity = .iso false) (hmi : E.mode f_phasorref06_Is = .iso false) (hmu : E.mode f_phasorref08_unlike = .iso false) (hst8 : still E c_phasorref08_Check_r5 = true) (hmC : E.mode f_phasorref08_Copy = .iso true)
    (hmS : E.mode f_phasorref08_Same = .iso false) (hmso : E.mode f_phasorref08_SameOp = .iso false) (hmin : E.mode f_phasorref08_ints = .iso false) (hstS : still E c_phasorref08_Same_r5 = true)
    {v w : AVal} {c d : CircD} (hv : CircA v c) (hw : CircA w d) (hsc : Small c) (hsd : Small d) : CallO E f_phasorref18_Reorders [v, w] L fun r L' => ReoR c d r ∧ L' = L := by
  refine callO_iso0 (R := ReoR c d) hmR (fns_of hF n_phasorref18_Reorders) (vs_bare hv.bare (vs_bare hw.bare vs_nil)) ?_
  have hv0 := hv
  have hw0 := hw
  obtain ⟨sv, rfl, hvo⟩ := hv
  obtain ⟨sw, rfl, hwo⟩ := hw
  have hsv1 : sv.one = true := by obtain ⟨_, hr, -, -⟩ := hvo; exact RowA.isOne hr
  have hsw1 : sw.one = true := by obtain ⟨_, hr, -, -⟩ := hwo; exact RowA.isOne hr
  refine bodyO_of (Nat.le_of_ble_eq_true rfl) ?_; generalize ht : argSlots _ 0 .nil = t; have h0 : t.get 0 = some _ := (by rw [← ht]; rfl); have h1 : t.get 1 = some _ := (by rw [← ht]; rfl); clear ht
  repeat (first | intro id | refine goq ?_)
  refine gok ?_
  refine (rOrder_ok hF hm hmp hmT hmt hms hst hml hmc hstl hst10 hst13 hmw hmM hmk hmo hmg hma hmi hmu hst8 hmC hv0 hsc).mono ?_
  rintro r L' ⟨hr, rfl⟩
  obtain ⟨q1, b1, e1, s1, os1, rfl, ho1, h1⟩ := hr.shape
  have hs11 : s1.one = true := by obtain ⟨_, hr, -, -⟩ := ho1; exact RowA.isOne hr
  repeat (first | intro id | refine goq ?_)
  refine gok ?_
  refine (rOrder_ok hF hm hmp hmT hmt hms hst hml hmc hstl hst10 hst13 hmw hmM hmk hmo hmg hma hmi hmu hst8 hmC hw0 hsd).mono ?_
  rintro r L' ⟨hr, rfl⟩
  obtain ⟨q2, b2, e2, s2, os2, rfl, ho2, h2⟩ := hr.shape
  have hs21 : s2.one = true := by obtain ⟨_, hr, -, -⟩ := ho2; exact RowA.isOne hr
  rcases h1 with ⟨h1, rfl⟩ | ⟨h1, rfl, rfl, rfl, rfl⟩
  · repeat (first | intro id | refine goq ?_)
    ((first | apply retO_r | apply retO_n); (focus (exact resq)))
    exact ⟨rfl, .inl ⟨fun h => h1 h.1, rfl⟩⟩
  · rcases h2 with ⟨h2, rfl⟩ | ⟨h2, rfl, rfl, rfl, rfl⟩
    · repeat (first | intro id | refine goq ?_)
      ((first | apply retO_r | apply retO_n); (focus (exact resq)))
      exact ⟨rfl, .inl ⟨fun h => h2 h.2, rfl⟩⟩
    · have hc1 : CircA (.agg [aint c.qubits, aint c.bits, s1]) ⟨c.qubits, c.bits, ordL c.ops⟩ := ⟨s1, rfl, ho1⟩
      have hc2 : CircA (.agg [aint d.qubits, aint d.bits, s2]) ⟨d.qubits, d.bits, ordL d.ops⟩ := ⟨s2, rfl, ho2⟩
      repeat (first | intro id | refine goq ?_)
      refine gok ?_
      refine (Same8_ok hF hmS hmso hmin hstS (vs_bare hc1.bare (vs_bare hc2.bare vs_nil)) hc1 hc2).mono ?_
      rintro r L' ⟨⟨x, rfl, hx⟩, rfl⟩
      repeat (first | intro id | refine goq ?_)
      ((first | apply retO_r | apply retO_n); (focus (exact resq)))
      exact ⟨rfl, .inr ⟨h1, h2, x, rfl, hx⟩⟩
end Go.Proofs.YtmflheoafeenfaaGreat
