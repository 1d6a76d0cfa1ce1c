/- Parts of the proof, joined by program: CiCR1, CiCR2, CiCR3, RwR4, RwR5, RwR6, RwS1, RwS2, RwS3. -/
import Derived.Test.YtmflheoafeenfaaGreatPa9
set_option linter.unusedSimpArgs false
set_option linter.unusedVariables false
namespace Go.Proofs.YtmflheoafeenfaaGreat
open Go.Am
set_option maxRecDepth 4000
set_option maxHeartbeats 8000000
variable {E : Env} {L : Hp}
theorem rOp_ok (hF : E.fns = fnsT) (hm : E.mode f_phasorref08_Op = .iso false) (hmg : E.mode f_phasorref06_Check = .iso false) (hma : E.mode f_phasorref06_Arity = .iso false) (hmi : E.mode f_phasorref06_Is = .iso false) (hmu : E.mode f_phasorref08_unlike = .iso false)
    {n b : Int} {q : AVal} {o : OpD} (hq : SlI q o.qs) (hlt : o.qs.length < 2 ^ 62) : CallO E f_phasorref08_Op [.agg (opCells q o), aint n, aint b] L fun r L' => (∃ x, r = abool x ∧ (x = true ↔ OpOk o n b)) ∧ L' = L := by
  refine callO_iso0 (R := fun r => ∃ x, r = abool x ∧ (x = true ↔ OpOk o n b)) hm (fns_of hF n_phasorref08_Op) (vs_bare ?_ (vs_bare rfl (vs_bare rfl vs_nil))) ?_
  · simp [opCells, AVal.bare, bareAll, aint, bare_SlI hq]
  have hq1 := RowA.isOne hq
  unfold opCells
  refine bodyO_of (Nat.le_of_ble_eq_true rfl) ?_; generalize ht : argSlots _ 0 .nil = t; have h0 : t.get 0 = some _ := (by rw [← ht]; rfl); have h1 : t.get 1 = some _ := (by rw [← ht]; rfl); have h2 : t.get 2 = some _ := (by rw [← ht]; rfl); clear ht
  by_cases c1 : o.kind = 1
  · repeat' (first | intro id | refine goq ?_ | (refine oo_guard (by exact slotq) (fun hc => ?_) (fun hc => ?_) <;> (fail_if_success (exact absurd hc (by decide))) <;> rw [hc] <;> (try simp only [decide_eq_true_eq, decide_eq_false_iff_not, ne_eq, Decidable.not_not] at hc)) | (refine wo_cond_if (by exact slotq) (fun hc => ?_) (fun hc => ?_) <;> (try simp only [decide_eq_true_eq, decide_eq_false_iff_not, ne_eq, Decidable.not_not] at hc)) | ((first | apply retO_r | apply retO_n); (focus (exact resq))))
    all_goals (refine gok ?_)
    all_goals (refine (rCheck_ok hF hmg hma hmi hq hlt).mono ?_; rintro r L' ⟨⟨e, rfl, ⟨rfl, e1, e2, e3⟩ | ⟨rfl, e1⟩ | ⟨rfl, e1, e2⟩⟩, rfl⟩)
    all_goals (repeat' (first | intro id | refine goq ?_ | (refine oo_guard (by exact slotq) (fun hc => ?_) (fun hc => ?_) <;> (fail_if_success (exact absurd hc (by decide))) <;> rw [hc] <;> (try simp only [decide_eq_true_eq, decide_eq_false_iff_not, ne_eq, Decidable.not_not] at hc)) | (refine wo_cond_if (by exact slotq) (fun hc => ?_) (fun hc => ?_) <;> (try simp only [decide_eq_true_eq, decide_eq_false_iff_not, ne_eq, Decidable.not_not] at hc)) | ((first | apply retO_r | apply retO_n); (focus (exact resq)))))
    all_goals (refine ⟨rfl, _, rfl, ?_⟩; unfold OpOk condOk; grind)
  · repeat' (first | intro id | refine goq ?_ | (refine oo_guard (by exact slotq) (fun hc => ?_) (fun hc => ?_) <;> (fail_if_success (exact absurd hc (by decide))) <;> rw [hc] <;> (try simp only [decide_eq_true_eq, decide_eq_false_iff_not, ne_eq, Decidable.not_not] at hc)) | (refine wo_cond_if (by exact slotq) (fun hc => ?_) (fun hc => ?_) <;> (try simp only [decide_eq_true_eq, decide_eq_false_iff_not, ne_eq, Decidable.not_not] at hc)) | ((first | apply retO_r | apply retO_n); (focus (exact resq))))
    all_goals (first | (refine ⟨rfl, _, rfl, ?_⟩; unfold OpOk condOk; grind; done) | skip)
    all_goals (refine gok ?_)
    all_goals (refine (unlike_ok hF hmu hq hlt).mono ?_; rintro r L' ⟨⟨x, rfl, hx⟩, rfl⟩)
    all_goals (repeat' (first | intro id | refine goq ?_ | (refine oo_guard (by exact slotq) (fun hc => ?_) (fun hc => ?_) <;> (fail_if_success (exact absurd hc (by decide))) <;> rw [hc] <;> (try simp only [decide_eq_true_eq, decide_eq_false_iff_not, ne_eq, Decidable.not_not] at hc)) | (refine wo_cond_if (by exact slotq) (fun hc => ?_) (fun hc => ?_) <;> (try simp only [decide_eq_true_eq, decide_eq_false_iff_not, ne_eq, Decidable.not_not] at hc)) | ((first | apply retO_r | apply retO_n); (focus (exact resq)))))
    all_goals (refine ⟨rfl, _, rfl, ?_⟩; unfold OpOk condOk; grind)
end Go.Proofs.YtmflheoafeenfaaGreat
namespace Go.Proofs.YtmflheoafeenfaaGreat
open Go.Am
set_option maxRecDepth 4000
set_option maxHeartbeats 8000000
variable {E : Env} {L : Hp}
theorem rcheck8_l0 (hF : E.fns = fnsT) (hmo : E.mode f_phasorref08_Op = .iso false) (hmg : E.mode f_phasorref06_Check = .iso false) (hma : E.mode f_phasorref06_Arity = .iso false) (hmi : E.mode f_phasorref06_Is = .iso false) (hmu : E.mode f_phasorref08_unlike = .iso false) (hst : still E c_phasorref08_Check_r5 = true)
    {c : CircD} {s : AVal} {cs : List AVal} {i1 : Nat} (hr : RowA s cs c.ops.length) (hcs : OpsC cs c.ops) (hlt : c.ops.length < 2 ^ 62) :
    ∀ (d k : Nat) (t : Tr AVal) (L : Hp), d + k = c.ops.length → In i1 [aint c.qubits, aint c.bits, s] L → t.get 1 = some (.ptr i1 0) → t.get 4 = some (aint k) → (∀ i, i < k → OpOk (c.ops.getD i default) c.qubits c.bits) →
    WpO E (.loop c_phasorref08_Check_l0) t L (fun ex t' L' => (ex = .exit 0 ∧ (∀ i, i < c.ops.length → OpOk (c.ops.getD i default) c.qubits c.bits)) ∨ (ex = .ret ∧ (∃ j : Nat, t'.get 2 = some (aint j)) ∧ t'.get 3 = some (aint 80) ∧ ¬ (∀ i, i < c.ops.length → OpOk (c.ops.getD i default) c.qubits c.bits))) := by
  have hs1 := RowA.isOne hr
  intro d
  induction d with
  | zero =>
    intro k t L hk hin h1 h4 hok
    obtain rfl : k = c.ops.length := by omega
    refine wo_loop ?_
    repeat (first | intro id | refine goq ?_)
    exact .inl ⟨rfl, hok⟩
  | succ d ih =>
    intro k t L hk hin h1 h4 hok
    have hkl : k < c.ops.length := by omega
    obtain ⟨q, ha⟩ := hcs.at hkl
    generalize hO : c.ops.getD k default = o at ha
    have hq := ha.hq
    have hq1 := RowA.isOne hq
    have hlt6 := ha.lt
    have hseg := ha.seg
    unfold opCells at hseg
    refine wo_loop ?_
    repeat (first | intro id | refine goq ?_)
    refine gok ?_
    refine (rOp_ok hF hmo hmg hma hmi hmu hq ha.b).mono ?_
    rintro r L' ⟨⟨x, rfl, hx⟩, rfl⟩
    cases x with
    | true =>
      repeat (first | intro id | refine goq ?_)
      refine ih (k + 1) _ _ (by omega) hin ?_ ?_ ?_
      · exact slotq
      · exact slotq
      · intro i hi
        by_cases e : i = k
        · subst e; rw [hO]; exact hx.1 rfl
        · exact hok i (by omega)
    | false =>
      repeat (first | intro id | refine goq ?_)
      refine .inr ⟨rfl, ⟨k, by exact slotq⟩, by exact slotq, fun h => ?_⟩
      have := hx.2 (by rw [← hO]; exact h k hkl)
      cases this
theorem rCheck8_ok (hF : E.fns = fnsT) (hm : E.mode f_phasorref08_Check = .iso false) (hmo : E.mode f_phasorref08_Op = .iso false) (hmg : E.mode f_phasorref06_Check = .iso false) (hma : E.mode f_phasorref06_Arity = .iso false) (hmi : E.mode f_phasorref06_Is = .iso false) (hmu : E.mode f_phasorref08_unlike = .iso false) (hst : still E c_phasorref08_Check_r5 = true)
    {c : CircD} {v : AVal} (hv : CircA v c) : CallO E f_phasorref08_Check [v] L fun r L' => chkE c r ∧ L' = L := by
  refine callO_iso0 (R := chkE c) hm (fns_of hF n_phasorref08_Check) (vs_bare hv.bare vs_nil) ?_
  obtain ⟨s, rfl, cs, hr, hcs, hlt⟩ := hv
  have hs1 := RowA.isOne hr
  refine bodyO_of (Nat.le_of_ble_eq_true rfl) ?_; generalize ht : argSlots _ 0 .nil = t; have h0 : t.get 0 = some _ := (by rw [← ht]; rfl); clear ht
  repeat' (first | intro id | refine goq ?_ | (refine oo_guard (by exact slotq) (fun hc => ?_) (fun hc => ?_) <;> (fail_if_success (exact absurd hc (by decide))) <;> rw [hc] <;> (try simp only [decide_eq_true_eq, decide_eq_false_iff_not, ne_eq, Decidable.not_not] at hc)) | (refine wo_cond_if (by exact slotq) (fun hc => ?_) (fun hc => ?_) <;> (try simp only [decide_eq_true_eq, decide_eq_false_iff_not, ne_eq, Decidable.not_not] at hc)) | ((first | apply retO_r | apply retO_n); (focus (exact resq))))
  all_goals (first | (refine ⟨rfl, _, _, rfl, ?_⟩; exact .inr ⟨rfl, fun h => by have := h.q0; have := h.q1; have := h.b0; have := h.b1; have := h.len; omega⟩) | skip)
  refine WpO.mono (rcheck8_l0 hF hmo hmg hma hmi hmu hst hr hcs hlt c.ops.length 0 _ _ (by omega) .here ?_ ?_ (fun i hi => by omega)) ?_
  · exact slotq
  · exact slotq
  rintro ex t' L' (⟨rfl, hall⟩ | ⟨rfl, ⟨j, g2⟩, g3, hno⟩)
  · repeat (first | intro id | refine goq ?_)
    ((first | apply retO_r | apply retO_n); (focus (exact resq)))
    exact ⟨rfl, 0, 0, rfl, .inl ⟨rfl, by constructor <;> first | assumption | omega⟩⟩
  · repeat (first | intro id | refine goq ?_)
    ((first | apply retO_r | apply retO_n); (focus (exact resq)))
    exact ⟨rfl, j, 80, rfl, .inr ⟨rfl, fun h => hno h.ok⟩⟩
theorem May_ok (hF : E.fns = fnsT) (hm : E.mode f_phasorref08_May = .iso false) (hmk : E.mode f_phasorref08_Check = .iso false) (hmo : E.mode f_phasorref08_Op = .iso false) (hmg : E.mode f_phasorref06_Check = .iso false) (hma : E.mode f_phasorref06_Arity = .iso false) (hmi : E.mode f_phasorref06_Is = .iso false) (hmu : E.mode f_phasorref08_unlike = .iso false) (hst : still E c_phasorref08_Check_r5 = true)
    {c : CircD} {v : AVal} (hv : CircA v c) : CallO E f_phasorref08_May [v] L fun r L' => (∃ x, r = abool x ∧ (x = true ↔ CircOk c)) ∧ L' = L := by
  refine callO_iso0 (R := fun r => ∃ x, r = abool x ∧ (x = true ↔ CircOk c)) hm (fns_of hF n_phasorref08_May) (vs_bare hv.bare vs_nil) ?_
  have hv0 := hv
  obtain ⟨s, rfl, cs, hr, hcs, hlt⟩ := hv
  have hs1 := RowA.isOne hr
  refine bodyO_of (Nat.le_of_ble_eq_true rfl) ?_; generalize ht : argSlots _ 0 .nil = t; have h0 : t.get 0 = some _ := (by rw [← ht]; rfl); clear ht
  repeat (first | intro id | refine goq ?_)
  refine gok ?_
  refine (rCheck8_ok hF hmk hmo hmg hma hmi hmu hst hv0).mono ?_
  rintro r L' ⟨⟨i, e, rfl, ⟨rfl, h⟩ | ⟨rfl, h⟩⟩, rfl⟩
  · repeat (first | intro id | refine goq ?_)
    ((first | apply retO_r | apply retO_n); (focus (exact resq)))
    exact ⟨rfl, true, rfl, by simp [h]⟩
  · repeat (first | intro id | refine goq ?_)
    ((first | apply retO_r | apply retO_n); (focus (exact resq)))
    exact ⟨rfl, false, rfl, by simp [h]⟩

end Go.Proofs.YtmflheoafeenfaaGreat
namespace Go.Proofs.YtmflheoafeenfaaGreat
open Go.Am
set_option maxRecDepth 4000
set_option maxHeartbeats 8000000
variable {E : Env} {L : Hp}
/-! Held against each other -/
theorem ints8_l0 {la lb : List Int} {va vb : AVal} (ha : SlI va la) (hb : SlI vb lb) (hl : la.length = lb.length) (hlt : la.length < 2 ^ 62) : ∀ (d k : Nat) (t : Tr AVal), d + k = la.length → t.get 0 = some va → t.get 1 = some vb → t.get 5 = some (aint k) →
    WpO E (.loop c_phasorref08_ints_l0) t L (fun ex t' _ => (ex = .exit 0 ∧ la.drop k = lb.drop k) ∨ (ex = .ret ∧ t'.get 4 = some (abool false) ∧ la.drop k ≠ lb.drop k)) := by
  intro d
  induction d with
  | zero =>
    intro k t hk h0 h1 h5
    refine wo_loop ?_
    repeat (first | intro id | refine goq ?_)
    refine .inl ⟨rfl, ?_⟩
    rw [List.drop_of_length_le (by omega), List.drop_of_length_le (by omega)]
  | succ d ih =>
    intro k t hk h0 h1 h5
    refine wo_loop ?_
    have hde := drop_eq 0 hl (show k < la.length by omega)
    by_cases c : la.getD k 0 = lb.getD k 0
    · repeat (first | intro id | refine goq ?_)
      refine WpO.mono (ih (k + 1) _ (by omega) (by exact slotq) (by exact slotq) (by exact slotq)) fun ex t' L' hq => ?_
      simp only [c, true_and] at hde
      simp only [ne_eq, hde]
      exact hq
    · repeat (first | intro id | refine goq ?_)
      exact .inr ⟨rfl, by exact slotq, fun he => c (hde.1 he).1⟩
theorem ints8_ok (hF : E.fns = fnsT) (hm : E.mode f_phasorref08_ints = .iso false) {a b va vb : AVal} {la lb : List Int} (hv : ViewsO L [a, b] [va, vb]) (ha : SlI va la) (hb : SlI vb lb) (hlt : la.length < 2 ^ 62) :
    CallO E f_phasorref08_ints [a, b] L fun v L' => v = abool (decide (la = lb)) ∧ L' = L := by
  refine callO_iso0 hm (fns_of hF n_phasorref08_ints) hv ?_
  have ha1 := RowA.isOne ha
  have hb1 := RowA.isOne hb
  refine bodyO_of (Nat.le_of_ble_eq_true rfl) ?_; generalize ht : argSlots _ 0 .nil = t; have h0 : t.get 0 = some _ := (by rw [← ht]; rfl); have h1 : t.get 1 = some _ := (by rw [← ht]; rfl); clear ht
  by_cases hl : la.length = lb.length
  · repeat (first | intro id | refine goq ?_)
    refine WpO.mono (ints8_l0 ha hb hl hlt la.length 0 _ (by omega) (by exact slotq) (by exact slotq) (by exact slotq)) fun ex t' L' hq => ?_
    obtain ⟨rfl, hq2⟩ | ⟨rfl, hq2, hq3⟩ := hq
    · simp only [List.drop_zero] at hq2
      repeat (first | intro id | refine goq ?_)
      ((first | apply retO_r | apply retO_n); (focus (exact resq)))
      exact ⟨rfl, by rw [decide_eq_true hq2]; rfl⟩
    · simp only [List.drop_zero] at hq3
      repeat (first | intro id | refine goq ?_)
      ((first | apply retO_r | apply retO_n); (focus (exact resq)))
      exact ⟨rfl, by rw [decide_eq_false hq3]; rfl⟩
  · repeat (first | intro id | refine goq ?_)
    ((first | apply retO_r | apply retO_n); (focus (exact resq)))
    exact ⟨rfl, by rw [decide_eq_false (by rintro rfl; exact hl rfl)]; rfl⟩
theorem SameOp_ok (hF : E.fns = fnsT) (hm : E.mode f_phasorref08_SameOp = .iso false) (hmi : E.mode f_phasorref08_ints = .iso false) {p q : AVal} {a b : OpD} (hp : SlI p a.qs) (hq : SlI q b.qs) (hlt : a.qs.length < 2 ^ 62) :
    CallO E f_phasorref08_SameOp [.agg (opCells p a), .agg (opCells q b)] L fun v L' => (∃ x, v = abool x ∧ (x = true ↔ a = b)) ∧ L' = L := by
  refine callO_iso0 (R := fun v => ∃ x, v = abool x ∧ (x = true ↔ a = b)) hm (fns_of hF n_phasorref08_SameOp) (vs_bare ?_ (vs_bare ?_ vs_nil)) ?_
  · simp [opCells, AVal.bare, bareAll, aint, bare_SlI hp]
  · simp [opCells, AVal.bare, bareAll, aint, bare_SlI hq]
  have hp1 := RowA.isOne hp
  have hq1 := RowA.isOne hq
  unfold opCells
  obtain ⟨a1, a2, a3, a4, a5, a6⟩ := a
  obtain ⟨b1, b2, b3, b4, b5, b6⟩ := b
  simp only at hp hq hlt ⊢
  simp only [OpD.mk.injEq]
  refine bodyO_of (Nat.le_of_ble_eq_true rfl) ?_; generalize ht : argSlots _ 0 .nil = t; have h0 : t.get 0 = some _ := (by rw [← ht]; rfl); have h1 : t.get 1 = some _ := (by rw [← ht]; rfl); clear ht
  repeat' (first | intro id | refine goq ?_ | (refine oo_guard (by exact slotq) (fun hc => ?_) (fun hc => ?_) <;> (fail_if_success (exact absurd hc (by decide))) <;> rw [hc] <;> (try simp only [decide_eq_true_eq, decide_eq_false_iff_not, ne_eq, Decidable.not_not] at hc)) | (refine wo_cond_if (by exact slotq) (fun hc => ?_) (fun hc => ?_) <;> (try simp only [decide_eq_true_eq, decide_eq_false_iff_not, ne_eq, Decidable.not_not] at hc)) | ((first | apply retO_r | apply retO_n); (focus (exact resq))))
  all_goals (first | (refine ⟨rfl, false, rfl, ?_⟩; simp only [Bool.false_eq_true, false_iff]; intro h; omega) | skip)
  refine gok ?_
  refine (ints8_ok hF hmi (vs_bare (bare_SlI hp) (vs_bare (bare_SlI hq) vs_nil)) hp hq hlt).mono ?_
  rintro r L' ⟨rfl, rfl⟩
  repeat (first | intro id | refine goq ?_)
  ((first | apply retO_r | apply retO_n); (focus (exact resq)))
  refine ⟨rfl, decide (a3 = b3), rfl, ?_⟩
  simp only [decide_eq_true_eq]
  exact ⟨fun h => ⟨by omega, by omega, h, by omega, by omega, by omega⟩, fun h => h.2.2.1⟩
theorem same8_l0 (hF : E.fns = fnsT) (hms : E.mode f_phasorref08_SameOp = .iso false) (hmi : E.mode f_phasorref08_ints = .iso false) (hst : still E c_phasorref08_Same_r5 = true) {a b : List OpD} {va vb : AVal} {ca cb : List AVal} {na ba nb bb : Int} {i2 i3 : Nat} (ha : RowA va ca a.length) (hca : OpsC ca a) (hb : RowA vb cb b.length) (hcb : OpsC cb b) (hl : a.length = b.length) (hlt : a.length < 2 ^ 62)
    (hi2 : In i2 [aint na, aint ba, va] L) (hi3 : In i3 [aint nb, aint bb, vb] L) :
    ∀ (d k : Nat) (t : Tr AVal), d + k = a.length → t.get 2 = some (.ptr i2 0) → t.get 3 = some (.ptr i3 0) → t.get 5 = some (aint k) →
    WpO E (.loop c_phasorref08_Same_l0) t L (fun ex t' _ => (ex = .exit 0 ∧ a.drop k = b.drop k) ∨ (ex = .ret ∧ t'.get 4 = some (abool false) ∧ a.drop k ≠ b.drop k)) := by
  have ha1 := RowA.isOne ha
  have hb1 := RowA.isOne hb
  intro d
  induction d with
  | zero =>
    intro k t hk h2 h3 h5
    refine wo_loop ?_
    repeat (first | intro id | refine goq ?_)
    refine .inl ⟨rfl, ?_⟩
    rw [List.drop_of_length_le (by omega), List.drop_of_length_le (by omega)]
  | succ d ih =>
    intro k t hk h2 h3 h5
    refine wo_loop ?_
    have hde := drop_eq default hl (show k < a.length by omega)
    obtain ⟨p, hp, hpl, hp6, hps⟩ := hca.getE (show k < a.length by omega)
    obtain ⟨q, hq, hql, hq6, hqs⟩ := hcb.getE (show k < b.length by omega)
    have hp1 := RowA.isOne hp
    have hq1 := RowA.isOne hq
    generalize a.getD k default = x at *
    generalize b.getD k default = y at *
    repeat (first | intro id | refine goq ?_)
    refine gok ?_
    refine (SameOp_ok hF hms hmi hp hq hpl).mono ?_
    rintro r L' ⟨⟨z, rfl, hz⟩, rfl⟩
    cases z with
    | true =>
      have e := hz.1 rfl
      repeat (first | intro id | refine goq ?_)
      refine WpO.mono (ih (k + 1) _ (by omega) (by exact slotq) (by exact slotq) (by exact slotq)) fun ex t' L' hq => ?_
      simp only [e, true_and] at hde
      simp only [ne_eq, hde]
      exact hq
    | false =>
      repeat (first | intro id | refine goq ?_)
      refine .inr ⟨rfl, by exact slotq, fun he => ?_⟩
      have := hz.2 (hde.1 he).1
      cases this
theorem Same8_ok (hF : E.fns = fnsT) (hm : E.mode f_phasorref08_Same = .iso false) (hms : E.mode f_phasorref08_SameOp = .iso false) (hmi : E.mode f_phasorref08_ints = .iso false) (hst : still E c_phasorref08_Same_r5 = true) {a b : AVal} {va vb : AVal} {c d : CircD} (hv : ViewsO L [a, b] [va, vb]) (hc : CircA va c) (hd : CircA vb d) :
    CallO E f_phasorref08_Same [a, b] L fun v L' => (∃ x, v = abool x ∧ (x = true ↔ c = d)) ∧ L' = L := by
  refine callO_iso0 (R := fun v => ∃ x, v = abool x ∧ (x = true ↔ c = d)) hm (fns_of hF n_phasorref08_Same) hv ?_
  obtain ⟨sa, rfl, ca, ha, hca, hlt⟩ := hc
  obtain ⟨sb, rfl, cb, hb, hcb, -⟩ := hd
  have ha1 := RowA.isOne ha
  have hb1 := RowA.isOne hb
  obtain ⟨c1, c2, c3⟩ := c
  obtain ⟨d1, d2, d3⟩ := d
  simp only at *
  simp only [CircD.mk.injEq]
  refine bodyO_of (Nat.le_of_ble_eq_true rfl) ?_; generalize ht : argSlots _ 0 .nil = t; have h0 : t.get 0 = some _ := (by rw [← ht]; rfl); have h1 : t.get 1 = some _ := (by rw [← ht]; rfl); clear ht
  repeat' (first | intro id | refine goq ?_ | (refine oo_guard (by exact slotq) (fun hc => ?_) (fun hc => ?_) <;> (fail_if_success (exact absurd hc (by decide))) <;> rw [hc] <;> (try simp only [decide_eq_true_eq, decide_eq_false_iff_not, ne_eq, Decidable.not_not] at hc)) | (refine wo_cond_if (by exact slotq) (fun hc => ?_) (fun hc => ?_) <;> (try simp only [decide_eq_true_eq, decide_eq_false_iff_not, ne_eq, Decidable.not_not] at hc)) | ((first | apply retO_r | apply retO_n); (focus (exact resq))))
  all_goals (first | (refine ⟨rfl, false, rfl, ?_⟩; simp only [Bool.false_eq_true, false_iff]; rintro ⟨h1, h2, h3⟩; first | omega | (subst h3; omega)) | skip)
  refine WpO.mono (same8_l0 hF hms hmi hst ha hca hb hcb (by omega) hlt (.next .here) .here c3.length 0 _ (by omega) (by exact slotq) (by exact slotq) (by exact slotq)) ?_
  rintro ex t' L' (⟨rfl, he⟩ | ⟨rfl, g4, he⟩)
  · simp only [List.drop_zero] at he
    repeat (first | intro id | refine goq ?_)
    ((first | apply retO_r | apply retO_n); (focus (exact resq)))
    exact ⟨rfl, true, rfl, by simp [he]; omega⟩
  · simp only [List.drop_zero] at he
    repeat (first | intro id | refine goq ?_)
    ((first | apply retO_r | apply retO_n); (focus (exact resq)))
    exact ⟨rfl, false, rfl, by simp [he]⟩
end Go.Proofs.YtmflheoafeenfaaGreat
namespace Go.Proofs.YtmflheoafeenfaaGreat
open Go.Am
set_option maxRecDepth 4000
set_option maxHeartbeats 8000000
variable {E : Env} {L : Hp}
theorem OpsC.append {cs ds : List AVal} {os ps : List OpD} (h : OpsC cs os) (k : OpsC ds ps) : OpsC (cs ++ ds) (os ++ ps) := by
  induction h with
  | nil => exact k
  | cons hq hb h ih => rw [List.append_assoc, List.cons_append]; exact .cons hq hb ih
theorem OpsC.drop {cs : List AVal} {os : List OpD} (h : OpsC cs os) : ∀ k, OpsC (cs.drop (k * 6)) (os.drop k) := by
  induction h with
  | nil => intro k; simp; exact .nil
  | @cons q o cs os hq hb h ih =>
    intro k
    cases k with
    | zero => simpa using OpsC.cons hq hb h
    | succ k =>
      have e : (opCells q o ++ cs).drop ((k + 1) * 6) = cs.drop (k * 6) := by
        have : (k + 1) * 6 = (opCells q o).length + k * 6 := by simp [opCells]; omega
        rw [this, List.drop_append, Nat.add_sub_cancel_left, List.drop_of_length_le (by omega), List.nil_append]
      rw [e, List.drop_succ_cons]
      exact ih k
theorem OpsC.take {cs : List AVal} {os : List OpD} (h : OpsC cs os) : ∀ k, OpsC (cs.take (k * 6)) (os.take k) := by
  induction h with
  | nil => intro k; simp; exact .nil
  | @cons q o cs os hq hb h ih =>
    intro k
    cases k with
    | zero => simpa using OpsC.nil
    | succ k =>
      have e : (opCells q o ++ cs).take ((k + 1) * 6) = opCells q o ++ cs.take (k * 6) := by
        have : (k + 1) * 6 = (opCells q o).length + k * 6 := by simp [opCells]; omega
        rw [this, List.take_append, Nat.add_sub_cancel_left, List.take_of_length_le (by omega)]
      rw [e, List.take_succ_cons]
      exact .cons hq hb (ih k)
theorem OpsC.erase {cs : List AVal} {os : List OpD} (h : OpsC cs os) (k : Nat) : OpsC (cs.take (k * 6) ++ cs.drop ((k + 1) * 6)) (os.eraseIdx k) := by
  rw [List.eraseIdx_eq_take_drop_succ]
  exact (h.take k).append (h.drop (k + 1))
theorem OpsC.one {cs : List AVal} {os : List OpD} (h : OpsC cs os) : cs.all AVal.one = true := by
  induction h with
  | nil => rfl
  | @cons q o cs os hq hb h ih =>
    rw [List.all_append, ih]
    have hq1 := RowA.isOne hq
    simp only [opCells, List.all_cons, List.all_nil, hq1, Bool.and_true]
    rfl
end Go.Proofs.YtmflheoafeenfaaGreat
namespace Go.Proofs.YtmflheoafeenfaaGreat
open Go.Am
set_option maxRecDepth 4000
set_option maxHeartbeats 8000000
variable {E : Env} {L : Hp}
end Go.Proofs.YtmflheoafeenfaaGreat
namespace Go.Proofs.YtmflheoafeenfaaGreat
open Go.Am
set_option maxRecDepth 4000
set_option maxHeartbeats 8000000
variable {E : Env} {L : Hp}
def zeroC : List AVal := [aint 0, aint 0, anil]
/-- What Order tells, in rows that stay. -/
def OrdA (c : CircD) (r : AVal) : Prop := (¬ CircOk c ∧ r = .tup [.agg zeroC, aint 80]) ∨ (CircOk c ∧ ∃ s, r = .tup [.agg [aint c.qubits, aint c.bits, s], aint 0] ∧ OpsA s (ordL c.ops))
theorem vo_zeroC {e : Int} {M : Hp} : ViewO M 64 (.tup [.agg zeroC, aint e]) (.tup [.agg zeroC, aint e]) := vo_tup (vl_cons (vo_agg (vl_cons vo_sc (vl_cons vo_sc (vl_cons vo_sc vl_nil)))) (vl_cons vo_sc vl_nil))
/-- Whether two circuits come to the same order. -/
def ReoR (c d : CircD) (r : AVal) : Prop := (¬ (CircOk c ∧ CircOk d) ∧ r = .tup [abool false, aint 80]) ∨ (CircOk c ∧ CircOk d ∧ ∃ x, r = .tup [abool x, aint 0] ∧ (x = true ↔ (⟨c.qubits, c.bits, ordL c.ops⟩ : CircD) = ⟨d.qubits, d.bits, ordL d.ops⟩))
theorem OrdA.shape {c : CircD} {r : AVal} (h : OrdA c r) : ∃ (q b e : Int) (s : AVal) (os : List OpD), r = .tup [.agg [aint q, aint b, s], aint e] ∧ OpsA s os ∧ ((¬ CircOk c ∧ e = 80) ∨ (CircOk c ∧ e = 0 ∧ q = c.qubits ∧ b = c.bits ∧ os = ordL c.ops)) := by
  rcases h with ⟨h, rfl⟩ | ⟨h, s, rfl, hs⟩
  · exact ⟨0, 0, 80, anil, [], rfl, ⟨[], .inl ⟨rfl, rfl, rfl⟩, .nil, by simp⟩, .inl ⟨h, rfl⟩⟩
  · exact ⟨_, _, 0, s, _, rfl, hs, .inr ⟨h, rfl, rfl, rfl, rfl⟩⟩
end Go.Proofs.YtmflheoafeenfaaGreat
namespace Go.Proofs.YtmflheoafeenfaaGreat
open Go.Am
set_option maxRecDepth 4000
set_option maxHeartbeats 16000000
variable {E : Env} {L : Hp}
abbrev au (x : Int) : AVal := .sc (.int .u64 x)
def shlV (q : Nat) : Int := IntKind.wrap .u64 (1 * 2 ^ (min q 64))
def xorV (a b : Int) : Int := IntKind.wrap .u64 ((BitVec.ofInt 64 a ^^^ BitVec.ofInt 64 b).toNat : Int)
def homeU (n : Nat) : List Int := (List.range n).map shlV
theorem homeU_succ (n : Nat) : homeU (n + 1) = homeU n ++ [shlV n] := by simp [homeU, List.range_succ]
theorem homeU_len (n : Nat) : (homeU n).length = n := by simp [homeU]
def gU (l : List Int) (i : Nat) : Int := l.getD i 0
def qn (o : OpD) (k : Nat) : Nat := (o.qs.getD k 0).toNat
/-- One operation on rows; nothing where it is no sum. -/
def linStep (l : List Int) (o : OpD) : Option (List Int) :=
  if o.kind = 4 then some l
  else if plainB o = false then none
  else if o.gate = 1 then some l
  else if o.gate = 11 then some (l.set (qn o 1) (xorV (gU l (qn o 1)) (gU l (qn o 0))))
  else if o.gate = 14 then some ((l.set (qn o 0) (gU l (qn o 1))).set (qn o 1) (gU l (qn o 0)))
  else none
def linAll : List Int → List OpD → Option (List Int)
  | l, [] => some l
  | l, o :: os => match linStep l o with
    | some l' => linAll l' os
    | none => none
theorem linStep_len {l l' : List Int} {o : OpD} (h : linStep l o = some l') : l'.length = l.length := by
  unfold linStep at h
  repeat' (split at h)
  all_goals first | (cases h; simp; done) | (cases h; rfl) | cases h
theorem lin_l0 {n : Nat} (hn : n ≤ 64) : ∀ (d k : Nat) (t : Tr AVal) (v : AVal) (B : Hp), d + k = n → t.get 6 = some v → t.get 21 = some (aint n) → t.get 22 = some (aint k) → BufO 1 v ((homeU k).map au) k B →
    WpO E (.loop c_rewrite_Linear_l0) t (B ++ L) (fun ex t' L' => ex = .exit 0 ∧ Keep [1, 2, 3, 4, 5] t t' ∧ ∃ v' B', t'.get 6 = some v' ∧ BufO 1 v' ((homeU n).map au) n B' ∧ L' = B' ++ L) := by
  intro d
  induction d with
  | zero =>
    intro k t v B hd h6 h21 h22 hb
    obtain rfl : k = n := by omega
    refine wo_loop ?_
    repeat (first | intro id | refine goq ?_)
    exact ⟨rfl, by exact keepq, v, B, by exact slotq, hb, rfl⟩
  | succ d ih =>
    intro k t v B hd h6 h21 h22 hb
    have hv1 := hb.isOne
    refine wo_loop ?_
    repeat (first | intro id | refine goq ?_)
    have hb2 := hb.pushed (id := id) (nw := [au (shlV k)]) rfl rfl
    have e : (homeU k).map au ++ [au (shlV k)] = (homeU (k + 1)).map au := by rw [homeU_succ]; simp
    rw [e] at hb2
    refine WpO.weak (WpO.mono (ih (k + 1) _ _ _ (by omega) ?_ ?_ ?_ hb2) ?_) ?_
    · exact slotq
    · exact slotq
    · exact slotq
    · rintro ex t' L' ⟨e1, e2, e3⟩
      exact ⟨e1, Keep.trans (by exact keepq) e2, e3⟩
    · rw [← e]
      exact subq
theorem rlin_l0 {n : Nat} (hn : n ≤ 64) {i1 : Nat} {cs : List AVal} (hc : cs[0]? = some (aint n)) : ∀ (d k : Nat) (t : Tr AVal) (v : AVal) (B : Hp), d + k = n → t.get 1 = some (.ptr i1 0) → t.get 4 = some v → t.get 5 = some (aint k) → BufO 1 v ((homeU k).map au) k B →
    WpO E (.loop c_phasorref18_Linear_l0) t (B ++ ((i1, cs) :: L)) (fun ex t' L' => ex = .exit 0 ∧ Keep [1, 2, 3] t t' ∧ ∃ v' B', t'.get 4 = some v' ∧ BufO 1 v' ((homeU n).map au) n B' ∧ L' = B' ++ ((i1, cs) :: L)) := by
  intro d
  induction d with
  | zero =>
    intro k t v B hd h1 h4 h5 hb
    obtain rfl : k = n := by omega
    refine wo_loop ?_
    repeat (first | intro id | refine goq ?_)
    exact ⟨rfl, by exact keepq, v, B, by exact slotq, hb, rfl⟩
  | succ d ih =>
    intro k t v B hd h1 h4 h5 hb
    have hv1 := hb.isOne
    have hw : IntKind.wrap .u64 (k : Int) = (k : Int) := by show (k : Int) % 18446744073709551616 = k; omega
    refine wo_loop ?_
    repeat (first | intro id | refine goq ?_)
    rw [hw]
    have hb2 := hb.pushed (id := id) (nw := [au (shlV k)]) rfl rfl
    have e : (homeU k).map au ++ [au (shlV k)] = (homeU (k + 1)).map au := by rw [homeU_succ]; simp
    rw [e] at hb2
    refine WpO.weak (WpO.mono (ih (k + 1) _ _ _ (by omega) ?_ ?_ ?_ hb2) ?_) ?_
    · exact slotq
    · exact slotq
    · exact slotq
    · rintro ex t' L' ⟨e1, e2, e3⟩
      exact ⟨e1, Keep.trans (by exact keepq) e2, e3⟩
    · rw [← e]
      exact subq
end Go.Proofs.YtmflheoafeenfaaGreat
namespace Go.Proofs.YtmflheoafeenfaaGreat
open Go.Am
set_option maxRecDepth 4000
set_option maxHeartbeats 16000000
variable {E : Env} {L : Hp}
def LinQ (e : Option (List Int)) (sl : Nat) (n : Nat) (ks : List Nat) (t : Tr AVal) (L : Hp) (ex : Ex) (t' : Tr AVal) (L' : Hp) : Prop :=
  match e with
  | some l' => ex = .exit 2 ∧ Keep ks t t' ∧ ∃ v' B', t'.get sl = some v' ∧ BufO 1 v' (l'.map au) n B' ∧ Am.Sub (B' ++ L) L'
  | none => ex = .ret ∧ t'.get 2 = some anil ∧ t'.get 3 = some (aint 180)
theorem all_one_au (l : List Int) : (l.map au).all AVal.one = true := by
  induction l with
  | nil => rfl
  | cons a l ih => simp [AVal.one]
theorem getAu {l : List Int} {i : Nat} (h : i < l.length) : (l.map au)[i]? = some (au (gU l i)) := by
  simp [gU, h]
theorem two_qs {o : OpD} {n b : Int} (h : OpOk o n b) (hp : plainB o = true) (hg : o.gate = 11 ∨ o.gate = 14) : o.qs.length = 2 ∧ ∃ x y : Nat, o.qs.getD 0 0 = x ∧ o.qs.getD 1 0 = y ∧ (x : Int) < n ∧ (y : Int) < n ∧ qn o 0 = x ∧ qn o 1 = y := by
  simp only [plainB, Bool.and_eq_true, decide_eq_true_eq] at hp
  unfold OpOk at h
  have ha : arity o.gate = 2 := by rcases hg with hg | hg <;> rw [hg] <;> rfl
  rcases h with h | h | h | h
  · obtain ⟨-, -, h3, h4, -⟩ := h
    rw [ha] at h3
    have hl : o.qs.length = 2 := by omega
    have h0 := h4 0 (by omega)
    have h1 := h4 1 (by omega)
    unfold okAt at h0 h1
    refine ⟨hl, (o.qs.getD 0 0).toNat, (o.qs.getD 1 0).toNat, ?_, ?_, ?_, ?_, rfl, rfl⟩ <;> omega
  · omega
  · omega
  · omega
theorem linAll_cons {l : List Int} {os : List OpD} {k : Nat} (hk : k < os.length) : linAll l (os.drop k) = (match linStep l (gO os k) with | some l' => linAll l' (os.drop (k + 1)) | none => none) := by
  rw [List.drop_eq_getElem_cons hk]
  have : gO os k = os[k] := by simp [gO, hk]
  rw [this]
  rfl
theorem lin_l1 (hF : E.fns = fnsT) (hmp : E.mode f_rewrite_plain = .iso false) (h16 : still E c_rewrite_Linear_r16 = true) (h18 : still E c_rewrite_Linear_r18 = true) (h19 : still E c_rewrite_Linear_r19 = true)
    {c : CircD} {s1 : AVal} {cs0 : List AVal} (hr : RowA s1 cs0 c.ops.length) (hcs : OpsC cs0 c.ops) (hC : CircOk c) {n : Nat} (hn : c.qubits = n) :
    ∀ (d k : Nat) (t : Tr AVal) (l : List Int) (v : AVal) (B L : Hp), d + k = c.ops.length → l.length = n → t.get 6 = some v → t.get 32 = some s1 → t.get 33 = some (aint c.ops.length) → t.get 34 = some (aint k) → BufO 1 v (l.map au) n B →
    WpO E (.loop c_rewrite_Linear_l1) t (B ++ L) (LinQ (linAll l (c.ops.drop k)) 6 n [1] t L) := by
  have hs1 := RowA.isOne hr
  have hlen := hC.len
  have hq1 := hC.q1
  intro d
  induction d with
  | zero =>
    intro k t l v B L hd hl h6 h32 h33 h34 hb
    obtain rfl : k = c.ops.length := by omega
    have hv1 := hb.isOne
    rw [List.drop_length]
    refine wo_loop ?_
    repeat (first | intro id | refine goq ?_)
    exact ⟨rfl, by exact keepq, v, B, by exact slotq, hb, Sub.refl _⟩
  | succ d ih =>
    intro k t l v B L hd hl h6 h32 h33 h34 hb
    have hkl : k < c.ops.length := by omega
    obtain ⟨q, hq, hqb, hlt6, hseg⟩ := hcs.getE hkl
    have hop := hC.ok k hkl
    rw [linAll_cons hkl]
    have hgo : c.ops.getD k default = gO c.ops k := rfl
    rw [hgo] at hq hqb hseg hop
    clear hgo
    generalize gO c.ops k = o at *
    have hq1' := RowA.isOne hq
    have hv1 := hb.isOne
    have pl := fun (M : Hp) => plain_ok (L := M) hF hmp hq (vs_bare (bare_opV hq) vs_nil)
    have step : ∀ (t' : Tr AVal) (l' : List Int) (v' : AVal) (B' L' : Hp), Keep [1] t t' → l'.length = n → t'.get 6 = some v' → t'.get 32 = some s1 → t'.get 33 = some (aint c.ops.length) → t'.get 34 = some (aint ((k + 1 : Nat) : Int)) → BufO 1 v' (l'.map au) n B' → Am.Sub (B' ++ L) L' → WpO E (.loop c_rewrite_Linear_l1) t' L' (LinQ (linAll l' (c.ops.drop (k + 1))) 6 n [1] t L) := by
      intro t' l' v' B' L' hK hl' g6 g32 g33 g34 hb' hsub
      refine WpO.weak (WpO.mono (ih (k + 1) t' l' v' B' L (by omega) hl' g6 g32 g33 g34 hb') ?_) hsub
      intro ex t2 L2 h
      unfold LinQ at h ⊢
      split at h
      · obtain ⟨e1, e2, e3⟩ := h
        exact ⟨e1, hK.trans e2, e3⟩
      · exact h
    unfold opV opCells at pl
    unfold opCells at hseg
    refine wo_loop ?_
    by_cases h4 : o.kind = 4
    · have hst : linStep l o = some l := by unfold linStep; rw [if_pos h4]
      rw [hst]
      rw [h4] at hseg
      repeat (first | intro id | refine goq ?_)
      refine step _ l v B _ (by exact keepq) hl ?_ ?_ ?_ ?_ hb ?_
      · exact slotq
      · exact slotq
      · exact slotq
      · exact slotq
      · exact subq
    · repeat (first | intro id | refine goq ?_)
      refine gok ?_
      refine (pl _).mono ?_
      rintro r L' ⟨rfl, rfl⟩
      cases hp : plainB o with
      | false =>
        have hst : linStep l o = none := by unfold linStep; rw [if_neg h4, if_pos hp]
        rw [hst]
        repeat (first | intro id | refine goq ?_)
        refine gok ?_
        refine (pl _).mono ?_
        rintro r L' ⟨rfl, rfl⟩
        rw [hp]
        repeat (first | intro id | refine goq ?_)
        refine gok ?_
        refine (pl _).mono ?_
        rintro r L' ⟨rfl, rfl⟩
        rw [hp]
        repeat (first | intro id | refine goq ?_)
        exact ⟨rfl, by exact slotq, by exact slotq⟩
      | true =>
        by_cases g1 : o.gate = 1
        · have hst : linStep l o = some l := by unfold linStep; rw [if_neg h4, if_neg (by simp [hp]), if_pos g1]
          rw [hst]
          repeat (first | intro id | refine goq ?_)
          refine step _ l v B _ (by exact keepq) hl ?_ ?_ ?_ ?_ hb ?_
          · exact slotq
          · exact slotq
          · exact slotq
          · exact slotq
          · exact subq
        · by_cases g11 : o.gate = 11
          · have hst : linStep l o = some (l.set (qn o 1) (xorV (gU l (qn o 1)) (gU l (qn o 0)))) := by unfold linStep; rw [if_neg h4, if_neg (by simp [hp]), if_neg g1, if_pos g11]
            obtain ⟨hl2, x, y, ex, ey, hx, hy, e0, e1⟩ := two_qs hop hp (.inl g11)
            rw [e0, e1] at hst
            rw [hst]
            have hgx := getAu (l := l) (i := x) (by omega)
            have hgy := getAu (l := l) (i := y) (by omega)
            have hll : (l.map au).length = n := by simp [hl]
            rcases bufInv hb with ⟨rfl, -, hn0, -⟩ | ⟨ic, rfl, rfl⟩
            · omega
            repeat (first | intro id | refine goq ?_)
            refine gok ?_
            refine (pl _).mono ?_
            rintro r L' ⟨rfl, rfl⟩
            rw [hp]
            repeat (first | intro id | refine goq ?_)
            rw [ey]
            repeat (first | intro id | refine goq ?_)
            rw [ex]
            repeat (first | intro id | refine goq ?_)
            have hset : (l.map au).set y (au (xorV (gU l y) (gU l x))) = (l.set y (xorV (gU l y) (gU l x))).map au := by simp
            refine step _ (l.set y (xorV (gU l y) (gU l x))) (.sl ic 0 n 1 none) _ _ (by exact keepq) (by simp [hl]) ?_ ?_ ?_ ?_ (.box (by simp [hl]) (all_one_au _)) ?_
            · exact slotq
            · exact slotq
            · exact slotq
            · exact slotq
            · rw [← hset]
              exact subq
          · by_cases g14 : o.gate = 14
            · have hst : linStep l o = some ((l.set (qn o 0) (gU l (qn o 1))).set (qn o 1) (gU l (qn o 0))) := by unfold linStep; rw [if_neg h4, if_neg (by simp [hp]), if_neg g1, if_neg g11, if_pos g14]
              obtain ⟨hl2, x, y, ex, ey, hx, hy, e0, e1⟩ := two_qs hop hp (.inr g14)
              rw [e0, e1] at hst
              rw [hst]
              have hgx := getAu (l := l) (i := x) (by omega)
              have hgy := getAu (l := l) (i := y) (by omega)
              have hll : (l.map au).length = n := by simp [hl]
              rcases bufInv hb with ⟨rfl, -, hn0, -⟩ | ⟨ic, rfl, rfl⟩
              · omega
              repeat (first | intro id | refine goq ?_)
              refine gok ?_
              refine (pl _).mono ?_
              rintro r L' ⟨rfl, rfl⟩
              rw [hp]
              repeat (first | intro id | refine goq ?_)
              refine gok ?_
              refine (pl _).mono ?_
              rintro r L' ⟨rfl, rfl⟩
              rw [hp]
              repeat (first | intro id | refine goq ?_)
              rw [ex, ey]
              repeat (first | intro id | refine goq ?_)
              have hset : ((l.map au).set x (au (gU l y))).set y (au (gU l x)) = ((l.set x (gU l y)).set y (gU l x)).map au := by simp
              refine step _ ((l.set x (gU l y)).set y (gU l x)) (.sl ic 0 n 1 none) _ _ (by exact keepq) (by simp [hl]) ?_ ?_ ?_ ?_ (.box (by simp [hl]) (all_one_au _)) ?_
              · exact slotq
              · exact slotq
              · exact slotq
              · exact slotq
              · rw [← hset]
                exact subq
            · have hst : linStep l o = none := by unfold linStep; rw [if_neg h4, if_neg (by simp [hp]), if_neg g1, if_neg g11, if_neg g14]
              rw [hst]
              repeat (first | intro id | refine goq ?_)
              refine gok ?_
              refine (pl _).mono ?_
              rintro r L' ⟨rfl, rfl⟩
              rw [hp]
              repeat (first | intro id | refine goq ?_)
              refine gok ?_
              refine (pl _).mono ?_
              rintro r L' ⟨rfl, rfl⟩
              rw [hp]
              repeat (first | intro id | refine goq ?_)
              exact ⟨rfl, by exact slotq, by exact slotq⟩
end Go.Proofs.YtmflheoafeenfaaGreat
namespace Go.Proofs.YtmflheoafeenfaaGreat
open Go.Am
set_option maxRecDepth 4000
set_option maxHeartbeats 16000000
variable {E : Env} {L : Hp}
def SlU (s : AVal) (l : List Int) : Prop := RowA s (l.map au) l.length
def LinR (c : CircD) (r : AVal) : Prop := (¬ CircOk c ∧ r = .tup [anil, aint 80]) ∨ (CircOk c ∧ linAll (homeU c.qubits.toNat) c.ops = none ∧ r = .tup [anil, aint 180]) ∨ (CircOk c ∧ ∃ l s, linAll (homeU c.qubits.toNat) c.ops = some l ∧ r = .tup [s, aint 0] ∧ SlU s l)
theorem linAll_len : ∀ {os : List OpD} {l l' : List Int}, linAll l os = some l' → l'.length = l.length
  | [], l, l', h => by cases h; rfl
  | o :: os, l, l', h => by
    simp only [linAll] at h
    split at h
    · rename_i l1 h1
      rw [linAll_len h, linStep_len h1]
    · cases h
theorem bufU_view {v : AVal} {l : List Int} {n : Nat} {B M : Hp} (h : BufO 1 v (l.map au) n B) (hl : l.length = n) (k : Nat) (hM : ∀ id c, In id c B → In id c M) : ∃ q, ViewO M (k + 2) v q ∧ SlU q l := by
  rcases bufInv h with ⟨rfl, e, rfl, rfl⟩ | ⟨id, rfl, rfl⟩
  · have : l = [] := List.eq_nil_of_length_eq_zero hl
    subst this
    exact ⟨anil, vo_sc, .inl ⟨rfl, rfl, rfl⟩⟩
  · refine ⟨.rs (l.map au) l.length none, ?_, .inr ⟨none, rfl⟩⟩
    subst hl
    refine vo_sl (hM _ _ .here) (by rw [Nat.mul_one]; exact seg_full (by simp)) (vl_sc ?_)
    intro a ha
    obtain ⟨x, -, rfl⟩ := List.mem_map.1 ha
    exact ⟨_, rfl⟩
theorem Linear_ok (hF : E.fns = fnsT) (hm : E.mode f_rewrite_Linear = .iso true) (hmp : E.mode f_rewrite_plain = .iso false) (h16 : still E c_rewrite_Linear_r16 = true) (h18 : still E c_rewrite_Linear_r18 = true) (h19 : still E c_rewrite_Linear_r19 = true)
    (hcC : E.mode f_circuit_Check = .iso false) (hmm : E.mode f_circuit_may = .iso false) (hmg : E.mode f_gate_Check = .iso false) (hmA : E.mode f_gate_Arity = .iso false) (hmo : E.mode f_gate_of = .iso false) (hmt : E.mode f_gate_table = .iso false) (hmc : E.mode f_slices_Contains_int_int = .iso false) (hmi : E.mode f_slices_Index_int_int = .iso false)
    {v : AVal} {c : CircD} (hv : CircA v c) : CallO E f_rewrite_Linear [v] L fun r L' => LinR c r ∧ L' = L := by
  refine callO_iso1 (R := LinR c) hm (fns_of hF n_rewrite_Linear) (by simp [hv.bare]) ?_
  have hv0 := hv
  obtain ⟨s, rfl, cs, hr, hcs, hlt⟩ := hv
  have hs1 := RowA.isOne hr
  refine bodyO_of (Nat.le_of_ble_eq_true rfl) ?_; generalize ht : argSlots _ 0 .nil = t; have h0 : t.get 0 = some _ := (by rw [← ht]; rfl); clear ht
  repeat (first | intro id | refine goq ?_)
  refine gok ?_
  refine (Check_okC hF hcC hmm hmg hmA hmo hmt hmc hmi hv0).mono ?_
  rintro w L' ⟨⟨ie, e, rfl, hce⟩, rfl⟩
  rcases hce with ⟨rfl, hC⟩ | ⟨rfl, hC⟩
  · obtain ⟨n, hn⟩ : ∃ n : Nat, c.qubits = n := ⟨c.qubits.toNat, by have := hC.q0; omega⟩
    have hn64 : n ≤ 64 := by have := hC.q1; omega
    have hln := hC.len
    have hnn : c.qubits.toNat = n := by omega
    repeat (first | intro id | refine goq ?_)
    rw [hn]
    refine WpO.weak (WpO.mono (lin_l0 (L := [(id, [aint (n : Int), aint c.bits, s])]) hn64 n 0 _ anil [] (by omega) ?_ ?_ ?_ .nil) ?_) (by exact subq)
    · exact slotq
    · exact slotq
    · exact slotq
    rintro ex t1 L1 ⟨rfl, hK, v', B', g6, hb, rfl⟩
    have k1 : t1.get 1 = some (.ptr id 0) := (hK.ex 1 rfl).trans (by exact slotq)
    clear hK
    refine blkO.x (seqO.n ?_)
    repeat (first | intro id | refine goq ?_)
    refine WpO.mono (lin_l1 hF hmp h16 h18 h19 hr hcs hC hn c.ops.length 0 _ (homeU n) v' B' _ (by omega) (homeU_len n) ?_ ?_ ?_ ?_ hb) ?_
    · exact slotq
    · exact slotq
    · exact slotq
    · exact slotq
    intro ex t2 L2 h
    rw [List.drop_zero] at h
    unfold LinQ at h
    split at h
    · rename_i l' hl'
      obtain ⟨rfl, hK, v2, B2, g62, hb2, hsub⟩ := h
      refine blkO.x (seqO.n (WpO.weak ?_ hsub))
      repeat (first | intro id | refine goq ?_)
      ((first | apply retO_r | apply retO_n); (focus (exact resq)))
      obtain ⟨q, h1, h2⟩ := bufU_view (M := B2 ++ [(id, [aint (n : Int), aint c.bits, s])]) hb2 (by rw [linAll_len hl', homeU_len]) 61 (fun id c hi => hi.appl)
      refine ⟨.tup [q, aint 0], ?_, .inr (.inr ⟨hC, l', q, by rw [hnn]; exact hl', rfl, h2⟩)⟩
      exact vo_tup (vl_cons h1 (vl_cons vo_sc vl_nil))
    · rename_i hl'
      obtain ⟨rfl, g2, g3⟩ := h
      refine blkO.r (seqO.r ?_) 
      ((first | apply retO_r | apply retO_n); (focus (exact resq)))
      exact ⟨.tup [anil, aint 180], vo_tup (vl_cons vo_sc (vl_cons vo_sc vl_nil)), .inr (.inl ⟨hC, by rw [hnn]; exact hl', rfl⟩)⟩
  · repeat (first | intro id | refine goq ?_)
    ((first | apply retO_r | apply retO_n); (focus (exact resq)))
    exact ⟨.tup [anil, aint 80], vo_tup (vl_cons vo_sc (vl_cons vo_sc vl_nil)), .inl ⟨hC, rfl⟩⟩
end Go.Proofs.YtmflheoafeenfaaGreat
