/- Parts of the proof, joined by program: RwP2, RwO2, RwO3, CiCG, CiCH. -/
import Derived.Test.YtmflheoafeenfaaPa8
import Derived.Test.YtmflheoafeenfaaPa7
set_option linter.unusedSimpArgs false
set_option linter.unusedVariables false
namespace Go.Proofs.Ytmflheoafeenfaa
open Go.Am
set_option maxRecDepth 4000
set_option maxHeartbeats 8000000
variable {E : Env} {L : Hp}
theorem nan_int (hF : E.fns = fnsT) (hm : E.mode f_cmp_isNaN_int = .iso false) (a : Int) : CallO E f_cmp_isNaN_int [aint a] L fun r L' => r = abool false ∧ L' = L := by
  refine callO_iso0 (R := fun r => r = abool false) hm (fns_of hF n_cmp_isNaN_int) (vs_bare rfl vs_nil) ?_
  refine bodyO_of (Nat.le_of_ble_eq_true rfl) ?_; generalize ht : argSlots _ 0 .nil = t; have h0 : t.get 0 = some _ := (by rw [← ht]; rfl); clear ht
  repeat (first | intro id | refine goq ?_)
  ((first | apply retO_r | apply retO_n); (focus (exact resq)))
  exact ⟨rfl, by simp [resultV, abool]⟩
theorem cmp_int (hF : E.fns = fnsT) (hm : E.mode f_cmp_Compare_int = .iso false) (hmn : E.mode f_cmp_isNaN_int = .iso false) (a b : Int) : CallO E f_cmp_Compare_int [aint a, aint b] L fun r L' => r = aint (cmpI a b) ∧ L' = L := by
  refine ai_ex (callO_iso0 (R := fun r => ∃ x, r = aint x ∧ x = cmpI a b) hm (fns_of hF n_cmp_Compare_int) (vs_bare rfl (vs_bare rfl vs_nil)) ?_)
  refine bodyO_of (Nat.le_of_ble_eq_true rfl) ?_; generalize ht : argSlots _ 0 .nil = t; have h0 : t.get 0 = some _ := (by rw [← ht]; rfl); have h1 : t.get 1 = some _ := (by rw [← ht]; rfl); clear ht
  repeat (first | intro id | refine goq ?_)
  refine gok ?_
  refine (nan_int hF hmn _).mono ?_
  rintro r L' ⟨rfl, rfl⟩
  repeat (first | intro id | refine goq ?_)
  refine gok ?_
  refine (nan_int hF hmn _).mono ?_
  rintro r L' ⟨rfl, rfl⟩
  repeat' (first | intro id | refine goq ?_ | (refine oo_guard (by exact slotq) (fun hc => ?_) (fun hc => ?_) <;> (fail_if_success (exact absurd hc (by decide))) <;> rw [hc] <;> (try simp only [decide_eq_true_eq, decide_eq_false_iff_not, ne_eq, Decidable.not_not] at hc)) | (refine wo_cond_if (by exact slotq) (fun hc => ?_) (fun hc => ?_) <;> (try simp only [decide_eq_true_eq, decide_eq_false_iff_not, ne_eq, Decidable.not_not] at hc)) | ((first | apply retO_r | apply retO_n); (focus (exact resq))))
  all_goals (refine ⟨rfl, _, rfl, ?_⟩; unfold cmpI; grind)
theorem nan_api_OpKind (hF : E.fns = fnsT) (hm : E.mode f_cmp_isNaN_api_OpKind = .iso false) (a : Int) : CallO E f_cmp_isNaN_api_OpKind [aint a] L fun r L' => r = abool false ∧ L' = L := by
  refine callO_iso0 (R := fun r => r = abool false) hm (fns_of hF n_cmp_isNaN_api_OpKind) (vs_bare rfl vs_nil) ?_
  refine bodyO_of (Nat.le_of_ble_eq_true rfl) ?_; generalize ht : argSlots _ 0 .nil = t; have h0 : t.get 0 = some _ := (by rw [← ht]; rfl); clear ht
  repeat (first | intro id | refine goq ?_)
  ((first | apply retO_r | apply retO_n); (focus (exact resq)))
  exact ⟨rfl, by simp [resultV, abool]⟩
theorem cmp_api_OpKind (hF : E.fns = fnsT) (hm : E.mode f_cmp_Compare_api_OpKind = .iso false) (hmn : E.mode f_cmp_isNaN_api_OpKind = .iso false) (a b : Int) : CallO E f_cmp_Compare_api_OpKind [aint a, aint b] L fun r L' => r = aint (cmpI a b) ∧ L' = L := by
  refine ai_ex (callO_iso0 (R := fun r => ∃ x, r = aint x ∧ x = cmpI a b) hm (fns_of hF n_cmp_Compare_api_OpKind) (vs_bare rfl (vs_bare rfl vs_nil)) ?_)
  refine bodyO_of (Nat.le_of_ble_eq_true rfl) ?_; generalize ht : argSlots _ 0 .nil = t; have h0 : t.get 0 = some _ := (by rw [← ht]; rfl); have h1 : t.get 1 = some _ := (by rw [← ht]; rfl); clear ht
  repeat (first | intro id | refine goq ?_)
  refine gok ?_
  refine (nan_api_OpKind hF hmn _).mono ?_
  rintro r L' ⟨rfl, rfl⟩
  repeat (first | intro id | refine goq ?_)
  refine gok ?_
  refine (nan_api_OpKind hF hmn _).mono ?_
  rintro r L' ⟨rfl, rfl⟩
  repeat' (first | intro id | refine goq ?_ | (refine oo_guard (by exact slotq) (fun hc => ?_) (fun hc => ?_) <;> (fail_if_success (exact absurd hc (by decide))) <;> rw [hc] <;> (try simp only [decide_eq_true_eq, decide_eq_false_iff_not, ne_eq, Decidable.not_not] at hc)) | (refine wo_cond_if (by exact slotq) (fun hc => ?_) (fun hc => ?_) <;> (try simp only [decide_eq_true_eq, decide_eq_false_iff_not, ne_eq, Decidable.not_not] at hc)) | ((first | apply retO_r | apply retO_n); (focus (exact resq))))
  all_goals (refine ⟨rfl, _, rfl, ?_⟩; unfold cmpI; grind)
theorem nan_api_GateKind (hF : E.fns = fnsT) (hm : E.mode f_cmp_isNaN_api_GateKind = .iso false) (a : Int) : CallO E f_cmp_isNaN_api_GateKind [aint a] L fun r L' => r = abool false ∧ L' = L := by
  refine callO_iso0 (R := fun r => r = abool false) hm (fns_of hF n_cmp_isNaN_api_GateKind) (vs_bare rfl vs_nil) ?_
  refine bodyO_of (Nat.le_of_ble_eq_true rfl) ?_; generalize ht : argSlots _ 0 .nil = t; have h0 : t.get 0 = some _ := (by rw [← ht]; rfl); clear ht
  repeat (first | intro id | refine goq ?_)
  ((first | apply retO_r | apply retO_n); (focus (exact resq)))
  exact ⟨rfl, by simp [resultV, abool]⟩
theorem cmp_api_GateKind (hF : E.fns = fnsT) (hm : E.mode f_cmp_Compare_api_GateKind = .iso false) (hmn : E.mode f_cmp_isNaN_api_GateKind = .iso false) (a b : Int) : CallO E f_cmp_Compare_api_GateKind [aint a, aint b] L fun r L' => r = aint (cmpI a b) ∧ L' = L := by
  refine ai_ex (callO_iso0 (R := fun r => ∃ x, r = aint x ∧ x = cmpI a b) hm (fns_of hF n_cmp_Compare_api_GateKind) (vs_bare rfl (vs_bare rfl vs_nil)) ?_)
  refine bodyO_of (Nat.le_of_ble_eq_true rfl) ?_; generalize ht : argSlots _ 0 .nil = t; have h0 : t.get 0 = some _ := (by rw [← ht]; rfl); have h1 : t.get 1 = some _ := (by rw [← ht]; rfl); clear ht
  repeat (first | intro id | refine goq ?_)
  refine gok ?_
  refine (nan_api_GateKind hF hmn _).mono ?_
  rintro r L' ⟨rfl, rfl⟩
  repeat (first | intro id | refine goq ?_)
  refine gok ?_
  refine (nan_api_GateKind hF hmn _).mono ?_
  rintro r L' ⟨rfl, rfl⟩
  repeat' (first | intro id | refine goq ?_ | (refine oo_guard (by exact slotq) (fun hc => ?_) (fun hc => ?_) <;> (fail_if_success (exact absurd hc (by decide))) <;> rw [hc] <;> (try simp only [decide_eq_true_eq, decide_eq_false_iff_not, ne_eq, Decidable.not_not] at hc)) | (refine wo_cond_if (by exact slotq) (fun hc => ?_) (fun hc => ?_) <;> (try simp only [decide_eq_true_eq, decide_eq_false_iff_not, ne_eq, Decidable.not_not] at hc)) | ((first | apply retO_r | apply retO_n); (focus (exact resq))))
  all_goals (refine ⟨rfl, _, rfl, ?_⟩; unfold cmpI; grind)
/-- The first that is not 0. -/
def orL : List Int → Int
  | [] => 0
  | x :: l => orI x (orL l)
theorem orL_drop {l : List Int} {k : Nat} (h : k < l.length) : orL (l.drop k) = orI (l.getD k 0) (orL (l.drop (k + 1))) := by
  rw [List.drop_eq_getElem_cons h, orL]
  simp [h]
theorem or_l0 {v : AVal} {l : List Int} (hv : SlI v l) (hlt : l.length < 2 ^ 62) : ∀ (d k : Nat) (t : Tr AVal), d + k = l.length → t.get 3 = some (aint 0) → t.get 6 = some v → t.get 7 = some (aint l.length) → t.get 8 = some (aint k) →
    WpO E (.loop c_cmp_Or_int_l0) t L (fun ex t' L' => ((ex = .exit 0 ∧ t'.get 3 = some (aint 0) ∧ orL (l.drop k) = 0) ∨ (ex = .ret ∧ t'.get 2 = some (aint (orL (l.drop k))))) ∧ L' = L) := by
  have hv1 := RowA.isOne hv
  intro d
  induction d with
  | zero =>
    intro k t hk h3 h6 h7 h8
    refine wo_loop ?_
    repeat (first | intro id | refine goq ?_)
    exact ⟨.inl ⟨rfl, by exact slotq, by rw [List.drop_of_length_le (by omega)]; rfl⟩, rfl⟩
  | succ d ih =>
    intro k t hk h3 h6 h7 h8
    have e := orL_drop (show k < l.length by omega)
    refine wo_loop ?_
    by_cases h0 : l.getD k 0 = 0
    · rw [h0] at e
      have e2 : orI 0 (orL (l.drop (k + 1))) = orL (l.drop (k + 1)) := rfl
      rw [e, e2]
      repeat (first | intro id | refine goq ?_)
      refine ih (k + 1) _ (by omega) ?_ ?_ ?_ ?_
      · exact slotq
      · exact slotq
      · exact slotq
      · exact slotq
    · have e2 : orI (l.getD k 0) (orL (l.drop (k + 1))) = l.getD k 0 := by unfold orI; rw [if_neg h0]
      rw [e, e2]
      repeat (first | intro id | refine goq ?_)
      exact ⟨.inr ⟨rfl, by exact slotq⟩, rfl⟩
theorem or_ok (hF : E.fns = fnsT) (hm : E.mode f_cmp_Or_int = .iso false) {v : AVal} {l : List Int} {args : List AVal} (hw : ViewsO L args [v]) (hv : SlI v l) (hlt : l.length < 2 ^ 62) : CallO E f_cmp_Or_int args L fun r L' => r = aint (orL l) ∧ L' = L := by
  refine ai_ex (callO_iso0 (R := fun r => ∃ x, r = aint x ∧ x = orL l) hm (fns_of hF n_cmp_Or_int) hw ?_)
  have hv1 := RowA.isOne hv
  refine bodyO_of (Nat.le_of_ble_eq_true rfl) ?_; generalize ht : argSlots _ 0 .nil = t; have h0 : t.get 0 = some _ := (by rw [← ht]; rfl); clear ht
  repeat (first | intro id | refine goq ?_)
  refine WpO.mono (or_l0 hv hlt l.length 0 _ (by omega) ?_ ?_ ?_ ?_) ?_
  · exact slotq
  · exact slotq
  · exact slotq
  · exact slotq
  simp only [List.drop_zero]
  rintro ex t1 L' ⟨⟨rfl, h3, h0⟩ | ⟨rfl, h2⟩, rfl⟩
  · repeat (first | intro id | refine goq ?_)
    ((first | apply retO_r | apply retO_n); (focus (exact resq)))
    exact ⟨rfl, _, rfl, h0.symm⟩
  · repeat (first | intro id | refine goq ?_)
    ((first | apply retO_r | apply retO_n); (focus (exact resq)))
    exact ⟨rfl, _, rfl, rfl⟩
theorem cmpL_step {asq bs : List Int} {k : Nat} (ha : k < asq.length) (hb : k < bs.length) : cmpL (asq.drop k) (bs.drop k) = orI (cmpI (asq.getD k 0) (bs.getD k 0)) (cmpL (asq.drop (k + 1)) (bs.drop (k + 1))) := by
  rw [List.drop_eq_getElem_cons ha, List.drop_eq_getElem_cons hb, cmpL]
  simp [ha, hb]
theorem scompare_l0 (hF : E.fns = fnsT) (hmc : E.mode f_cmp_Compare_int = .iso false) (hmn : E.mode f_cmp_isNaN_int = .iso false) {q p : AVal} {qs ps : List Int} (hq : SlI q qs) (hp : SlI p ps) (hpl : ps.length < 2 ^ 62) (hql : qs.length < 2 ^ 62) :
    ∀ (d k : Nat) (t : Tr AVal), d + k = qs.length → t.get 0 = some q → t.get 1 = some p → t.get 9 = some q → t.get 10 = some (aint qs.length) → t.get 11 = some (aint k) →
    WpO E (.loop c_slices_Compare_int_int_l0) t L (fun ex t' L' => ((ex = .exit 0 ∧ Keep [0, 1] t t' ∧ ((qs.length < ps.length ∧ cmpL (qs.drop k) (ps.drop k) = -1) ∨ (¬ qs.length < ps.length ∧ cmpL (qs.drop k) (ps.drop k) = 0))) ∨ (ex = .ret ∧ t'.get 4 = some (aint (cmpL (qs.drop k) (ps.drop k))))) ∧ L' = L) := by
  have hq1 := RowA.isOne hq
  have hp1 := RowA.isOne hp
  intro d
  induction d with
  | zero =>
    intro k t hk h0 h1 h9 h10 h11
    refine wo_loop ?_
    repeat (first | intro id | refine goq ?_)
    refine ⟨.inl ⟨rfl, by exact keepq, ?_⟩, rfl⟩
    rw [List.drop_of_length_le (show qs.length ≤ k by omega)]
    by_cases h : qs.length < ps.length
    · refine .inl ⟨h, ?_⟩
      rw [List.drop_eq_getElem_cons (show k < ps.length by omega)]
      rfl
    · refine .inr ⟨h, ?_⟩
      rw [List.drop_of_length_le (by omega)]
      rfl
  | succ d ih =>
    intro k t hk h0 h1 h9 h10 h11
    refine wo_loop ?_
    by_cases hb : k < ps.length
    · have e := cmpL_step (show k < qs.length by omega) hb
      rw [e]
      repeat (first | intro id | refine goq ?_)
      refine gok ?_
      refine (cmp_int hF hmc hmn _ _).mono ?_
      rintro r L' ⟨rfl, rfl⟩
      by_cases c0 : cmpI (qs.getD k 0) (ps.getD k 0) = 0
      · have e2 : orI (cmpI (qs.getD k 0) (ps.getD k 0)) (cmpL (qs.drop (k + 1)) (ps.drop (k + 1))) = cmpL (qs.drop (k + 1)) (ps.drop (k + 1)) := by unfold orI; rw [if_pos c0]
        rw [e2]
        repeat (first | intro id | refine goq ?_)
        refine WpO.mono (ih (k + 1) _ (by omega) ?_ ?_ ?_ ?_ ?_) ?_
        · exact slotq
        · exact slotq
        · exact slotq
        · exact slotq
        · exact slotq
        · rintro ex t' L' ⟨⟨e1, e2, e3⟩ | h, e4⟩
          · exact ⟨.inl ⟨e1, Keep.trans (by exact keepq) e2, e3⟩, e4⟩
          · exact ⟨.inr h, e4⟩
      · have e2 : orI (cmpI (qs.getD k 0) (ps.getD k 0)) (cmpL (qs.drop (k + 1)) (ps.drop (k + 1))) = cmpI (qs.getD k 0) (ps.getD k 0) := by unfold orI; rw [if_neg c0]
        rw [e2]
        repeat (first | intro id | refine goq ?_)
        exact ⟨.inr ⟨rfl, by exact slotq⟩, rfl⟩
    · have e : cmpL (qs.drop k) (ps.drop k) = 1 := by
        rw [List.drop_of_length_le (show ps.length ≤ k by omega), List.drop_eq_getElem_cons (show k < qs.length by omega)]
        rfl
      rw [e]
      repeat (first | intro id | refine goq ?_)
      exact ⟨.inr ⟨rfl, by exact slotq⟩, rfl⟩
theorem scompare_ok (hF : E.fns = fnsT) (hm : E.mode f_slices_Compare_int_int = .iso false) (hmc : E.mode f_cmp_Compare_int = .iso false) (hmn : E.mode f_cmp_isNaN_int = .iso false) {q p : AVal} {qs ps : List Int} (hq : SlI q qs) (hp : SlI p ps) (hpl : ps.length < 2 ^ 62) (hql : qs.length < 2 ^ 62) :
    CallO E f_slices_Compare_int_int [q, p] L fun r L' => r = aint (cmpL qs ps) ∧ L' = L := by
  refine ai_ex (callO_iso0 (R := fun r => ∃ x, r = aint x ∧ x = cmpL qs ps) hm (fns_of hF n_slices_Compare_int_int) (vs_bare (bare_SlI hq) (vs_bare (bare_SlI hp) vs_nil)) ?_)
  have hq1 := RowA.isOne hq
  have hp1 := RowA.isOne hp
  refine bodyO_of (Nat.le_of_ble_eq_true rfl) ?_; generalize ht : argSlots _ 0 .nil = t; have h0 : t.get 0 = some _ := (by rw [← ht]; rfl); have h1 : t.get 1 = some _ := (by rw [← ht]; rfl); clear ht
  repeat (first | intro id | refine goq ?_)
  refine WpO.mono (scompare_l0 hF hmc hmn hq hp hpl hql qs.length 0 _ (by omega) ?_ ?_ ?_ ?_ ?_) ?_
  · exact slotq
  · exact slotq
  · exact slotq
  · exact slotq
  · exact slotq
  simp only [List.drop_zero]
  rintro ex t1 L' ⟨⟨rfl, hK, ⟨hl, he⟩ | ⟨hl, he⟩⟩ | ⟨rfl, h4⟩, rfl⟩
  · have g0 : t1.get 0 = some q := (hK.ex 0 rfl).trans (by exact slotq)
    have g1 : t1.get 1 = some p := (hK.ex 1 rfl).trans (by exact slotq)
    repeat (first | intro id | refine goq ?_)
    ((first | apply retO_r | apply retO_n); (focus (exact resq)))
    exact ⟨rfl, _, rfl, he.symm⟩
  · have g0 : t1.get 0 = some q := (hK.ex 0 rfl).trans (by exact slotq)
    have g1 : t1.get 1 = some p := (hK.ex 1 rfl).trans (by exact slotq)
    repeat (first | intro id | refine goq ?_)
    ((first | apply retO_r | apply retO_n); (focus (exact resq)))
    exact ⟨rfl, _, rfl, he.symm⟩
  · repeat (first | intro id | refine goq ?_)
    ((first | apply retO_r | apply retO_n); (focus (exact resq)))
    exact ⟨rfl, _, rfl, rfl⟩
theorem compare_ok (hF : E.fns = fnsT) (hm : E.mode f_rewrite_compare = .iso false) (hst : still E c_rewrite_compare_r1 = true) (hmo : E.mode f_cmp_Or_int = .iso false) (hms : E.mode f_slices_Compare_int_int = .iso false) (hmc : E.mode f_cmp_Compare_int = .iso false) (hmn : E.mode f_cmp_isNaN_int = .iso false) (hmc1 : E.mode f_cmp_Compare_api_OpKind = .iso false) (hmn1 : E.mode f_cmp_isNaN_api_OpKind = .iso false) (hmc2 : E.mode f_cmp_Compare_api_GateKind = .iso false) (hmn2 : E.mode f_cmp_isNaN_api_GateKind = .iso false)
    {q p : AVal} {a b : OpD} {args : List AVal} (hq : SlI q a.qs) (hp : SlI p b.qs) (hql : a.qs.length < 2 ^ 62) (hpl : b.qs.length < 2 ^ 62) (hv : ViewsO L args [opV q a, opV p b]) :
    CallO E f_rewrite_compare args L fun r L' => r = aint (cmpO a b) ∧ L' = L := by
  refine ai_ex (callO_iso0 (R := fun r => ∃ x, r = aint x ∧ x = cmpO a b) hm (fns_of hF n_rewrite_compare) hv ?_)
  have hq1 := RowA.isOne hq
  have hp1 := RowA.isOne hp
  unfold opV opCells
  refine bodyO_of (Nat.le_of_ble_eq_true rfl) ?_; generalize ht : argSlots _ 0 .nil = t; have h0 : t.get 0 = some _ := (by rw [← ht]; rfl); have h1 : t.get 1 = some _ := (by rw [← ht]; rfl); clear ht
  repeat (first | intro id | refine goq ?_)
  refine gok ?_
  refine (cmp_api_OpKind hF hmc1 hmn1 _ _).mono ?_
  rintro r L' ⟨rfl, rfl⟩
  repeat (first | intro id | refine goq ?_)
  refine gok ?_
  refine (cmp_api_GateKind hF hmc2 hmn2 _ _).mono ?_
  rintro r L' ⟨rfl, rfl⟩
  repeat (first | intro id | refine goq ?_)
  refine gok ?_
  refine (scompare_ok hF hms hmc hmn hq hp hpl hql).mono ?_
  rintro r L' ⟨rfl, rfl⟩
  repeat (first | intro id | refine goq ?_)
  refine gok ?_
  refine (cmp_int hF hmc hmn _ _).mono ?_
  rintro r L' ⟨rfl, rfl⟩
  repeat (first | intro id | refine goq ?_)
  refine gok ?_
  refine (cmp_int hF hmc hmn _ _).mono ?_
  rintro r L' ⟨rfl, rfl⟩
  repeat (first | intro id | refine goq ?_)
  refine gok ?_
  refine (cmp_int hF hmc hmn _ _).mono ?_
  rintro r L' ⟨rfl, rfl⟩
  repeat (first | intro id | refine goq ?_)
  refine gok ?_
  have hsl : SlI (.rs ([cmpI a.kind b.kind, cmpI a.gate b.gate, cmpL a.qs b.qs, cmpI a.bit b.bit, cmpI a.ifc b.ifc, cmpI a.whn b.whn].map aint) 6 (some 6)) [cmpI a.kind b.kind, cmpI a.gate b.gate, cmpL a.qs b.qs, cmpI a.bit b.bit, cmpI a.ifc b.ifc, cmpI a.whn b.whn] := .inr ⟨_, rfl⟩
  refine (or_ok hF hmo (vs_view rfl (vo_sl (by exact inq) (seg_full rfl) (vl_sc (sc_ints [cmpI a.kind b.kind, cmpI a.gate b.gate, cmpL a.qs b.qs, cmpI a.bit b.bit, cmpI a.ifc b.ifc, cmpI a.whn b.whn]))) vs_nil) hsl (by simp)).mono ?_
  rintro r L' ⟨rfl, rfl⟩
  repeat (first | intro id | refine goq ?_)
  ((first | apply retO_r | apply retO_n); (focus (exact resq)))
  refine ⟨rfl, _, rfl, ?_⟩
  have e : ∀ x, orI x 0 = x := fun x => by unfold orI; split <;> omega
  simp only [orL, cmpO, e]
end Go.Proofs.Ytmflheoafeenfaa
namespace Go.Proofs.Ytmflheoafeenfaa
open Go.Am
set_option maxRecDepth 4000
def sgm (i j : Nat) : Nat := if j = i then i + 1 else if j = i + 1 then i else j
structure Swp (l l' : List OpD) (i : Nat) : Prop where
  len : l'.length = l.length
  lt : i + 1 < l.length
  h1 : ∀ j, j ≠ i → j ≠ i + 1 → l'.getD j default = l.getD j default
  h2 : l'.getD i default = l.getD (i + 1) default
  h3 : l'.getD (i + 1) default = l.getD i default
  ht : touchB (l.getD i default) (l.getD (i + 1) default) = false
theorem Swp.get {l l' : List OpD} {i : Nat} (h : Swp l l' i) (j : Nat) : l'.getD (sgm i j) default = l.getD j default := by
  unfold sgm
  split
  · rename_i e; subst e; exact h.h3
  · split
    · rename_i e; subst e; exact h.h2
    · exact h.h1 j (by assumption) (by assumption)
theorem Swp.free {l l' : List OpD} {i : Nat} (h : Swp l l' i) {j : Nat} (hj : j < l.length) : freeB l' (sgm i j) = true ↔ freeB l j = true := by
  have hlt := h.lt
  have hsj : sgm i j < l'.length := by rw [h.len]; unfold sgm; split; omega; split <;> omega
  rw [freeB_iff hsj, freeB_iff hj, h.get j]
  constructor
  · intro k m hm
    by_cases hx : j = i + 1 ∧ m = i
    · obtain ⟨rfl, rfl⟩ := hx
      exact h.ht
    · have := k (sgm i m) (by unfold sgm; (repeat' split) <;> omega)
      rw [h.get m] at this
      exact this
  · intro k m hm
    by_cases hx : j = i ∧ m = i
    · obtain ⟨rfl, rfl⟩ := hx
      rw [h.h2, touchB_comm]
      exact h.ht
    · have e : m = sgm i (sgm i m) := by unfold sgm; (repeat' split) <;> omega
      rw [e, h.get]
      refine k _ ?_
      unfold sgm at hm ⊢
      (repeat' (split at hm)) <;> (repeat' split) <;> omega
theorem sgm_lt {i j n : Nat} (h : i + 1 < n) (hj : j < n) : sgm i j < n := by unfold sgm; (repeat' split) <;> omega
theorem sgm_sgm (i j : Nat) : sgm i (sgm i j) = j := by unfold sgm; (repeat' split) <;> omega
theorem Swp.best {l l' : List OpD} {i : Nat} (h : Swp l l' i) (hq : ∀ j, j < l.length → 0 < (l.getD j default).qs.length) : bestI l' = sgm i (bestI l) := by
  have hlt := h.lt
  have hb := bestI_spec (l := l) (by omega)
  refine best_only (fun j hj => ?_) ⟨?_, ?_, ?_⟩
  · rw [h.len] at hj
    have := hq (sgm i j) (sgm_lt hlt hj)
    rw [← h.get, sgm_sgm] at this
    exact this
  · rw [h.len]
    exact sgm_lt hlt hb.lt
  · exact (h.free hb.lt).2 hb.free
  · intro j hj hf
    rw [h.len] at hj
    have e : j = sgm i (sgm i j) := (sgm_sgm i j).symm
    rw [e] at hf ⊢
    rw [h.get, h.get]
    exact hb.least _ (sgm_lt hlt hj) ((h.free (sgm_lt hlt hj)).1 hf)
theorem swp_mk {xs ys : List OpD} {a b : OpD} (ht : touchB a b = false) : Swp (xs ++ a :: b :: ys) (xs ++ b :: a :: ys) xs.length := by
  have g0 : ∀ (x y : OpD), (xs ++ x :: y :: ys).getD xs.length default = x := fun x y => by simp
  have g1 : ∀ (x y : OpD), (xs ++ x :: y :: ys).getD (xs.length + 1) default = y := fun x y => by simp [List.getElem?_append_right]
  refine ⟨by simp, by simp, fun j h1 h2 => ?_, by rw [g0, g1], by rw [g0, g1], by rw [g0, g1]; exact ht⟩
  simp only [List.getD_eq_getElem?_getD]
  rcases Nat.lt_or_ge j xs.length with h | h
  · rw [List.getElem?_append_left h, List.getElem?_append_left h]
  · rw [List.getElem?_append_right h, List.getElem?_append_right h]
    obtain ⟨k, hk⟩ : ∃ k, j - xs.length = k + 2 := ⟨j - xs.length - 2, by omega⟩
    rw [hk]
    rfl
def QsPos (l : List OpD) : Prop := ∀ j, j < l.length → 0 < (l.getD j default).qs.length
theorem qsPos_iff {l : List OpD} : QsPos l ↔ ∀ x ∈ l, 0 < x.qs.length := by
  constructor
  · intro h x hx
    obtain ⟨j, hj, rfl⟩ := List.getElem_of_mem hx
    simpa [hj] using h j hj
  · intro h j hj
    have := h l[j] (List.getElem_mem hj)
    simpa [hj] using this
theorem ordF_swap : ∀ (n : Nat) (xs ys : List OpD) (a b : OpD), touchB a b = false → QsPos (xs ++ a :: b :: ys) → (xs ++ a :: b :: ys).length = n → ordF n (xs ++ a :: b :: ys) = ordF n (xs ++ b :: a :: ys)
  | 0, xs, ys, a, b, ht, hq, hn => by simp at hn
  | n + 1, xs, ys, a, b, ht, hq, hn => by
    have hs := swp_mk (xs := xs) (ys := ys) ht
    have hb := hs.best hq
    have hlt := (bestI_spec (l := xs ++ a :: b :: ys) (by omega)).lt
    simp only [ordF]
    rw [hb, hs.get]
    generalize bestI (xs ++ a :: b :: ys) = p at *
    have hq2 := qsPos_iff.1 hq
    congr 1
    unfold sgm
    split
    · rename_i e
      subst e
      rw [List.eraseIdx_append_of_length_le (Nat.le_refl _), List.eraseIdx_append_of_length_le (by omega)]
      simp
    · split
      · rename_i e
        subst e
        rw [List.eraseIdx_append_of_length_le (Nat.le_refl _), List.eraseIdx_append_of_length_le (by omega)]
        simp
      · rcases Nat.lt_or_ge p xs.length with h | h
        · rw [List.eraseIdx_append_of_lt_length h, List.eraseIdx_append_of_lt_length h]
          refine ordF_swap n _ ys a b ht ?_ ?_
          · refine qsPos_iff.2 fun x hx => hq2 x ?_
            rw [List.mem_append] at hx ⊢
            rcases hx with hx | hx
            · exact .inl (List.mem_of_mem_eraseIdx hx)
            · exact .inr hx
          · simp [List.length_eraseIdx, h] at hn ⊢; omega
        · rw [List.eraseIdx_append_of_length_le h, List.eraseIdx_append_of_length_le h]
          obtain ⟨k, hk⟩ : ∃ k, p - xs.length = k + 2 := ⟨p - xs.length - 2, by omega⟩
          rw [hk]
          simp only [List.eraseIdx_cons_succ]
          refine ordF_swap n xs _ a b ht ?_ ?_
          · refine qsPos_iff.2 fun x hx => hq2 x ?_
            simp only [List.mem_append, List.mem_cons] at hx ⊢
            rcases hx with hx | hx | hx | hx
            · exact .inl hx
            · exact .inr (.inl hx)
            · exact .inr (.inr (.inl hx))
            · exact .inr (.inr (.inr (List.mem_of_mem_eraseIdx hx)))
          · have : k < ys.length := by simp at hlt; omega
            simp [List.length_eraseIdx, this] at hn ⊢; omega
theorem ordL_swap {xs ys : List OpD} {a b : OpD} (ht : touchB a b = false) (hq : QsPos (xs ++ a :: b :: ys)) : ordL (xs ++ a :: b :: ys) = ordL (xs ++ b :: a :: ys) := by
  unfold ordL
  rw [ordF_swap _ xs ys a b ht hq rfl]
  simp
end Go.Proofs.Ytmflheoafeenfaa
namespace Go.Proofs.Ytmflheoafeenfaa
open Go.Am
set_option maxRecDepth 4000
def gO (l : List OpD) (j : Nat) : OpD := l.getD j default
def aliveL (n : Nat) (τ : List Nat) : List Nat := (List.range n).filter fun j => !τ.contains j
theorem mem_alive {n j : Nat} {τ : List Nat} : j ∈ aliveL n τ ↔ j < n ∧ j ∉ τ := by simp [aliveL]
def cntW (l : List OpD) (τ : List Nat) (j k : Nat) : Nat := ((aliveL k τ).filter fun i => touchB (gO l i) (gO l j)).length
/-- Of each operation: how many that touch it, ahead of it, are still there; -1: it is gone. -/
def W (l : List OpD) (τ : List Nat) (j : Nat) : Int := if τ.contains j then -1 else (cntW l τ j j : Int)
theorem aliveL_succ (n : Nat) (τ : List Nat) : aliveL (n + 1) τ = aliveL n τ ++ if τ.contains n then [] else [n] := by
  unfold aliveL
  rw [List.range_succ, List.filter_append]
  congr 1
  cases h : τ.contains n <;> simp [h] <;> simp_all
theorem cntW_succ (l : List OpD) (τ : List Nat) (j k : Nat) : cntW l τ j (k + 1) = cntW l τ j k + if τ.contains k then 0 else if touchB (gO l k) (gO l j) then 1 else 0 := by
  unfold cntW
  rw [aliveL_succ, List.filter_append, List.length_append]
  congr 1
  cases h : τ.contains k with
  | true => simp
  | false =>
    cases h2 : touchB (gO l k) (gO l j) <;> simp [h2]
theorem cntW_zero {l : List OpD} {τ : List Nat} {j k : Nat} : cntW l τ j k = 0 ↔ ∀ i, i < k → i ∉ τ → touchB (gO l i) (gO l j) = false := by
  unfold cntW
  rw [List.length_eq_zero_iff, List.filter_eq_nil_iff]
  constructor
  · intro h i h1 h2
    simpa using h i (mem_alive.2 ⟨h1, h2⟩)
  · intro h i hi
    have := h i (mem_alive.1 hi).1 (mem_alive.1 hi).2
    simp [this]
theorem W_zero {l : List OpD} {τ : List Nat} {j : Nat} : W l τ j = 0 ↔ j ∉ τ ∧ ∀ i, i < j → i ∉ τ → touchB (gO l i) (gO l j) = false := by
  unfold W
  by_cases h : j ∈ τ
  · rw [if_pos (by simpa using h)]
    simp [h]
  · rw [if_neg (by simpa using h), ← cntW_zero]
    simp only [h, not_false_eq_true, true_and]
    omega
/-- What is gone was free when it went. -/
def Gone (l : List OpD) (τ : List Nat) : Prop := ∀ j, j ∈ τ → ∀ i, i < j → i ∉ τ → touchB (gO l i) (gO l j) = false
theorem Gone.cons {l : List OpD} {τ : List Nat} {b : Nat} (h : Gone l τ) (hb : W l τ b = 0) : Gone l (b :: τ) := by
  intro j hj i hi hn
  simp only [List.mem_cons, not_or] at hj hn
  rcases hj with rfl | hj
  · exact (W_zero.1 hb).2 i hi hn.2
  · exact h j hj i hi hn.2
theorem cntW_cons_le {l : List OpD} {τ : List Nat} {b j : Nat} : ∀ k, k ≤ b → cntW l (b :: τ) j k = cntW l τ j k
  | 0, _ => by simp [cntW, aliveL]
  | k + 1, h => by
    rw [cntW_succ, cntW_succ, cntW_cons_le k (by omega)]
    have : (b :: τ).contains k = τ.contains k := by
      rw [List.contains_cons]
      have : (k == b) = false := by simp; omega
      rw [this, Bool.false_or]
    rw [this]
theorem cntW_cons_gt {l : List OpD} {τ : List Nat} {b j : Nat} (hb : b ∉ τ) : ∀ k, b < k → cntW l τ j k = cntW l (b :: τ) j k + if touchB (gO l b) (gO l j) then 1 else 0
  | 0, h => by omega
  | k + 1, h => by
    rw [cntW_succ, cntW_succ]
    by_cases e : b = k
    · subst e
      rw [cntW_cons_le b (Nat.le_refl _)]
      have h1 : (b :: τ).contains b = true := by simp
      have h2 : τ.contains b = false := by simpa using hb
      rw [h1, h2]
      simp
    · rw [cntW_cons_gt hb k (by omega)]
      have : (b :: τ).contains k = τ.contains k := by
        rw [List.contains_cons]
        have : (k == b) = false := by simp; omega
        rw [this, Bool.false_or]
      rw [this]
      omega
/-- What becomes of what waits when one goes. -/
theorem W_cons {l : List OpD} {τ : List Nat} {b : Nat} (hg : Gone l τ) (hb : b ∉ τ) (j : Nat) : W l (b :: τ) j = if j = b then -1 else if b < j ∧ touchB (gO l b) (gO l j) = true then W l τ j - 1 else W l τ j := by
  unfold W
  by_cases h1 : j = b
  · subst h1; simp
  · rw [if_neg h1]
    have hc : (b :: τ).contains j = τ.contains j := by
      rw [List.contains_cons]
      have : (j == b) = false := by simp; omega
      rw [this, Bool.false_or]
    rw [hc]
    by_cases h2 : j ∈ τ
    · have h3 : τ.contains j = true := by simpa using h2
      rw [if_pos h3, if_pos h3, if_neg]
      rintro ⟨k1, k2⟩
      rw [hg j h2 b k1 hb] at k2
      cases k2
    · have h3 : ¬ τ.contains j = true := by simpa using h2
      rw [if_neg h3, if_neg h3]
      rcases Nat.lt_or_ge b j with h | h
      · have := cntW_cons_gt (l := l) (j := j) hb j h
        by_cases h4 : touchB (gO l b) (gO l j) = true
        · rw [if_pos ⟨h, h4⟩, this, if_pos h4]; omega
        · rw [if_neg (fun k => h4 k.2), this, if_neg h4]; omega
      · rw [if_neg (fun k => by omega), cntW_cons_le j (by omega)]
theorem alive_pw (n : Nat) (τ : List Nat) : (aliveL n τ).Pairwise (· < ·) := (List.pairwise_lt_range).filter _
theorem alive_lt {n : Nat} {τ : List Nat} {i j : Nat} (hj : j < (aliveL n τ).length) (h : i < j) : (aliveL n τ)[i] < (aliveL n τ)[j] := List.pairwise_iff_getElem.1 (alive_pw n τ) i j (by omega) hj h
theorem eraseIdx_map' {α β : Type} (f : α → β) : ∀ (l : List α) (k : Nat), (l.map f).eraseIdx k = (l.eraseIdx k).map f
  | [], k => by simp
  | x :: l, 0 => by simp
  | x :: l, k + 1 => by simp [eraseIdx_map' f l k]
def remL (l : List OpD) (n : Nat) (τ : List Nat) : List OpD := (aliveL n τ).map (gO l)
theorem rem_get {l : List OpD} {n k : Nat} {τ : List Nat} (hk : k < (aliveL n τ).length) : (remL l n τ).getD k default = gO l (aliveL n τ)[k] := by
  simp [remL, hk]
theorem rem_free {l : List OpD} {n k : Nat} {τ : List Nat} (hk : k < (aliveL n τ).length) : freeB (remL l n τ) k = true ↔ W l τ (aliveL n τ)[k] = 0 := by
  have hm := mem_alive.1 (List.getElem_mem hk)
  rw [freeB_iff (by simpa [remL] using hk), W_zero]
  constructor
  · intro h
    refine ⟨hm.2, fun i h1 h2 => ?_⟩
    obtain ⟨m, hm', e⟩ := List.getElem_of_mem (mem_alive.2 ⟨(show i < n by omega), h2⟩)
    have hmk : m < k := by
      rcases Nat.lt_trichotomy m k with h3 | h3 | h3
      · exact h3
      · subst h3; omega
      · have := alive_lt hm' h3; omega
    have := h m hmk
    rw [rem_get hm', rem_get hk, e] at this
    exact this
  · rintro ⟨h1, h2⟩ i hi
    rw [rem_get (by omega), rem_get hk]
    have hi' := mem_alive.1 (List.getElem_mem (show i < (aliveL n τ).length by omega))
    exact h2 _ (alive_lt hk hi) hi'.2
theorem alive_erase {n k : Nat} {τ : List Nat} (hk : k < (aliveL n τ).length) : (aliveL n τ).eraseIdx k = aliveL n ((aliveL n τ)[k] :: τ) := by
  have hnd : (aliveL n τ).Nodup := (alive_pw n τ).imp (fun h => by omega)
  have h1 : (aliveL n τ).eraseIdx k = (aliveL n τ).erase (aliveL n τ)[k] := by
    rw [List.erase_eq_eraseIdx_of_idxOf]
    exact hnd.idxOf_getElem k hk
  rw [h1, hnd.erase_eq_filter]
  generalize (aliveL n τ)[k] = b
  unfold aliveL
  rw [List.filter_filter]
  refine List.filter_congr fun x hx => ?_
  rw [List.contains_cons, Bool.not_or]
  cases h : x == b <;> simp_all
/-- One step of the one order, found by what waits. -/
theorem ord_step {l : List OpD} {τ : List Nat} {b m : Nat} (hq : QsPos l) (hb : b < l.length) (hb0 : W l τ b = 0) (hleast : ∀ j, j < l.length → W l τ j = 0 → lessB (gO l j) (gO l b) = false) :
    ordF (m + 1) (remL l l.length τ) = gO l b :: ordF m (remL l l.length (b :: τ)) := by
  have hbt := (W_zero.1 hb0).1
  obtain ⟨k, hk, e⟩ := List.getElem_of_mem (mem_alive.2 ⟨hb, hbt⟩)
  have hrl : (remL l l.length τ).length = (aliveL l.length τ).length := by simp [remL]
  have hbi : bestI (remL l l.length τ) = k := by
    refine best_only (fun j hj => ?_) ⟨by rw [hrl]; exact hk, (rem_free hk).2 (by rw [e]; exact hb0), fun j hj hf => ?_⟩
    · rw [hrl] at hj
      rw [rem_get hj]
      exact hq _ (mem_alive.1 (List.getElem_mem hj)).1
    · rw [hrl] at hj
      rw [rem_get hj, rem_get hk, e]
      exact hleast _ (mem_alive.1 (List.getElem_mem hj)).1 ((rem_free hj).1 hf)
  simp only [ordF]
  rw [hbi, rem_get hk, e]
  congr 2
  unfold remL
  rw [← e, ← alive_erase hk, eraseIdx_map']
theorem rem_nil (l : List OpD) : remL l l.length [] = l := by
  have : aliveL l.length [] = List.range l.length := by simp [aliveL]
  unfold remL
  rw [this]
  refine List.ext_getElem (by simp) fun i h1 h2 => ?_
  simp [gO, h2]
/-- There is one that may go. -/
theorem some_free {l : List OpD} {τ : List Nat} (h : 0 < (aliveL l.length τ).length) : ∃ b, b < l.length ∧ W l τ b = 0 := by
  refine ⟨(aliveL l.length τ)[0], (mem_alive.1 (List.getElem_mem h)).1, ?_⟩
  rw [← rem_free h]
  exact free_zero _
theorem alive_len {n : Nat} : ∀ {τ : List Nat}, τ.Nodup → (∀ j ∈ τ, j < n) → (aliveL n τ).length + τ.length = n := by
  intro τ
  induction τ with
  | nil => intro _ _; simp only [aliveL, List.contains_nil, Bool.not_false, List.length_nil, Nat.add_zero]; rw [List.filter_eq_self.2 (by simp), List.length_range]
  | cons b τ ih =>
    intro h1 h2
    have hb : b ∉ τ := (List.nodup_cons.1 h1).1
    have hk := ih (List.nodup_cons.1 h1).2 (fun j hj => h2 j (by simp [hj]))
    obtain ⟨k, hk2, e⟩ := List.getElem_of_mem (mem_alive.2 ⟨h2 b (by simp), hb⟩)
    have := alive_erase hk2
    rw [e] at this
    rw [← this, List.length_eraseIdx, if_pos hk2, List.length_cons]
    omega
end Go.Proofs.Ytmflheoafeenfaa
namespace Go.Proofs.Ytmflheoafeenfaa
open Go.Am
set_option maxRecDepth 4000
set_option maxHeartbeats 4000000
variable {E : Env} {L : Hp}
/-- The table of kinds. -/
def tableC : List AVal := match body { fns := fun _ => none, mode := fun _ => .open_, known := fun _ _ _ => none } 100 c_gate_table [] ⟨.nil, 0, 0⟩ with
  | some (.agg cs, _) => cs
  | _ => []
def tableM : Mem := match body { fns := fun _ => none, mode := fun _ => .open_, known := fun _ _ _ => none } 100 c_gate_table [] ⟨.nil, 0, 0⟩ with
  | some (_, m) => m
  | _ => ⟨.nil, 0, 0⟩
theorem table_run (E : Env) : ∃ m, body E 100 c_gate_table [] ⟨.nil, 0, 0⟩ = some (.agg tableC, m) := ⟨tableM, by kernel_rfl⟩
theorem tableC_len : tableC.length = 84 := by kernel_rfl
theorem tableC_flat : (AVal.agg tableC).flat = true := by kernel_rfl
theorem table_ok (hF : E.fns = fnsT) (hm : E.mode f_gate_table = .iso false) : CallO E f_gate_table [] L fun v L' => v = .agg tableC ∧ L' = L := by
  obtain ⟨m', h⟩ := table_run E
  refine ⟨fun m ho => (call_iso0 (R := fun v => v = .agg tableC) (vs := []) hm (fns_of hF n_gate_table) rfl ⟨100, _, m', h, tableC_flat, rfl⟩).mono ?_⟩
  rintro v m1 ⟨h1, rfl⟩
  exact ⟨L, ho, h1, rfl⟩
def isInt : Option AVal → Int → Bool
  | some (.sc (.int .i64 a)), n => a == n
  | _, _ => false
theorem isInt_eq {v : Option AVal} {n : Int} (h : isInt v n = true) : v = some (aint n) := by
  unfold isInt at h
  split at h
  · rename_i a
    have : a = n := by simpa using h
    rw [← this]; rfl
  · cases h
def rowC (k : Nat) : List AVal := if k < 1 ∨ 20 < k then [.sc (.string ⟨#[]⟩), aint 0, aint 0, aint 0] else (tableC.drop (k * 4)).take 4
def inverse (k : Int) : Int := if k < 1 ∨ 20 < k then 0 else if k = 5 ∨ k = 7 ∨ k = 9 ∨ k = 15 then k + 1 else if k = 6 ∨ k = 8 ∨ k = 10 ∨ k = 16 then k - 1 else k
theorem table_all : (List.range 21).all (fun k => k == 0 || (isInt ((rowC k)[1]?) (arity k) && isInt ((rowC k)[3]?) (inverse k))) = true := by kernel_rfl
/-- A kind's row, or none. -/
def RowK (k : Int) (r : List AVal) : Prop := r.length = 4 ∧ r[1]? = some (aint (arity k)) ∧ r[3]? = some (aint (inverse k))
theorem of_ok (hF : E.fns = fnsT) (hm : E.mode f_gate_of = .iso false) (hmt : E.mode f_gate_table = .iso false) {k : Int} : CallO E f_gate_of [aint k] L fun v L' => (∃ r, v = .agg r ∧ RowK k r) ∧ L' = L := by
  refine callO_iso0 (R := fun v => ∃ r, v = .agg r ∧ RowK k r) hm (fns_of hF n_gate_of) (vs_bare rfl vs_nil) ?_
  by_cases h1 : k < 1
  · refine bodyO_of (Nat.le_of_ble_eq_true rfl) ?_; generalize ht : argSlots _ 0 .nil = t; have h0 : t.get 0 = some _ := (by rw [← ht]; rfl); clear ht
    repeat (first | intro id | refine goq ?_)
    ((first | apply retO_r | apply retO_n); (focus (exact resq)))
    exact ⟨rfl, _, rfl, rfl, by simp [arity, h1, aint], by simp [inverse, h1, aint]⟩
  by_cases h2 : 20 < k
  · refine bodyO_of (Nat.le_of_ble_eq_true rfl) ?_; generalize ht : argSlots _ 0 .nil = t; have h0 : t.get 0 = some _ := (by rw [← ht]; rfl); clear ht
    repeat (first | intro id | refine goq ?_)
    ((first | apply retO_r | apply retO_n); (focus (exact resq)))
    exact ⟨rfl, _, rfl, rfl, by simp [arity, h2, aint], by simp [inverse, h2, aint]⟩
  obtain ⟨j, rfl⟩ : ∃ j : Nat, k = j := ⟨k.toNat, by omega⟩
  have hj := List.all_eq_true.1 table_all j (List.mem_range.2 (by omega))
  have h0 : (j == 0) = false := by simp; omega
  rw [h0, Bool.false_or, Bool.and_eq_true] at hj
  have e1 := isInt_eq hj.1
  have e2 := isInt_eq hj.2
  have hs : seg tableC (j * 4) 4 = some (rowC j) := by
    rw [seg, if_pos (by rw [tableC_len]; omega), rowC, if_neg (by omega)]
  have hl : (rowC j).length = 4 := by rw [rowC, if_neg (by omega)]; simp [tableC_len]; omega
  obtain ⟨a, b, c, d, hr⟩ : ∃ a b c d, rowC j = [a, b, c, d] := by
    match hq : rowC j, hl with
    | [a, b, c, d], _ => exact ⟨a, b, c, d, rfl⟩
  have hone : ∀ (i : Nat) (x : AVal), (rowC j)[i]? = some x → x.one = true := by
    intro i x hx
    have hm := List.mem_of_getElem? hx
    rw [rowC, if_neg (by omega)] at hm
    have hm2 := List.mem_of_mem_drop (List.mem_of_mem_take hm)
    have : tableC.all AVal.one = true := by kernel_rfl
    exact List.all_eq_true.1 this x hm2
  have hflat : (AVal.agg (rowC j)).flat = true := by
    have : tableC.all AVal.flat = true := by kernel_rfl
    have h4 : ∀ x ∈ rowC j, x.flat = true := by
      intro x hm
      rw [rowC, if_neg (by omega)] at hm
      exact List.all_eq_true.1 this x (List.mem_of_mem_drop (List.mem_of_mem_take hm))
    rw [hr] at h4 ⊢
    simp [AVal.flat, flatAll, h4]
  rw [hr] at hs e1 e2 hflat hone
  have o1 : a.one = true := hone 0 a rfl
  have o2 : b.one = true := hone 1 b rfl
  have o3 : c.one = true := hone 2 c rfl
  have o4 : d.one = true := hone 3 d rfl
  refine bodyO_of (Nat.le_of_ble_eq_true rfl) ?_; generalize ht : argSlots _ 0 .nil = t; have h0 : t.get 0 = some _ := (by rw [← ht]; rfl); clear ht
  repeat (first | intro id | refine goq ?_)
  refine gok ?_
  refine (table_ok hF hmt).mono ?_
  rintro v L' ⟨rfl, rfl⟩
  repeat (first | intro id | refine goq ?_)
  ((first | apply retO_r | apply retO_n); (focus (exact resq)))
  exact ⟨hflat, _, rfl, rfl, e1, e2⟩
theorem Arity_ok (hF : E.fns = fnsT) (hm : E.mode f_gate_Arity = .iso false) (hmo : E.mode f_gate_of = .iso false) (hmt : E.mode f_gate_table = .iso false) {k : Int} : CallO E f_gate_Arity [aint k] L fun v L' => v = aint (arity k) ∧ L' = L := by
  refine callO_iso0 hm (fns_of hF n_gate_Arity) (vs_bare rfl vs_nil) ?_
  refine bodyO_of (Nat.le_of_ble_eq_true rfl) ?_; generalize ht : argSlots _ 0 .nil = t; have h0 : t.get 0 = some _ := (by rw [← ht]; rfl); clear ht
  repeat (first | intro id | refine goq ?_)
  refine gok ?_
  refine (of_ok hF hmo hmt).mono ?_
  rintro v L' ⟨⟨r, rfl, -, hr, -⟩, rfl⟩
  repeat (first | intro id | refine goq ?_)
  ((first | apply retO_r | apply retO_n); (focus (exact resq)))
  exact ⟨rfl, rfl⟩
end Go.Proofs.Ytmflheoafeenfaa
namespace Go.Proofs.Ytmflheoafeenfaa
open Go.Am
set_option maxRecDepth 4000
set_option maxHeartbeats 4000000
variable {E : Env} {L : Hp}
theorem Qs_snoc {n : Int} {l : List Int} {k : Nat} (h : ∀ i, i < k → okAt n l i) (hk : okAt n l k) : ∀ i, i < k + 1 → okAt n l i := by
  intro i hi
  by_cases e : i = k
  · subst e; exact hk
  · exact h i (by omega)
theorem gcheck_loop (hF : E.fns = fnsT) (hmc : E.mode f_slices_Contains_int_int = .iso false) (hmi : E.mode f_slices_Index_int_int = .iso false) {v : AVal} {qs : List Int} {n : Int} (hq : SlI v qs) (hlt : qs.length < 2 ^ 62) :
    ∀ (d k : Nat) (t : Tr AVal), d + k = qs.length → t.get 1 = some v → t.get 2 = some (aint n) → t.get 17 = some v → t.get 18 = some (aint qs.length) → t.get 19 = some (aint k) → (∀ i, i < k → okAt n qs i) →
    WpO E (.loop c_gate_Check_l0) t L (fun ex t' L' => (ex = .exit 0 ∧ Qs n qs) ∨ (ex = .ret ∧ t'.get 6 = some (aint 61) ∧ ¬ Qs n qs)) := by
  intro d
  induction d with
  | zero =>
    intro k t hk h1 h2 h17 h18 h19 hok
    obtain rfl : k = qs.length := by omega
    refine wo_loop ?_
    repeat (first | intro id | refine goq ?_)
    exact .inl ⟨rfl, hok⟩
  | succ d ih =>
    intro k t hk h1 h2 h17 h18 h19 hok
    have hkl : k < qs.length := by omega
    have hat := okAt_iff (n := n) hkl
    have hbad : ¬ okAt n qs k → ¬ Qs n qs := fun h hh => h (hh k hkl)
    refine wo_loop ?_
    by_cases c1 : qs.getD k 0 < 0
    · repeat (first | intro id | refine goq ?_)
      exact .inr ⟨rfl, by exact slotq, hbad fun h => by have := hat.1 h; omega⟩
    by_cases c2 : n ≤ qs.getD k 0
    · repeat (first | intro id | refine goq ?_)
      exact .inr ⟨rfl, by exact slotq, hbad fun h => by have := hat.1 h; omega⟩
    repeat (first | intro id | refine goq ?_)
    refine gok ?_
    have hh := hiI_is hq (Nat.le_of_lt hkl)
    refine (contains_ok hF hmc hmi (vs_bare (bare_SlI hh) (vs_bare rfl vs_nil)) hh (by rw [List.length_take]; omega)).mono ?_
    rintro r L' ⟨rfl, rfl⟩
    by_cases c3 : qs.getD k 0 ∈ qs.take k
    · rw [decide_eq_true c3]
      repeat (first | intro id | refine goq ?_)
      exact .inr ⟨rfl, by exact slotq, hbad fun h => (hat.1 h).2.2 c3⟩
    · rw [decide_eq_false c3]
      repeat (first | intro id | refine goq ?_)
      exact ih (k + 1) _ (by omega) (by exact slotq) (by exact slotq) (by exact slotq) (by exact slotq) (by exact slotq) (Qs_snoc hok (hat.2 ⟨by omega, by omega, c3⟩))
theorem gCheck_ok (hF : E.fns = fnsT) (hm : E.mode f_gate_Check = .iso false) (hma : E.mode f_gate_Arity = .iso false) (hmo : E.mode f_gate_of = .iso false) (hmt : E.mode f_gate_table = .iso false) (hmc : E.mode f_slices_Contains_int_int = .iso false) (hmi : E.mode f_slices_Index_int_int = .iso false)
    {k n : Int} {v : AVal} {qs : List Int} (hq : SlI v qs) (hlt : qs.length < 2 ^ 62) : CallO E f_gate_Check [aint k, v, aint n] L fun r L' => (∃ e, r = aint e ∧ gateE k qs n e) ∧ L' = L := by
  refine callO_iso0 (R := fun r => ∃ e, r = aint e ∧ gateE k qs n e) hm (fns_of hF n_gate_Check) (vs_bare rfl (vs_bare (bare_SlI hq) (vs_bare rfl vs_nil))) ?_
  have hq1 := RowA.isOne hq
  refine bodyO_of (Nat.le_of_ble_eq_true rfl) ?_; generalize ht : argSlots _ 0 .nil = t; have h0 : t.get 0 = some _ := (by rw [← ht]; rfl); have h1 : t.get 1 = some _ := (by rw [← ht]; rfl); have h2 : t.get 2 = some _ := (by rw [← ht]; rfl); clear ht
  repeat (first | intro id | refine goq ?_)
  refine gok ?_
  refine (Arity_ok hF hma hmo hmt).mono ?_
  rintro r L' ⟨rfl, rfl⟩
  by_cases h0 : arity k = 0
  · repeat (first | intro id | refine goq ?_)
    ((first | apply retO_r | apply retO_n); (focus (exact resq)))
    exact ⟨rfl, 60, rfl, .inr (.inl ⟨rfl, h0⟩)⟩
  repeat (first | intro id | refine goq ?_)
  refine gok ?_
  refine (Arity_ok hF hma hmo hmt).mono ?_
  rintro r L' ⟨rfl, rfl⟩
  by_cases h1 : (qs.length : Int) = arity k
  · repeat (first | intro id | refine goq ?_)
    refine WpO.mono (gcheck_loop hF hmc hmi hq hlt qs.length 0 _ (by omega) (by exact slotq) (by exact slotq) (by exact slotq) (by exact slotq) (by exact slotq) (fun i hi => by omega)) ?_
    rintro ex t' L' (⟨rfl, hQ⟩ | ⟨rfl, g6, hQ⟩)
    · repeat (first | intro id | refine goq ?_)
      ((first | apply retO_r | apply retO_n); (focus (exact resq)))
      exact ⟨rfl, 0, rfl, .inl ⟨rfl, h0, h1, hQ⟩⟩
    · repeat (first | intro id | refine goq ?_)
      ((first | apply retO_r | apply retO_n); (focus (exact resq)))
      exact ⟨rfl, 61, rfl, .inr (.inr ⟨rfl, h0, fun h => hQ h.2⟩)⟩
  · repeat (first | intro id | refine goq ?_)
    ((first | apply retO_r | apply retO_n); (focus (exact resq)))
    exact ⟨rfl, 61, rfl, .inr (.inr ⟨rfl, h0, fun h => h1 h.1⟩)⟩

/-! The document's way -/
/-! Unlike numbers -/
end Go.Proofs.Ytmflheoafeenfaa
