/- Parts of the proof, joined by program: RwR3, RwP1, RwP2, RwO2. -/
import Derived.Test.YtmflheoafeenfaaGreatPa9
import Derived.Test.YtmflheoafeenfaaGreatPa8
set_option linter.unusedSimpArgs false
set_option linter.unusedVariables false
namespace Go.Proofs.YtmflheoafeenfaaGreat
open Go.Am
set_option maxRecDepth 4000
set_option maxHeartbeats 8000000
variable {E : Env} {L : Hp}
def partTo (l : List OpD) (o : OpD) : Nat → Int
  | 0 => -1
  | k + 1 => if touchB (l.getD k default) o = true then (k : Int) else partTo l o k
def partI (l : List OpD) (j : Nat) : Int := partTo l (l.getD j default) j
theorem partTo_neg {l : List OpD} {o : OpD} : ∀ {k : Nat}, partTo l o k < 0 ↔ ∀ i, i < k → touchB (l.getD i default) o = false
  | 0 => by simp [partTo]
  | k + 1 => by
    unfold partTo
    by_cases h : touchB (l.getD k default) o = true
    · rw [if_pos h]
      constructor
      · intro h2; omega
      · intro h2
        have := h2 k (by omega)
        rw [h] at this
        cases this
    · rw [if_neg h, partTo_neg]
      constructor
      · intro h2 i hi
        by_cases e : i = k
        · subst e; simpa using h
        · exact h2 i (by omega)
      · intro h2 i hi
        exact h2 i (by omega)
theorem partI_neg {l : List OpD} {j : Nat} (hj : j < l.length) : partI l j < 0 ↔ freeB l j = true := by rw [partI, partTo_neg, freeB_iff hj]
theorem rpartner_l0 (hF : E.fns = fnsT) (hmT : E.mode f_phasorref18_Touch = .iso false) (hmt : E.mode f_phasorref18_takes = .iso false) (hms : E.mode f_phasorref18_sets = .iso false) (hst : still E c_phasorref18_partner_r3 = true)
    {v : AVal} {cs : List AVal} {l : List OpD} {j : Nat} (hv : RowA v cs l.length) (hcs : OpsC cs l) (hj : j < l.length) (hlt : l.length < 2 ^ 62) :
    ∀ (k : Nat) (t : Tr AVal), k ≤ j → t.get 0 = some v → t.get 1 = some (aint j) → t.get 5 = some (aint ((k : Int) - 1)) → partI l j = partTo l (l.getD j default) k →
    WpO E (.loop c_phasorref18_partner_l0) t L (fun ex t' L' => ((ex = .exit 0 ∧ partI l j = -1) ∨ (ex = .ret ∧ t'.get 4 = some (aint (partI l j)))) ∧ L' = L) := by
  have hv1 := RowA.isOne hv
  intro k
  induction k with
  | zero =>
    intro t hk h0 h1 h5 hp
    refine wo_loop ?_
    repeat (first | intro id | refine goq ?_)
    exact ⟨.inl ⟨rfl, hp⟩, rfl⟩
  | succ k ih =>
    intro t hk h0 h1 h5 hp
    have e : (((k + 1 : Nat) : Int) - 1) = (k : Int) := by omega
    rw [e] at h5
    obtain ⟨q, hq, hqb, hlt6, hseg⟩ := hcs.getE (show k < l.length by omega)
    obtain ⟨p, hp', hpb, plt6, pseg⟩ := hcs.getE hj
    have hq1 := RowA.isOne hq
    have hp1 := RowA.isOne hp'
    have tt := rTouch_ok (L := L) hF hmT hmt hms hq hp' hqb hpb (vs_bare (bare_opV hq) (vs_bare (bare_opV hp') vs_nil))
    unfold opV opCells at tt
    unfold opCells at hseg pseg
    unfold partTo at hp
    refine wo_loop ?_
    repeat (first | intro id | refine goq ?_)
    refine gok ?_
    refine tt.mono ?_
    rintro r L' ⟨rfl, rfl⟩
    cases ht : touchB (l.getD k default) (l.getD j default) with
    | true =>
      rw [if_pos ht] at hp
      repeat (first | intro id | refine goq ?_)
      exact ⟨.inr ⟨rfl, by rw [hp]; exact slotq⟩, rfl⟩
    | false =>
      rw [if_neg (by rw [ht]; simp)] at hp
      repeat (first | intro id | refine goq ?_)
      refine ih _ (by omega) ?_ ?_ ?_ hp
      · exact slotq
      · exact slotq
      · exact slotq
theorem rpartner_ok (hF : E.fns = fnsT) (hm : E.mode f_phasorref18_partner = .iso false) (hmT : E.mode f_phasorref18_Touch = .iso false) (hmt : E.mode f_phasorref18_takes = .iso false) (hms : E.mode f_phasorref18_sets = .iso false) (hst : still E c_phasorref18_partner_r3 = true)
    {s v : AVal} {l : List OpD} {j : Nat} (hw : ViewsO L [s, aint j] [v, aint j]) (hv : OpsA v l) (hj : j < l.length) :
    CallO E f_phasorref18_partner [s, aint j] L fun r L' => r = aint (partI l j) ∧ L' = L := by
  refine ai_ex (callO_iso0 (R := fun r => ∃ x, r = aint x ∧ x = partI l j) hm (fns_of hF n_phasorref18_partner) hw ?_)
  obtain ⟨cs, hr, hcs, hlt⟩ := hv
  have hv1 := RowA.isOne hr
  refine bodyO_of (Nat.le_of_ble_eq_true rfl) ?_; generalize ht : argSlots _ 0 .nil = t; have h0 : t.get 0 = some _ := (by rw [← ht]; rfl); have h1 : t.get 1 = some _ := (by rw [← ht]; rfl); clear ht
  repeat (first | intro id | refine goq ?_)
  refine WpO.mono (rpartner_l0 hF hmT hmt hms hst hr hcs hj hlt j _ (Nat.le_refl _) ?_ ?_ ?_ rfl) ?_
  · exact slotq
  · exact slotq
  · exact slotq
  rintro ex t1 L' ⟨⟨rfl, hp⟩ | ⟨rfl, h4⟩, rfl⟩
  · repeat (first | intro id | refine goq ?_)
    ((first | apply retO_r | apply retO_n); (focus (exact resq)))
    exact ⟨rfl, _, rfl, hp.symm⟩
  · repeat (first | intro id | refine goq ?_)
    ((first | apply retO_r | apply retO_n); (focus (exact resq)))
    exact ⟨rfl, _, rfl, rfl⟩
def cmpP : List Int → List Int → Int
  | a :: as, b :: bs => orI (cmpI a b) (cmpP as bs)
  | _, _ => 0
theorem cmpL_eq : ∀ as bs : List Int, cmpL as bs = orI (cmpP as bs) (cmpI as.length bs.length)
  | [], [] => by simp [cmpL, cmpP, orI, cmpI]
  | [], _ :: bs => by simp [cmpL, cmpP, orI, cmpI]
  | _ :: as, [] => by simp [cmpL, cmpP, orI, cmpI]; omega
  | a :: as, b :: bs => by
    simp only [cmpL, cmpP, cmpL_eq as bs, List.length_cons]
    have : cmpI ((as.length + 1 : Nat) : Int) ((bs.length + 1 : Nat) : Int) = cmpI as.length bs.length := by unfold cmpI; simp only [Int.natCast_add]; split <;> split <;> (try split) <;> (try split) <;> omega
    rw [this]
    unfold orI
    split <;> simp [*]
theorem cmpP_step {as bs : List Int} {k : Nat} (ha : k < as.length) (hb : k < bs.length) : cmpP (as.drop k) (bs.drop k) = orI (cmpI (as.getD k 0) (bs.getD k 0)) (cmpP (as.drop (k + 1)) (bs.drop (k + 1))) := by
  rw [List.drop_eq_getElem_cons ha, List.drop_eq_getElem_cons hb, cmpP]
  simp [ha, hb]
theorem cmpP_end {as bs : List Int} {k : Nat} (h : as.length ≤ k ∨ bs.length ≤ k) : cmpP (as.drop k) (bs.drop k) = 0 := by
  rcases h with h | h
  · rw [List.drop_of_length_le h]
    cases bs.drop k <;> rfl
  · rw [List.drop_of_length_le h]
    cases as.drop k <;> rfl
theorem rless_l0 (hF : E.fns = fnsT) (hmc : E.mode f_phasorref18_compare = .iso false) (hst : still E c_phasorref18_less_r6 = true) {i2 i3 : Nat} {q p a0 a1 a3 a4 a5 b0 b1 b3 b4 b5 : AVal} {qs ps : List Int} (hq : SlI q qs) (hp : SlI p ps) (hpl : ps.length < 2 ^ 62) (hql : qs.length < 2 ^ 62) :
    ∀ (d k : Nat) (t : Tr AVal) (c : Int), d + k = qs.length → t.get 2 = some (.ptr i2 0) → t.get 3 = some (.ptr i3 0) → t.get 5 = some (aint c) → t.get 6 = some (aint k) →
    WpO E (.loop c_phasorref18_less_l0) t ((i3, [b0, b1, p, b3, b4, b5]) :: (i2, [a0, a1, q, a3, a4, a5]) :: L) (fun ex t' L' => ex = .exit 0 ∧ Keep [2, 3] t t' ∧ t'.get 5 = some (aint (orI c (cmpP (qs.drop k) (ps.drop k)))) ∧ L' = (i3, [b0, b1, p, b3, b4, b5]) :: (i2, [a0, a1, q, a3, a4, a5]) :: L) := by
  have hq1 := RowA.isOne hq
  have hp1 := RowA.isOne hp
  intro d
  induction d with
  | zero =>
    intro k t c hk h2 h3 h5 h6
    refine wo_loop ?_
    rw [cmpP_end (.inl (by omega))]
    have e : orI c 0 = c := by unfold orI; split <;> omega
    rw [e]
    by_cases c0 : c = 0
    · repeat (first | intro id | refine goq ?_)
      exact ⟨rfl, by exact keepq, by exact slotq, rfl⟩
    · repeat (first | intro id | refine goq ?_)
      exact ⟨rfl, by exact keepq, by exact slotq, rfl⟩
  | succ d ih =>
    intro k t c hk h2 h3 h5 h6
    refine wo_loop ?_
    by_cases c0 : c = 0
    · by_cases hb : k < ps.length
      · rw [cmpP_step (by omega) hb]
        subst c0
        repeat (first | intro id | refine goq ?_)
        refine gok ?_
        refine (rcompare_ok hF hmc _ _).mono ?_
        rintro r L' ⟨rfl, rfl⟩
        repeat (first | intro id | refine goq ?_)
        refine WpO.mono (ih (k + 1) _ (cmpI (qs.getD k 0) (ps.getD k 0)) (by omega) ?_ ?_ ?_ ?_) ?_
        · exact slotq
        · exact slotq
        · exact slotq
        · exact slotq
        · rintro ex t' L' ⟨e1, e2, e3, e4⟩
          exact ⟨e1, Keep.trans (by exact keepq) e2, by rw [e3]; rfl, e4⟩
      · rw [cmpP_end (.inr (by omega))]
        have e : orI c 0 = c := by unfold orI; split <;> omega
        rw [e]
        repeat (first | intro id | refine goq ?_)
        exact ⟨rfl, by exact keepq, by exact slotq, rfl⟩
    · have e : orI c (cmpP (qs.drop k) (ps.drop k)) = c := by unfold orI; rw [if_neg c0]
      rw [e]
      repeat (first | intro id | refine goq ?_)
      exact ⟨rfl, by exact keepq, by exact slotq, rfl⟩
theorem rless_ok (hF : E.fns = fnsT) (hm : E.mode f_phasorref18_less = .iso false) (hmc : E.mode f_phasorref18_compare = .iso false) (hst : still E c_phasorref18_less_r6 = true) {q p : AVal} {a b : OpD} {args : List AVal} (hq : SlI q a.qs) (hp : SlI p b.qs) (hql : a.qs.length < 2 ^ 62) (hpl : b.qs.length < 2 ^ 62) (hv : ViewsO L args [opV q a, opV p b]) :
    CallO E f_phasorref18_less args L fun r L' => r = abool (lessB a b) ∧ L' = L := by
  refine ab_ex (callO_iso0 (R := fun r => ∃ x, r = abool x ∧ x = lessB a b) hm (fns_of hF n_phasorref18_less) hv ?_)
  have hq1 := RowA.isOne hq
  have hp1 := RowA.isOne hp
  have cc := fun (M : Hp) (x y : Int) => rcompare_ok (L := M) hF hmc x y
  unfold opV opCells
  refine bodyO_of (Nat.le_of_ble_eq_true rfl) ?_; generalize ht : argSlots _ 0 .nil = t; have h0 : t.get 0 = some _ := (by rw [← ht]; rfl); have h1 : t.get 1 = some _ := (by rw [← ht]; rfl); clear ht
  repeat (first | intro id | refine goq ?_)
  rename_i i2
  refine gok ?_
  refine (cc _ _ _).mono ?_
  rintro r L' ⟨rfl, rfl⟩
  repeat (first | intro id | refine goq ?_)
  refine WpO.mono (Q := fun ex t' L' => ex = .normal ∧ t'.get 2 = some (.ptr i2 0) ∧ t'.get 3 = some (.ptr id 0) ∧ t'.get 5 = some (aint (orI (cmpI a.kind b.kind) (cmpI a.gate b.gate))) ∧ L' = [(id, [aint b.kind, aint b.gate, p, aint b.bit, aint b.ifc, aint b.whn]), (i2, [aint a.kind, aint a.gate, q, aint a.bit, aint a.ifc, aint a.whn])]) ?_ ?_
  · by_cases c0 : cmpI a.kind b.kind = 0
    · have e : orI (cmpI a.kind b.kind) (cmpI a.gate b.gate) = cmpI a.gate b.gate := by unfold orI; rw [if_pos c0]
      rw [e, decide_eq_true c0]
      repeat (first | intro id | refine goq ?_)
      refine gok ?_
      refine (cc _ _ _).mono ?_
      rintro r L' ⟨rfl, rfl⟩
      repeat (first | intro id | refine goq ?_)
      exact ⟨rfl, by exact slotq, by exact slotq, by exact slotq, rfl⟩
    · have e : orI (cmpI a.kind b.kind) (cmpI a.gate b.gate) = cmpI a.kind b.kind := by unfold orI; rw [if_neg c0]
      rw [e, decide_eq_false c0]
      repeat (first | intro id | refine goq ?_)
      exact ⟨rfl, by exact slotq, by exact slotq, by exact slotq, rfl⟩
  rintro ex t1 L' ⟨rfl, g2, g3, g5, rfl⟩
  refine seqO.n ?_
  generalize hc1 : orI (cmpI a.kind b.kind) (cmpI a.gate b.gate) = c1 at *
  repeat (first | intro id | refine goq ?_)
  refine WpO.mono (rless_l0 (L := []) hF hmc hst hq hp hpl hql a.qs.length 0 _ c1 (by omega) ?_ ?_ ?_ ?_) ?_
  · exact slotq
  · exact slotq
  · exact slotq
  · exact slotq
  rintro ex t2 L' ⟨rfl, hK, k5, rfl⟩
  have k2 : t2.get 2 = some (.ptr i2 0) := (hK.ex 2 rfl).trans (by exact slotq)
  have k3 : t2.get 3 = some (.ptr id 0) := (hK.ex 3 rfl).trans (by exact slotq)
  clear hK
  simp only [List.drop_zero] at k5
  generalize hc2 : orI c1 (cmpP a.qs b.qs) = c2 at *
  refine blkO.x (seqO.n ?_)
  repeat (first | intro id | refine goq ?_)
  refine WpO.mono (Q := fun ex t' L' => ex = .normal ∧ t'.get 2 = some (.ptr i2 0) ∧ t'.get 3 = some (.ptr id 0) ∧ t'.get 5 = some (aint (orI c2 (cmpI a.qs.length b.qs.length))) ∧ L' = [(id, [aint b.kind, aint b.gate, p, aint b.bit, aint b.ifc, aint b.whn]), (i2, [aint a.kind, aint a.gate, q, aint a.bit, aint a.ifc, aint a.whn])]) ?_ ?_
  · by_cases c0 : c2 = 0
    · have e : orI c2 (cmpI a.qs.length b.qs.length) = cmpI a.qs.length b.qs.length := by unfold orI; rw [if_pos c0]
      rw [e, decide_eq_true c0]
      repeat (first | intro id | refine goq ?_)
      refine gok ?_
      refine (cc _ _ _).mono ?_
      rintro r L' ⟨rfl, rfl⟩
      repeat (first | intro id | refine goq ?_)
      exact ⟨rfl, by exact slotq, by exact slotq, by exact slotq, rfl⟩
    · have e : orI c2 (cmpI a.qs.length b.qs.length) = c2 := by unfold orI; rw [if_neg c0]
      rw [e, decide_eq_false c0]
      repeat (first | intro id | refine goq ?_)
      exact ⟨rfl, by exact slotq, by exact slotq, by exact slotq, rfl⟩
  rintro ex t3 L' ⟨rfl, m2, m3, m5, rfl⟩
  refine seqO.n ?_
  generalize hc3 : orI c2 (cmpI a.qs.length b.qs.length) = c3 at *
  repeat (first | intro id | refine goq ?_)
  refine WpO.mono (Q := fun ex t' L' => ex = .normal ∧ t'.get 2 = some (.ptr i2 0) ∧ t'.get 3 = some (.ptr id 0) ∧ t'.get 5 = some (aint (orI c3 (cmpI a.bit b.bit))) ∧ L' = [(id, [aint b.kind, aint b.gate, p, aint b.bit, aint b.ifc, aint b.whn]), (i2, [aint a.kind, aint a.gate, q, aint a.bit, aint a.ifc, aint a.whn])]) ?_ ?_
  · by_cases c0 : c3 = 0
    · have e : orI c3 (cmpI a.bit b.bit) = cmpI a.bit b.bit := by unfold orI; rw [if_pos c0]
      rw [e, decide_eq_true c0]
      repeat (first | intro id | refine goq ?_)
      refine gok ?_
      refine (cc _ _ _).mono ?_
      rintro r L' ⟨rfl, rfl⟩
      repeat (first | intro id | refine goq ?_)
      exact ⟨rfl, by exact slotq, by exact slotq, by exact slotq, rfl⟩
    · have e : orI c3 (cmpI a.bit b.bit) = c3 := by unfold orI; rw [if_neg c0]
      rw [e, decide_eq_false c0]
      repeat (first | intro id | refine goq ?_)
      exact ⟨rfl, by exact slotq, by exact slotq, by exact slotq, rfl⟩
  rintro ex t4 L' ⟨rfl, n2, n3, n5, rfl⟩
  refine seqO.n ?_
  generalize hc4 : orI c3 (cmpI a.bit b.bit) = c4 at *
  repeat (first | intro id | refine goq ?_)
  refine WpO.mono (Q := fun ex t' L' => ex = .normal ∧ t'.get 2 = some (.ptr i2 0) ∧ t'.get 3 = some (.ptr id 0) ∧ t'.get 5 = some (aint (orI c4 (cmpI a.ifc b.ifc))) ∧ L' = [(id, [aint b.kind, aint b.gate, p, aint b.bit, aint b.ifc, aint b.whn]), (i2, [aint a.kind, aint a.gate, q, aint a.bit, aint a.ifc, aint a.whn])]) ?_ ?_
  · by_cases c0 : c4 = 0
    · have e : orI c4 (cmpI a.ifc b.ifc) = cmpI a.ifc b.ifc := by unfold orI; rw [if_pos c0]
      rw [e, decide_eq_true c0]
      repeat (first | intro id | refine goq ?_)
      refine gok ?_
      refine (cc _ _ _).mono ?_
      rintro r L' ⟨rfl, rfl⟩
      repeat (first | intro id | refine goq ?_)
      exact ⟨rfl, by exact slotq, by exact slotq, by exact slotq, rfl⟩
    · have e : orI c4 (cmpI a.ifc b.ifc) = c4 := by unfold orI; rw [if_neg c0]
      rw [e, decide_eq_false c0]
      repeat (first | intro id | refine goq ?_)
      exact ⟨rfl, by exact slotq, by exact slotq, by exact slotq, rfl⟩
  rintro ex t5 L' ⟨rfl, o2, o3, o5, rfl⟩
  refine seqO.n ?_
  generalize hc5 : orI c4 (cmpI a.ifc b.ifc) = c5 at *
  have hO : cmpO a b = orI c5 (cmpI a.whn b.whn) := by
    have h : ∀ x y z : Int, orI (orI x y) z = orI x (orI y z) := by
      intro x y z
      unfold orI
      split <;> simp_all
    unfold cmpO
    rw [cmpL_eq, ← hc5, ← hc4, ← hc3, ← hc2, ← hc1]
    simp only [h]
  have key : lessB a b = (decide (c5 < 0) || (decide (c5 = 0) && decide (a.whn < b.whn))) := by
    unfold lessB
    rw [hO]
    unfold orI cmpI
    by_cases h1 : c5 = 0
    · rw [if_pos h1]
      by_cases h2 : a.whn < b.whn
      · simp [h1, h2]
      · rw [if_neg h2]
        simp only [h1, h2]
        split <;> simp
    · rw [if_neg h1]
      simp [h1]
  rw [key]
  by_cases k1 : c5 < 0
  · repeat (first | intro id | refine goq ?_)
    ((first | apply retO_r | apply retO_n); (focus (exact resq)))
    exact ⟨rfl, _, rfl, by simp [k1]⟩
  · by_cases k2 : c5 = 0
    · by_cases k3 : a.whn < b.whn
      · repeat (first | intro id | refine goq ?_)
        ((first | apply retO_r | apply retO_n); (focus (exact resq)))
        exact ⟨rfl, _, rfl, by simp [k2, k3]⟩
      · repeat (first | intro id | refine goq ?_)
        ((first | apply retO_r | apply retO_n); (focus (exact resq)))
        exact ⟨rfl, _, rfl, by simp [k2, k3]⟩
    · repeat (first | intro id | refine goq ?_)
      ((first | apply retO_r | apply retO_n); (focus (exact resq)))
      exact ⟨rfl, _, rfl, by simp [k1, k2]⟩
end Go.Proofs.YtmflheoafeenfaaGreat
namespace Go.Proofs.YtmflheoafeenfaaGreat
open Go.Am
set_option maxRecDepth 4000
set_option maxHeartbeats 8000000
variable {E : Env} {L : Hp}
theorem Touch1_ok (hF : E.fns = fnsT) (hm : E.mode f_rewrite_Touch_1 = .iso false) (hmc : E.mode f_slices_Contains_int_int = .iso false) (hmi : E.mode f_slices_Index_int_int = .iso false) {p : AVal} {b : OpD} {x : Int} (hp : SlI p b.qs) (hpl : b.qs.length < 2 ^ 62) :
    CallO E f_rewrite_Touch_1 ([aint x] ++ [.ro (opCells p b)]) L fun r L' => r = abool (b.qs.contains x) ∧ L' = L := by
  have hp1 := RowA.isOne hp
  refine callO_iso0 (R := fun r => r = abool (b.qs.contains x)) hm (fns_of hF n_rewrite_Touch_1) (vs_bare rfl (vs_bare (by simp [opCells, AVal.bare, bareAll, aint, bare_SlI hp]) vs_nil)) ?_
  unfold opCells
  refine bodyO_of (Nat.le_of_ble_eq_true rfl) ?_; generalize ht : argSlots _ 0 .nil = t; have h0 : t.get 0 = some _ := (by rw [← ht]; rfl); have h1 : t.get 1 = some _ := (by rw [← ht]; rfl); clear ht
  repeat (first | intro id | refine goq ?_)
  refine gok ?_
  refine (contains_ok hF hmc hmi (vs_bare (bare_SlI hp) (vs_bare rfl vs_nil)) hp hpl).mono ?_
  rintro r L' ⟨rfl, rfl⟩
  repeat (first | intro id | refine goq ?_)
  ((first | apply retO_r | apply retO_n); (focus (exact resq)))
  refine ⟨rfl, ?_⟩
  have : decide (x ∈ b.qs) = b.qs.contains x := by rw [Bool.eq_iff_iff]; simp
  rw [← this]
  rfl
theorem Touch_ok (hF : E.fns = fnsT) (hm : E.mode f_rewrite_Touch = .iso false) (hma : E.mode f_rewrite_asks = .iso false) (hm1 : E.mode f_rewrite_Touch_1 = .iso false) (hm2 : E.mode f_rewrite_Touch_2 = .iso false) (hmc : E.mode f_slices_Contains_int_int = .iso false) (hmi : E.mode f_slices_Index_int_int = .iso false) (hmcf : E.mode f_slices_ContainsFunc_int_int = .iso false) (hmif : E.mode f_slices_IndexFunc_int_int = .iso false)
    {q p : AVal} {a b : OpD} {args : List AVal} (hq : SlI q a.qs) (hp : SlI p b.qs) (hql : a.qs.length < 2 ^ 62) (hpl : b.qs.length < 2 ^ 62) (hv : ViewsO L args [opV q a, opV p b]) :
    CallO E f_rewrite_Touch args L fun r L' => r = abool (touchB a b) ∧ L' = L := by
  refine ab_ex (callO_iso0 (R := fun r => ∃ x, r = abool x ∧ x = touchB a b) hm (fns_of hF n_rewrite_Touch) hv ?_)
  have hq1 := RowA.isOne hq
  have hp1 := RowA.isOne hp
  have vab : ∀ M, ViewsO M [opV q a, opV p b] [opV q a, opV p b] := fun M => vs_bare (bare_opV hq) (vs_bare (bare_opV hp) vs_nil)
  have vba : ∀ M, ViewsO M [opV p b, opV q a] [opV p b, opV q a] := fun M => vs_bare (bare_opV hp) (vs_bare (bare_opV hq) vs_nil)
  have ta := fun M => asks_ok (L := M) hF hma hq (vs_bare (bare_opV hq) vs_nil)
  have tb := fun M => asks_ok (L := M) hF hma hp (vs_bare (bare_opV hp) vs_nil)
  have sab := fun M => sets2_ok (L := M) hF hm2 hq hp (vab M)
  have sba := fun M => sets2_ok (L := M) hF hm2 hp hq (vba M)
  have cf : ∀ (M : Hp) (i : Nat), In i (opCells p b) M → CallO E f_slices_ContainsFunc_int_int [q, .fn (.func f_rewrite_Touch_1) [] [.ptr i 0]] M fun r L' => r = abool (meetB a b) ∧ L' = M := fun M i hi =>
    containsP_ok (p := fun x => b.qs.contains x) hF hmcf hmif (vs_bare (bare_SlI hq) (vs_view rfl (vo_fn vl_nil (vl_cons (vo_ptr hi (by simp) (vl_cons vo_sc (vl_cons vo_sc (vl_cons (vo_bareI hp) (vl_cons vo_sc (vl_cons vo_sc (vl_cons vo_sc vl_nil))))))) vl_nil)) vs_nil)) (by simp [opCells, AVal.bare, bareAll, aint, bare_SlI hp]) hq hql (fun j hj => Touch1_ok hF hm1 hmc hmi hp hpl)
  unfold opV at ta tb sab sba ⊢
  unfold opCells at ta tb sab sba cf ⊢
  refine bodyO_of (Nat.le_of_ble_eq_true rfl) ?_; generalize ht : argSlots _ 0 .nil = t; have h0 : t.get 0 = some _ := (by rw [← ht]; rfl); have h1 : t.get 1 = some _ := (by rw [← ht]; rfl); clear ht
  repeat (first | intro id | refine goq ?_)
  refine gok ?_
  refine (ta _).mono ?_
  rintro v L' ⟨rfl, rfl⟩
  cases e1 : takesB a with
  | false =>
    have e2 : True := trivial
    repeat (first | intro id | refine goq ?_)
    refine gok ?_
    refine (cf _ _ (by exact inq)).mono ?_
    rintro v L' ⟨rfl, rfl⟩
    cases e3 : meetB a b with
    | true =>
      repeat (first | intro id | refine goq ?_)
      ((first | apply retO_r | apply retO_n); (focus (exact resq)))
      exact ⟨rfl, true, rfl, by simp [touchB, e3]⟩
    | false =>
      repeat (first | intro id | refine goq ?_)
      refine gok ?_
      refine (sab _).mono ?_
      rintro v L' ⟨rfl, rfl⟩
      cases e4 : setsB a b with
      | true =>
        repeat (first | intro id | refine goq ?_)
        ((first | apply retO_r | apply retO_n); (focus (exact resq)))
        exact ⟨rfl, true, rfl, by simp [touchB, e4]⟩
      | false =>
        repeat (first | intro id | refine goq ?_)
        refine gok ?_
        refine (sba _).mono ?_
        rintro v L' ⟨rfl, rfl⟩
        repeat (first | intro id | refine goq ?_)
        ((first | apply retO_r | apply retO_n); (focus (exact resq)))
        exact ⟨rfl, _, rfl, by simp [touchB, e1, e2, e3, e4]⟩
  | true =>
    repeat (first | intro id | refine goq ?_)
    refine gok ?_
    refine (tb _).mono ?_
    rintro v L' ⟨rfl, rfl⟩
    cases e2 : takesB b with
    | true =>
      repeat (first | intro id | refine goq ?_)
      ((first | apply retO_r | apply retO_n); (focus (exact resq)))
      exact ⟨rfl, true, rfl, by simp [touchB, e1, e2]⟩
    | false =>
      repeat (first | intro id | refine goq ?_)
      refine gok ?_
      refine (cf _ _ (by exact inq)).mono ?_
      rintro v L' ⟨rfl, rfl⟩
      cases e3 : meetB a b with
      | true =>
        repeat (first | intro id | refine goq ?_)
        ((first | apply retO_r | apply retO_n); (focus (exact resq)))
        exact ⟨rfl, true, rfl, by simp [touchB, e3]⟩
      | false =>
        repeat (first | intro id | refine goq ?_)
        refine gok ?_
        refine (sab _).mono ?_
        rintro v L' ⟨rfl, rfl⟩
        cases e4 : setsB a b with
        | true =>
          repeat (first | intro id | refine goq ?_)
          ((first | apply retO_r | apply retO_n); (focus (exact resq)))
          exact ⟨rfl, true, rfl, by simp [touchB, e4]⟩
        | false =>
          repeat (first | intro id | refine goq ?_)
          refine gok ?_
          refine (sba _).mono ?_
          rintro v L' ⟨rfl, rfl⟩
          repeat (first | intro id | refine goq ?_)
          ((first | apply retO_r | apply retO_n); (focus (exact resq)))
          exact ⟨rfl, _, rfl, by simp [touchB, e1, e2, e3, e4]⟩
end Go.Proofs.YtmflheoafeenfaaGreat
namespace Go.Proofs.YtmflheoafeenfaaGreat
open Go.Am
set_option maxRecDepth 4000
set_option maxHeartbeats 8000000
variable {E : Env} {L : Hp}
theorem nan_int (hF : E.fns = fnsT) (hm : E.mode f_cmp_isNaN_int = .iso false) (a : Int) : CallO E f_cmp_isNaN_int [aint a] L fun r L' => r = abool false ∧ L' = L := by
  refine callO_iso0 (R := fun r => r = abool false) hm (fns_of hF n_cmp_isNaN_int) (vs_bare rfl vs_nil) ?_
  refine bodyO_of (Nat.le_of_ble_eq_true rfl) ?_; generalize ht : argSlots _ 0 .nil = t; have h0 : t.get 0 = some _ := (by rw [← ht]; rfl); clear ht
  repeat (first | intro id | refine goq ?_)
  ((first | apply retO_r | apply retO_n); (focus (exact resq)))
  exact ⟨rfl, by simp [resultV, abool]⟩
theorem cmp_int (hF : E.fns = fnsT) (hm : E.mode f_cmp_Compare_int = .iso false) (hmn : E.mode f_cmp_isNaN_int = .iso false) (a b : Int) : CallO E f_cmp_Compare_int [aint a, aint b] L fun r L' => r = aint (cmpI a b) ∧ L' = L := by
  refine ai_ex (callO_iso0 (R := fun r => ∃ x, r = aint x ∧ x = cmpI a b) hm (fns_of hF n_cmp_Compare_int) (vs_bare rfl (vs_bare rfl vs_nil)) ?_)
  refine bodyO_of (Nat.le_of_ble_eq_true rfl) ?_; generalize ht : argSlots _ 0 .nil = t; have h0 : t.get 0 = some _ := (by rw [← ht]; rfl); have h1 : t.get 1 = some _ := (by rw [← ht]; rfl); clear ht
  repeat (first | intro id | refine goq ?_)
  refine gok ?_
  refine (nan_int hF hmn _).mono ?_
  rintro r L' ⟨rfl, rfl⟩
  repeat (first | intro id | refine goq ?_)
  refine gok ?_
  refine (nan_int hF hmn _).mono ?_
  rintro r L' ⟨rfl, rfl⟩
  repeat' (first | intro id | refine goq ?_ | (refine oo_guard (by exact slotq) (fun hc => ?_) (fun hc => ?_) <;> (fail_if_success (exact absurd hc (by decide))) <;> rw [hc] <;> (try simp only [decide_eq_true_eq, decide_eq_false_iff_not, ne_eq, Decidable.not_not] at hc)) | (refine wo_cond_if (by exact slotq) (fun hc => ?_) (fun hc => ?_) <;> (try simp only [decide_eq_true_eq, decide_eq_false_iff_not, ne_eq, Decidable.not_not] at hc)) | ((first | apply retO_r | apply retO_n); (focus (exact resq))))
  all_goals (refine ⟨rfl, _, rfl, ?_⟩; unfold cmpI; grind)
theorem nan_api_OpKind (hF : E.fns = fnsT) (hm : E.mode f_cmp_isNaN_api_OpKind = .iso false) (a : Int) : CallO E f_cmp_isNaN_api_OpKind [aint a] L fun r L' => r = abool false ∧ L' = L := by
  refine callO_iso0 (R := fun r => r = abool false) hm (fns_of hF n_cmp_isNaN_api_OpKind) (vs_bare rfl vs_nil) ?_
  refine bodyO_of (Nat.le_of_ble_eq_true rfl) ?_; generalize ht : argSlots _ 0 .nil = t; have h0 : t.get 0 = some _ := (by rw [← ht]; rfl); clear ht
  repeat (first | intro id | refine goq ?_)
  ((first | apply retO_r | apply retO_n); (focus (exact resq)))
  exact ⟨rfl, by simp [resultV, abool]⟩
theorem cmp_api_OpKind (hF : E.fns = fnsT) (hm : E.mode f_cmp_Compare_api_OpKind = .iso false) (hmn : E.mode f_cmp_isNaN_api_OpKind = .iso false) (a b : Int) : CallO E f_cmp_Compare_api_OpKind [aint a, aint b] L fun r L' => r = aint (cmpI a b) ∧ L' = L := by
  refine ai_ex (callO_iso0 (R := fun r => ∃ x, r = aint x ∧ x = cmpI a b) hm (fns_of hF n_cmp_Compare_api_OpKind) (vs_bare rfl (vs_bare rfl vs_nil)) ?_)
  refine bodyO_of (Nat.le_of_ble_eq_true rfl) ?_; generalize ht : argSlots _ 0 .nil = t; have h0 : t.get 0 = some _ := (by rw [← ht]; rfl); have h1 : t.get 1 = some _ := (by rw [← ht]; rfl); clear ht
  repeat (first | intro id | refine goq ?_)
  refine gok ?_
  refine (nan_api_OpKind hF hmn _).mono ?_
  rintro r L' ⟨rfl, rfl⟩
  repeat (first | intro id | refine goq ?_)
  refine gok ?_
  refine (nan_api_OpKind hF hmn _).mono ?_
  rintro r L' ⟨rfl, rfl⟩
  repeat' (first | intro id | refine goq ?_ | (refine oo_guard (by exact slotq) (fun hc => ?_) (fun hc => ?_) <;> (fail_if_success (exact absurd hc (by decide))) <;> rw [hc] <;> (try simp only [decide_eq_true_eq, decide_eq_false_iff_not, ne_eq, Decidable.not_not] at hc)) | (refine wo_cond_if (by exact slotq) (fun hc => ?_) (fun hc => ?_) <;> (try simp only [decide_eq_true_eq, decide_eq_false_iff_not, ne_eq, Decidable.not_not] at hc)) | ((first | apply retO_r | apply retO_n); (focus (exact resq))))
  all_goals (refine ⟨rfl, _, rfl, ?_⟩; unfold cmpI; grind)
theorem nan_api_GateKind (hF : E.fns = fnsT) (hm : E.mode f_cmp_isNaN_api_GateKind = .iso false) (a : Int) : CallO E f_cmp_isNaN_api_GateKind [aint a] L fun r L' => r = abool false ∧ L' = L := by
  refine callO_iso0 (R := fun r => r = abool false) hm (fns_of hF n_cmp_isNaN_api_GateKind) (vs_bare rfl vs_nil) ?_
  refine bodyO_of (Nat.le_of_ble_eq_true rfl) ?_; generalize ht : argSlots _ 0 .nil = t; have h0 : t.get 0 = some _ := (by rw [← ht]; rfl); clear ht
  repeat (first | intro id | refine goq ?_)
  ((first | apply retO_r | apply retO_n); (focus (exact resq)))
  exact ⟨rfl, by simp [resultV, abool]⟩
theorem cmp_api_GateKind (hF : E.fns = fnsT) (hm : E.mode f_cmp_Compare_api_GateKind = .iso false) (hmn : E.mode f_cmp_isNaN_api_GateKind = .iso false) (a b : Int) : CallO E f_cmp_Compare_api_GateKind [aint a, aint b] L fun r L' => r = aint (cmpI a b) ∧ L' = L := by
  refine ai_ex (callO_iso0 (R := fun r => ∃ x, r = aint x ∧ x = cmpI a b) hm (fns_of hF n_cmp_Compare_api_GateKind) (vs_bare rfl (vs_bare rfl vs_nil)) ?_)
  refine bodyO_of (Nat.le_of_ble_eq_true rfl) ?_; generalize ht : argSlots _ 0 .nil = t; have h0 : t.get 0 = some _ := (by rw [← ht]; rfl); have h1 : t.get 1 = some _ := (by rw [← ht]; rfl); clear ht
  repeat (first | intro id | refine goq ?_)
  refine gok ?_
  refine (nan_api_GateKind hF hmn _).mono ?_
  rintro r L' ⟨rfl, rfl⟩
  repeat (first | intro id | refine goq ?_)
  refine gok ?_
  refine (nan_api_GateKind hF hmn _).mono ?_
  rintro r L' ⟨rfl, rfl⟩
  repeat' (first | intro id | refine goq ?_ | (refine oo_guard (by exact slotq) (fun hc => ?_) (fun hc => ?_) <;> (fail_if_success (exact absurd hc (by decide))) <;> rw [hc] <;> (try simp only [decide_eq_true_eq, decide_eq_false_iff_not, ne_eq, Decidable.not_not] at hc)) | (refine wo_cond_if (by exact slotq) (fun hc => ?_) (fun hc => ?_) <;> (try simp only [decide_eq_true_eq, decide_eq_false_iff_not, ne_eq, Decidable.not_not] at hc)) | ((first | apply retO_r | apply retO_n); (focus (exact resq))))
  all_goals (refine ⟨rfl, _, rfl, ?_⟩; unfold cmpI; grind)
/-- The first that is not 0. -/
def orL : List Int → Int
  | [] => 0
  | x :: l => orI x (orL l)
theorem orL_drop {l : List Int} {k : Nat} (h : k < l.length) : orL (l.drop k) = orI (l.getD k 0) (orL (l.drop (k + 1))) := by
  rw [List.drop_eq_getElem_cons h, orL]
  simp [h]
theorem or_l0 {v : AVal} {l : List Int} (hv : SlI v l) (hlt : l.length < 2 ^ 62) : ∀ (d k : Nat) (t : Tr AVal), d + k = l.length → t.get 3 = some (aint 0) → t.get 6 = some v → t.get 7 = some (aint l.length) → t.get 8 = some (aint k) →
    WpO E (.loop c_cmp_Or_int_l0) t L (fun ex t' L' => ((ex = .exit 0 ∧ t'.get 3 = some (aint 0) ∧ orL (l.drop k) = 0) ∨ (ex = .ret ∧ t'.get 2 = some (aint (orL (l.drop k))))) ∧ L' = L) := by
  have hv1 := RowA.isOne hv
  intro d
  induction d with
  | zero =>
    intro k t hk h3 h6 h7 h8
    refine wo_loop ?_
    repeat (first | intro id | refine goq ?_)
    exact ⟨.inl ⟨rfl, by exact slotq, by rw [List.drop_of_length_le (by omega)]; rfl⟩, rfl⟩
  | succ d ih =>
    intro k t hk h3 h6 h7 h8
    have e := orL_drop (show k < l.length by omega)
    refine wo_loop ?_
    by_cases h0 : l.getD k 0 = 0
    · rw [h0] at e
      have e2 : orI 0 (orL (l.drop (k + 1))) = orL (l.drop (k + 1)) := rfl
      rw [e, e2]
      repeat (first | intro id | refine goq ?_)
      refine ih (k + 1) _ (by omega) ?_ ?_ ?_ ?_
      · exact slotq
      · exact slotq
      · exact slotq
      · exact slotq
    · have e2 : orI (l.getD k 0) (orL (l.drop (k + 1))) = l.getD k 0 := by unfold orI; rw [if_neg h0]
      rw [e, e2]
      repeat (first | intro id | refine goq ?_)
      exact ⟨.inr ⟨rfl, by exact slotq⟩, rfl⟩
theorem or_ok (hF : E.fns = fnsT) (hm : E.mode f_cmp_Or_int = .iso false) {v : AVal} {l : List Int} {args : List AVal} (hw : ViewsO L args [v]) (hv : SlI v l) (hlt : l.length < 2 ^ 62) : CallO E f_cmp_Or_int args L fun r L' => r = aint (orL l) ∧ L' = L := by
  refine ai_ex (callO_iso0 (R := fun r => ∃ x, r = aint x ∧ x = orL l) hm (fns_of hF n_cmp_Or_int) hw ?_)
  have hv1 := RowA.isOne hv
  refine bodyO_of (Nat.le_of_ble_eq_true rfl) ?_; generalize ht : argSlots _ 0 .nil = t; have h0 : t.get 0 = some _ := (by rw [← ht]; rfl); clear ht
  repeat (first | intro id | refine goq ?_)
  refine WpO.mono (or_l0 hv hlt l.length 0 _ (by omega) ?_ ?_ ?_ ?_) ?_
  · exact slotq
  · exact slotq
  · exact slotq
  · exact slotq
  simp only [List.drop_zero]
  rintro ex t1 L' ⟨⟨rfl, h3, h0⟩ | ⟨rfl, h2⟩, rfl⟩
  · repeat (first | intro id | refine goq ?_)
    ((first | apply retO_r | apply retO_n); (focus (exact resq)))
    exact ⟨rfl, _, rfl, h0.symm⟩
  · repeat (first | intro id | refine goq ?_)
    ((first | apply retO_r | apply retO_n); (focus (exact resq)))
    exact ⟨rfl, _, rfl, rfl⟩
theorem cmpL_step {as bs : List Int} {k : Nat} (ha : k < as.length) (hb : k < bs.length) : cmpL (as.drop k) (bs.drop k) = orI (cmpI (as.getD k 0) (bs.getD k 0)) (cmpL (as.drop (k + 1)) (bs.drop (k + 1))) := by
  rw [List.drop_eq_getElem_cons ha, List.drop_eq_getElem_cons hb, cmpL]
  simp [ha, hb]
theorem scompare_l0 (hF : E.fns = fnsT) (hmc : E.mode f_cmp_Compare_int = .iso false) (hmn : E.mode f_cmp_isNaN_int = .iso false) {q p : AVal} {qs ps : List Int} (hq : SlI q qs) (hp : SlI p ps) (hpl : ps.length < 2 ^ 62) (hql : qs.length < 2 ^ 62) :
    ∀ (d k : Nat) (t : Tr AVal), d + k = qs.length → t.get 0 = some q → t.get 1 = some p → t.get 9 = some q → t.get 10 = some (aint qs.length) → t.get 11 = some (aint k) →
    WpO E (.loop c_slices_Compare_int_int_l0) t L (fun ex t' L' => ((ex = .exit 0 ∧ Keep [0, 1] t t' ∧ ((qs.length < ps.length ∧ cmpL (qs.drop k) (ps.drop k) = -1) ∨ (¬ qs.length < ps.length ∧ cmpL (qs.drop k) (ps.drop k) = 0))) ∨ (ex = .ret ∧ t'.get 4 = some (aint (cmpL (qs.drop k) (ps.drop k))))) ∧ L' = L) := by
  have hq1 := RowA.isOne hq
  have hp1 := RowA.isOne hp
  intro d
  induction d with
  | zero =>
    intro k t hk h0 h1 h9 h10 h11
    refine wo_loop ?_
    repeat (first | intro id | refine goq ?_)
    refine ⟨.inl ⟨rfl, by exact keepq, ?_⟩, rfl⟩
    rw [List.drop_of_length_le (show qs.length ≤ k by omega)]
    by_cases h : qs.length < ps.length
    · refine .inl ⟨h, ?_⟩
      rw [List.drop_eq_getElem_cons (show k < ps.length by omega)]
      rfl
    · refine .inr ⟨h, ?_⟩
      rw [List.drop_of_length_le (by omega)]
      rfl
  | succ d ih =>
    intro k t hk h0 h1 h9 h10 h11
    refine wo_loop ?_
    by_cases hb : k < ps.length
    · have e := cmpL_step (show k < qs.length by omega) hb
      rw [e]
      repeat (first | intro id | refine goq ?_)
      refine gok ?_
      refine (cmp_int hF hmc hmn _ _).mono ?_
      rintro r L' ⟨rfl, rfl⟩
      by_cases c0 : cmpI (qs.getD k 0) (ps.getD k 0) = 0
      · have e2 : orI (cmpI (qs.getD k 0) (ps.getD k 0)) (cmpL (qs.drop (k + 1)) (ps.drop (k + 1))) = cmpL (qs.drop (k + 1)) (ps.drop (k + 1)) := by unfold orI; rw [if_pos c0]
        rw [e2]
        repeat (first | intro id | refine goq ?_)
        refine WpO.mono (ih (k + 1) _ (by omega) ?_ ?_ ?_ ?_ ?_) ?_
        · exact slotq
        · exact slotq
        · exact slotq
        · exact slotq
        · exact slotq
        · rintro ex t' L' ⟨⟨e1, e2, e3⟩ | h, e4⟩
          · exact ⟨.inl ⟨e1, Keep.trans (by exact keepq) e2, e3⟩, e4⟩
          · exact ⟨.inr h, e4⟩
      · have e2 : orI (cmpI (qs.getD k 0) (ps.getD k 0)) (cmpL (qs.drop (k + 1)) (ps.drop (k + 1))) = cmpI (qs.getD k 0) (ps.getD k 0) := by unfold orI; rw [if_neg c0]
        rw [e2]
        repeat (first | intro id | refine goq ?_)
        exact ⟨.inr ⟨rfl, by exact slotq⟩, rfl⟩
    · have e : cmpL (qs.drop k) (ps.drop k) = 1 := by
        rw [List.drop_of_length_le (show ps.length ≤ k by omega), List.drop_eq_getElem_cons (show k < qs.length by omega)]
        rfl
      rw [e]
      repeat (first | intro id | refine goq ?_)
      exact ⟨.inr ⟨rfl, by exact slotq⟩, rfl⟩
theorem scompare_ok (hF : E.fns = fnsT) (hm : E.mode f_slices_Compare_int_int = .iso false) (hmc : E.mode f_cmp_Compare_int = .iso false) (hmn : E.mode f_cmp_isNaN_int = .iso false) {q p : AVal} {qs ps : List Int} (hq : SlI q qs) (hp : SlI p ps) (hpl : ps.length < 2 ^ 62) (hql : qs.length < 2 ^ 62) :
    CallO E f_slices_Compare_int_int [q, p] L fun r L' => r = aint (cmpL qs ps) ∧ L' = L := by
  refine ai_ex (callO_iso0 (R := fun r => ∃ x, r = aint x ∧ x = cmpL qs ps) hm (fns_of hF n_slices_Compare_int_int) (vs_bare (bare_SlI hq) (vs_bare (bare_SlI hp) vs_nil)) ?_)
  have hq1 := RowA.isOne hq
  have hp1 := RowA.isOne hp
  refine bodyO_of (Nat.le_of_ble_eq_true rfl) ?_; generalize ht : argSlots _ 0 .nil = t; have h0 : t.get 0 = some _ := (by rw [← ht]; rfl); have h1 : t.get 1 = some _ := (by rw [← ht]; rfl); clear ht
  repeat (first | intro id | refine goq ?_)
  refine WpO.mono (scompare_l0 hF hmc hmn hq hp hpl hql qs.length 0 _ (by omega) ?_ ?_ ?_ ?_ ?_) ?_
  · exact slotq
  · exact slotq
  · exact slotq
  · exact slotq
  · exact slotq
  simp only [List.drop_zero]
  rintro ex t1 L' ⟨⟨rfl, hK, ⟨hl, he⟩ | ⟨hl, he⟩⟩ | ⟨rfl, h4⟩, rfl⟩
  · have g0 : t1.get 0 = some q := (hK.ex 0 rfl).trans (by exact slotq)
    have g1 : t1.get 1 = some p := (hK.ex 1 rfl).trans (by exact slotq)
    repeat (first | intro id | refine goq ?_)
    ((first | apply retO_r | apply retO_n); (focus (exact resq)))
    exact ⟨rfl, _, rfl, he.symm⟩
  · have g0 : t1.get 0 = some q := (hK.ex 0 rfl).trans (by exact slotq)
    have g1 : t1.get 1 = some p := (hK.ex 1 rfl).trans (by exact slotq)
    repeat (first | intro id | refine goq ?_)
    ((first | apply retO_r | apply retO_n); (focus (exact resq)))
    exact ⟨rfl, _, rfl, he.symm⟩
  · repeat (first | intro id | refine goq ?_)
    ((first | apply retO_r | apply retO_n); (focus (exact resq)))
    exact ⟨rfl, _, rfl, rfl⟩
theorem compare_ok (hF : E.fns = fnsT) (hm : E.mode f_rewrite_compare = .iso false) (hst : still E c_rewrite_compare_r1 = true) (hmo : E.mode f_cmp_Or_int = .iso false) (hms : E.mode f_slices_Compare_int_int = .iso false) (hmc : E.mode f_cmp_Compare_int = .iso false) (hmn : E.mode f_cmp_isNaN_int = .iso false) (hmc1 : E.mode f_cmp_Compare_api_OpKind = .iso false) (hmn1 : E.mode f_cmp_isNaN_api_OpKind = .iso false) (hmc2 : E.mode f_cmp_Compare_api_GateKind = .iso false) (hmn2 : E.mode f_cmp_isNaN_api_GateKind = .iso false)
    {q p : AVal} {a b : OpD} {args : List AVal} (hq : SlI q a.qs) (hp : SlI p b.qs) (hql : a.qs.length < 2 ^ 62) (hpl : b.qs.length < 2 ^ 62) (hv : ViewsO L args [opV q a, opV p b]) :
    CallO E f_rewrite_compare args L fun r L' => r = aint (cmpO a b) ∧ L' = L := by
  refine ai_ex (callO_iso0 (R := fun r => ∃ x, r = aint x ∧ x = cmpO a b) hm (fns_of hF n_rewrite_compare) hv ?_)
  have hq1 := RowA.isOne hq
  have hp1 := RowA.isOne hp
  unfold opV opCells
  refine bodyO_of (Nat.le_of_ble_eq_true rfl) ?_; generalize ht : argSlots _ 0 .nil = t; have h0 : t.get 0 = some _ := (by rw [← ht]; rfl); have h1 : t.get 1 = some _ := (by rw [← ht]; rfl); clear ht
  repeat (first | intro id | refine goq ?_)
  refine gok ?_
  refine (cmp_api_OpKind hF hmc1 hmn1 _ _).mono ?_
  rintro r L' ⟨rfl, rfl⟩
  repeat (first | intro id | refine goq ?_)
  refine gok ?_
  refine (cmp_api_GateKind hF hmc2 hmn2 _ _).mono ?_
  rintro r L' ⟨rfl, rfl⟩
  repeat (first | intro id | refine goq ?_)
  refine gok ?_
  refine (scompare_ok hF hms hmc hmn hq hp hpl hql).mono ?_
  rintro r L' ⟨rfl, rfl⟩
  repeat (first | intro id | refine goq ?_)
  refine gok ?_
  refine (cmp_int hF hmc hmn _ _).mono ?_
  rintro r L' ⟨rfl, rfl⟩
  repeat (first | intro id | refine goq ?_)
  refine gok ?_
  refine (cmp_int hF hmc hmn _ _).mono ?_
  rintro r L' ⟨rfl, rfl⟩
  repeat (first | intro id | refine goq ?_)
  refine gok ?_
  refine (cmp_int hF hmc hmn _ _).mono ?_
  rintro r L' ⟨rfl, rfl⟩
  repeat (first | intro id | refine goq ?_)
  refine gok ?_
  have hsl : SlI (.rs ([cmpI a.kind b.kind, cmpI a.gate b.gate, cmpL a.qs b.qs, cmpI a.bit b.bit, cmpI a.ifc b.ifc, cmpI a.whn b.whn].map aint) 6 (some 6)) [cmpI a.kind b.kind, cmpI a.gate b.gate, cmpL a.qs b.qs, cmpI a.bit b.bit, cmpI a.ifc b.ifc, cmpI a.whn b.whn] := .inr ⟨_, rfl⟩
  refine (or_ok hF hmo (vs_view rfl (vo_sl (by exact inq) (seg_full rfl) (vl_sc (sc_ints [cmpI a.kind b.kind, cmpI a.gate b.gate, cmpL a.qs b.qs, cmpI a.bit b.bit, cmpI a.ifc b.ifc, cmpI a.whn b.whn]))) vs_nil) hsl (by simp)).mono ?_
  rintro r L' ⟨rfl, rfl⟩
  repeat (first | intro id | refine goq ?_)
  ((first | apply retO_r | apply retO_n); (focus (exact resq)))
  refine ⟨rfl, _, rfl, ?_⟩
  have e : ∀ x, orI x 0 = x := fun x => by unfold orI; split <;> omega
  simp only [orL, cmpO, e]
end Go.Proofs.YtmflheoafeenfaaGreat
namespace Go.Proofs.YtmflheoafeenfaaGreat
open Go.Am
set_option maxRecDepth 4000
def sgm (i j : Nat) : Nat := if j = i then i + 1 else if j = i + 1 then i else j
structure Swp (l l' : List OpD) (i : Nat) : Prop where
  len : l'.length = l.length
  lt : i + 1 < l.length
  h1 : ∀ j, j ≠ i → j ≠ i + 1 → l'.getD j default = l.getD j default
  h2 : l'.getD i default = l.getD (i + 1) default
  h3 : l'.getD (i + 1) default = l.getD i default
  ht : touchB (l.getD i default) (l.getD (i + 1) default) = false
theorem Swp.get {l l' : List OpD} {i : Nat} (h : Swp l l' i) (j : Nat) : l'.getD (sgm i j) default = l.getD j default := by
  unfold sgm
  split
  · rename_i e; subst e; exact h.h3
  · split
    · rename_i e; subst e; exact h.h2
    · exact h.h1 j (by assumption) (by assumption)
theorem Swp.free {l l' : List OpD} {i : Nat} (h : Swp l l' i) {j : Nat} (hj : j < l.length) : freeB l' (sgm i j) = true ↔ freeB l j = true := by
  have hlt := h.lt
  have hsj : sgm i j < l'.length := by rw [h.len]; unfold sgm; split; omega; split <;> omega
  rw [freeB_iff hsj, freeB_iff hj, h.get j]
  constructor
  · intro k m hm
    by_cases hx : j = i + 1 ∧ m = i
    · obtain ⟨rfl, rfl⟩ := hx
      exact h.ht
    · have := k (sgm i m) (by unfold sgm; (repeat' split) <;> omega)
      rw [h.get m] at this
      exact this
  · intro k m hm
    by_cases hx : j = i ∧ m = i
    · obtain ⟨rfl, rfl⟩ := hx
      rw [h.h2, touchB_comm]
      exact h.ht
    · have e : m = sgm i (sgm i m) := by unfold sgm; (repeat' split) <;> omega
      rw [e, h.get]
      refine k _ ?_
      unfold sgm at hm ⊢
      (repeat' (split at hm)) <;> (repeat' split) <;> omega
def QsPos (l : List OpD) : Prop := ∀ j, j < l.length → 0 < (l.getD j default).qs.length
end Go.Proofs.YtmflheoafeenfaaGreat
