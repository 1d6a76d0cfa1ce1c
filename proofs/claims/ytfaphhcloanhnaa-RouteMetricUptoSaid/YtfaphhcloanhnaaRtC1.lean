/- Small functions, one by one: rows compared, an element looked for. -/
import Derived.Test.YtfaphhcloanhnaaRtEnv
set_option linter.unusedSimpArgs false
set_option linter.unusedVariables false
namespace Go.Proofs.Ytfaphhcloanhnaa
open Go.Am
set_option maxRecDepth 4000
set_option maxHeartbeats 4000000
variable {E : Env} {L : Hp}

theorem num_ok (hF : E.fns = fnsT) (hm : E.mode f_phasorlaw20_num = .iso false) (n : Int) : CallO E f_phasorlaw20_num [aint n] L fun v L' => v = aint n ∧ L' = L := by
  refine callO_iso0 hm (fns_of hF n_phasorlaw20_num) (vs_bare rfl vs_nil) ?_
  refine bodyO_of (Nat.le_of_ble_eq_true rfl) ?_; generalize ht : argSlots _ 0 .nil = t; have h0 : t.get 0 = some _ := (by rw [← ht]; rfl); clear ht
  repeat (first | intro id | refine goc ?_)
  ((first | apply retO_r | apply retO_n); (focus (exact resq)))
  exact ⟨rfl, rfl⟩

theorem drop_eq {α : Type} (z : α) {la lb : List α} {k : Nat} (hl : la.length = lb.length) (hk : k < la.length) : la.drop k = lb.drop k ↔ la.getD k z = lb.getD k z ∧ la.drop (k + 1) = lb.drop (k + 1) := by
  have hk' : k < lb.length := by omega
  have e1 := List.drop_eq_getElem_cons hk
  have e2 := List.drop_eq_getElem_cons hk'
  constructor
  · intro h
    rw [e1, e2] at h
    obtain ⟨h1, h2⟩ := List.cons.inj h
    exact ⟨by simpa [hk, hk'] using h1, h2⟩
  · rintro ⟨h1, h2⟩
    rw [e1, e2]
    simp only [List.cons.injEq]
    exact ⟨by simpa [hk, hk'] using h1, h2⟩

theorem ints_loop (la lb : List Int) (va vb : AVal) (ha : SlI va la) (hb : SlI vb lb) (hl : la.length = lb.length) (hlt : la.length < 2 ^ 62) : ∀ (d k : Nat) (t : Tr AVal), d + k = la.length → t.get 0 = some va → t.get 1 = some vb → t.get 5 = some (aint k) →
    WpO E (.loop c_phasorlaw20_ints_l0) t L (fun ex t' _ => (ex = .exit 0 ∧ la.drop k = lb.drop k) ∨ (ex = .ret ∧ t'.get 4 = some (abool false) ∧ la.drop k ≠ lb.drop k)) := by
  intro d
  induction d with
  | zero =>
    intro k t hk h0 h1 h5
    refine wo_loop ?_
    repeat (first | intro id | refine goc ?_)
    refine wo_cond_if (by exact slotq) (fun hc => ?_) (fun hc => ?_) <;> (try simp only [decide_eq_true_eq, decide_eq_false_iff_not, ne_eq, Decidable.not_not] at hc)
    · omega
    · repeat (first | intro id | refine goc ?_)
      refine .inl ⟨rfl, ?_⟩
      rw [List.drop_of_length_le (by omega), List.drop_of_length_le (by omega)]
  | succ d ih =>
    intro k t hk h0 h1 h5
    refine wo_loop ?_
    have hde := drop_eq 0 hl (show k < la.length by omega)
    repeat (first | intro id | refine goc ?_)
    refine wo_cond_if (by exact slotq) (fun hc => ?_) (fun hc => ?_) <;> (try simp only [decide_eq_true_eq, decide_eq_false_iff_not, ne_eq, Decidable.not_not] at hc)
    · repeat (first | intro id | refine goc ?_)
      refine wo_cond_if (by exact slotq) (fun hc => ?_) (fun hc => ?_) <;> (try simp only [decide_eq_true_eq, decide_eq_false_iff_not, ne_eq, Decidable.not_not] at hc)
      · repeat (first | intro id | refine goc ?_)
        exact .inr ⟨rfl, by simp [Tr.get_set, abool], fun he => hc (hde.1 he).1⟩
      · repeat (first | intro id | refine goc ?_)
        refine (ih (k + 1) _ (by omega) (by exact slotq) (by exact slotq) (by exact slotq)).mono fun ex t' L' hq => ?_
        rw [hc] at hde
        simp only [true_and] at hde
        simp only [ne_eq, hde]
        exact hq
    · omega

theorem ints_ok (hF : E.fns = fnsT) (hm : E.mode f_phasorlaw20_ints = .iso false) {a b va vb : AVal} {la lb : List Int} (hv : ViewsO L [a, b] [va, vb]) (ha : SlI va la) (hb : SlI vb lb) (hlt : la.length < 2 ^ 62) :
    CallO E f_phasorlaw20_ints [a, b] L fun v L' => v = abool (decide (la = lb)) ∧ L' = L := by
  refine callO_iso0 hm (fns_of hF n_phasorlaw20_ints) hv ?_
  refine bodyO_of (Nat.le_of_ble_eq_true rfl) ?_; generalize ht : argSlots _ 0 .nil = t; have h0 : t.get 0 = some _ := (by rw [← ht]; rfl); have h1 : t.get 1 = some _ := (by rw [← ht]; rfl); clear ht
  repeat (first | intro id | refine goc ?_)
  refine wo_cond_if (by exact slotq) (fun hc => ?_) (fun hc => ?_) <;> (try simp only [decide_eq_true_eq, decide_eq_false_iff_not, ne_eq, Decidable.not_not] at hc)
  · repeat (first | intro id | refine goc ?_)
    ((first | apply retO_r | apply retO_n); (focus (exact resq)))
    refine ⟨rfl, ?_⟩
    have : la ≠ lb := by rintro rfl; exact hc rfl
    simp [this, resultV, abool]
  · have hl : la.length = lb.length := by omega
    repeat (first | intro id | refine goc ?_)
    refine (ints_loop la lb va vb ha hb hl hlt la.length 0 _ (by omega) (by exact slotq) (by exact slotq) (by exact slotq)).mono fun ex t' L' hq => ?_
    obtain ⟨rfl, hq2⟩ | ⟨rfl, hq2, hq3⟩ := hq
    · simp only [List.drop_zero] at hq2
      repeat (first | intro id | refine goc ?_)
      ((first | apply retO_r | apply retO_n); (focus (exact resq)))
      exact ⟨rfl, by simp [hq2, resultV, abool]⟩
    · simp only [List.drop_zero] at hq3
      repeat (first | intro id | refine goc ?_)
      ((first | apply retO_r | apply retO_n); (focus (exact resq)))
      exact ⟨rfl, by simp [hq3, resultV, abool]⟩

/-! Maps compared -/
theorem same_loop (la lb : List (Int × Int)) (va vb : AVal) (na nb : Int) (ia ib : Nat) (ha : SlP va la) (hb : SlP vb lb) (hl : la.length = lb.length) (hlt : la.length < 2 ^ 62) (hia : In ia [aint na, va] L) (hib : In ib [aint nb, vb] L) : ∀ (d k : Nat) (t : Tr AVal), d + k = la.length → t.get 2 = some (.ptr ia 0) → t.get 3 = some (.ptr ib 0) → t.get 5 = some (aint k) →
    WpO E (.loop c_phasorlaw20_same_l0) t L (fun ex t' _ => (ex = .exit 0 ∧ la.drop k = lb.drop k) ∨ (ex = .ret ∧ t'.get 4 = some (abool false) ∧ la.drop k ≠ lb.drop k)) := by
  intro d
  induction d with
  | zero =>
    intro k t hk h2 h3 h5
    refine wo_loop ?_
    repeat (first | intro id | refine goc ?_)
    refine wo_cond_if (by exact slotq) (fun hc => ?_) (fun hc => ?_) <;> (try simp only [decide_eq_true_eq, decide_eq_false_iff_not, ne_eq, Decidable.not_not] at hc)
    · omega
    · repeat (first | intro id | refine goc ?_)
      refine .inl ⟨rfl, ?_⟩
      rw [List.drop_of_length_le (by omega), List.drop_of_length_le (by omega)]
  | succ d ih =>
    intro k t hk h2 h3 h5
    refine wo_loop ?_
    have hde := drop_eq (0, 0) hl (show k < la.length by omega)
    repeat (first | intro id | refine goc ?_)
    refine wo_cond_if (by exact slotq) (fun hc => ?_) (fun hc => ?_) <;> (try simp only [decide_eq_true_eq, decide_eq_false_iff_not, ne_eq, Decidable.not_not] at hc)
    · repeat (first | intro id | refine goc ?_)
      refine wo_cond_if (v := !(decide ((la.getD k (0, 0)).1 = (lb.getD k (0, 0)).1) && decide ((la.getD k (0, 0)).2 = (lb.getD k (0, 0)).2))) (by simp only [Arg.get, Tr.get_set, Nat.reduceEqDiff, if_true, if_false, Bool.and_true, abool]; rfl) (fun hc => ?_) (fun hc => ?_)
      · repeat (first | intro id | refine goc ?_)
        refine .inr ⟨rfl, by simp [Tr.get_set, abool], fun he => ?_⟩
        rw [(hde.1 he).1] at hc
        simp at hc
      · repeat (first | intro id | refine goc ?_)
        refine (ih (k + 1) _ (by omega) (by exact slotq) (by exact slotq) (by exact slotq)).mono fun ex t' L' hq => ?_
        simp only [Bool.not_eq_false', Bool.and_eq_true, decide_eq_true_eq] at hc
        rw [Prod.ext hc.1 hc.2] at hde
        simp only [true_and] at hde
        simp only [ne_eq, hde]
        exact hq
    · omega

theorem same_ok (hF : E.fns = fnsT) (hm : E.mode f_phasorlaw20_same = .iso false) {a b va vb : AVal} {na nb : Int} {la lb : List (Int × Int)} (hv : ViewsO L [a, b] [va, vb]) (ha : MapA va na la) (hb : MapA vb nb lb) (hlt : la.length < 2 ^ 62) :
    CallO E f_phasorlaw20_same [a, b] L fun v L' => v = abool (decide (na = nb ∧ la = lb)) ∧ L' = L := by
  obtain ⟨sa, rfl, ha⟩ := ha
  obtain ⟨sb, rfl, hb⟩ := hb
  refine callO_iso0 hm (fns_of hF n_phasorlaw20_same) hv ?_
  refine bodyO_of (Nat.le_of_ble_eq_true rfl) ?_; generalize ht : argSlots _ 0 .nil = t; have h0 : t.get 0 = some _ := (by rw [← ht]; rfl); have h1 : t.get 1 = some _ := (by rw [← ht]; rfl); clear ht
  repeat (first | intro id | refine goc ?_)
  rename_i ia
  have bad : ¬(na = nb ∧ la = lb) → abool (decide (na = nb ∧ la = lb)) = abool false := fun h => by rw [decide_eq_false h]
  (refine oo_guard (by exact slotq) (fun hc => ?_) (fun hc => ?_) <;> (try simp only [hc]) <;> (try simp only [decide_eq_true_eq, decide_eq_false_iff_not, ne_eq, Decidable.not_not] at hc))
  · have hne : ¬na = nb := by simpa using hc
    repeat (first | intro id | refine goc ?_)
    refine wo_cond_if (by exact slotq) (fun hc => ?_) (fun hc => ?_) <;> (try simp only [decide_eq_true_eq, decide_eq_false_iff_not, ne_eq, Decidable.not_not] at hc)
    · repeat (first | intro id | refine goc ?_)
      ((first | apply retO_r | apply retO_n); (focus (exact resq)))
      exact ⟨rfl, (bad fun h => hne h.1).symm⟩
    · (first | omega | (exact absurd hc (by decide)) | (simp at hc; done) | contradiction)
  · have hn : na = nb := by simpa using hc
    repeat (first | intro id | refine goc ?_)
    refine wo_cond_if (by exact slotq) (fun hc => ?_) (fun hc => ?_) <;> (try simp only [decide_eq_true_eq, decide_eq_false_iff_not, ne_eq, Decidable.not_not] at hc)
    · repeat (first | intro id | refine goc ?_)
      ((first | apply retO_r | apply retO_n); (focus (exact resq)))
      exact ⟨rfl, (bad fun h => hc (by rw [h.2])).symm⟩
    · have hl : la.length = lb.length := by omega
      repeat (first | intro id | refine goc ?_)
      have key := fun t h2 h3 h5 => same_loop (E := E) (L := [(id, [aint nb, sb]), (ia, [aint na, sa])]) la lb sa sb na nb ia id ha hb hl hlt (by exact inq) (by exact inq) la.length 0 t (by omega) h2 h3 h5
      refine (key _ (by exact slotq) (by exact slotq) (by exact slotq)).mono ?_
      intro ex t' L' hq
      obtain ⟨rfl, hq2⟩ | ⟨rfl, hq2, hq3⟩ := hq
      · simp only [List.drop_zero] at hq2
        repeat (first | intro id | refine goc ?_)
        ((first | apply retO_r | apply retO_n); (focus (exact resq)))
        exact ⟨rfl, by simp [hq2, hn, resultV, abool]⟩
      · simp only [List.drop_zero] at hq3
        repeat (first | intro id | refine goc ?_)
        ((first | apply retO_r | apply retO_n); (focus (exact resq)))
        exact ⟨rfl, (bad fun h => hq3 h.2).symm⟩
end Go.Proofs.Ytfaphhcloanhnaa
