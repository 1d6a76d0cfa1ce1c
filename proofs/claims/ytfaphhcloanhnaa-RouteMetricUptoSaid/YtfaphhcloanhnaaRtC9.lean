/- An element looked for. -/
import Derived.Test.YtfaphhcloanhnaaRtC1
set_option linter.unusedSimpArgs false
set_option linter.unusedVariables false
namespace Go.Proofs.Ytfaphhcloanhnaa
open Go.Am
set_option maxRecDepth 4000
set_option maxHeartbeats 4000000
variable {E : Env} {L : Hp}
/-- Where x lies first. -/
structure IdxI (l : List Int) (x i : Int) : Prop where
  lo : i = -1 ∨ 0 ≤ i
  no : i < 0 → ∀ j, j < l.length → l.getD j 0 ≠ x
  yes : 0 ≤ i → i.toNat < l.length ∧ l.getD i.toNat 0 = x ∧ ∀ j, j < i.toNat → l.getD j 0 ≠ x
theorem IdxI.mem {l : List Int} {x i : Int} (h : IdxI l x i) : 0 ≤ i ↔ x ∈ l := by
  constructor
  · intro h0
    obtain ⟨h1, h2, _⟩ := h.yes h0
    rw [← h2, List.getD_eq_getElem?_getD, List.getElem?_eq_getElem h1]
    exact List.getElem_mem h1
  · intro hm
    obtain ⟨j, hj, e⟩ := List.getElem_of_mem hm
    rcases h.lo with h1 | h1
    · refine absurd ?_ (h.no (by omega) j hj)
      rw [List.getD_eq_getElem?_getD, List.getElem?_eq_getElem hj]
      exact e
    · exact h1
theorem index_loop {x : Int} {v : AVal} {l : List Int} (hv : SlI v l) (hlt : l.length < 2 ^ 62) : ∀ (d k : Nat) (t : Tr AVal), d + k = l.length → t.get 0 = some v → t.get 1 = some (aint x) → t.get 7 = some (aint l.length) → t.get 8 = some (aint k) → (∀ j, j < k → l.getD j 0 ≠ x) →
    WpO E (.loop c_slices_Index_int_int_l0) t L (fun ex t' L' => L' = L ∧ ((ex = .exit 0 ∧ ∀ j, j < l.length → l.getD j 0 ≠ x) ∨ (ex = .ret ∧ ∃ i, t'.get 4 = some (aint i) ∧ IdxI l x i))) := by
  intro d
  induction d with
  | zero =>
    intro k t hk h0 h1 h7 h8 hno
    refine wo_loop ?_
    repeat (first | intro id | refine goq ?_)
    exact ⟨rfl, .inl ⟨rfl, fun j hj => hno j (by omega)⟩⟩
  | succ d ih =>
    intro k t hk h0 h1 h7 h8 hno
    refine wo_loop ?_
    repeat (first | intro id | refine goq ?_)
    refine wo_cond_if (by exact slotq) (fun hc => ?_) (fun hc => ?_) <;> (try simp only [decide_eq_true_eq, decide_eq_false_iff_not, ne_eq, Decidable.not_not] at hc)
    · repeat (first | intro id | refine goq ?_)
      exact ⟨rfl, .inr ⟨rfl, k, by exact slotq, .inr (by omega), fun h => by omega, fun _ => ⟨by omega, hc.symm, fun j hj => hno j (by omega)⟩⟩⟩
    · repeat (first | intro id | refine goq ?_)
      refine ih (k + 1) _ ?_ ?_ ?_ ?_ ?_ ?_
      · omega
      · exact slotq
      · exact slotq
      · exact slotq
      · exact slotq
      · intro j hj
        by_cases e : j = k
        · subst e; exact fun h => hc h.symm
        · exact hno j (by omega)
theorem index_ok (hF : E.fns = fnsT) (hm : E.mode f_slices_Index_int_int = .iso false) {a v : AVal} {l : List Int} {x : Int} (hw : ViewsO L [a] [v]) (hv : SlI v l) (hlt : l.length < 2 ^ 62) :
    CallO E f_slices_Index_int_int [a, aint x] L fun r L' => (∃ i, r = aint i ∧ IdxI l x i) ∧ L' = L := by
  refine callO_iso0 (R := fun r => ∃ i, r = aint i ∧ IdxI l x i) (vs := [v, aint x]) hm (fns_of hF n_slices_Index_int_int) ⟨fun m hm => ?_⟩ ?_
  · have := hw.ex m hm
    simp only [viewAll] at this ⊢
    split at this
    · rename_i h1 h2
      simp only [Option.some.injEq, List.cons.injEq] at this
      rename_i q1 q2
      cases h2
      rw [h1]
      simp only [this.1]
      rfl
    · simp at this
  refine bodyO_of (Nat.le_of_ble_eq_true rfl) ?_; generalize ht : argSlots _ 0 .nil = t; have h0 : t.get 0 = some _ := (by rw [← ht]; rfl); have h1 : t.get 1 = some _ := (by rw [← ht]; rfl); clear ht
  repeat (first | intro id | refine goq ?_)
  refine WpO.mono (index_loop (x := x) hv hlt l.length 0 _ (by omega) ?_ ?_ ?_ ?_ (fun j hj => by omega)) ?_
  · exact slotq
  · exact slotq
  · exact slotq
  · exact slotq
  rintro ex t1 L' ⟨rfl, ⟨rfl, hno⟩ | ⟨rfl, i, h4, hi⟩⟩
  · repeat (first | intro id | refine goq ?_)
    ((first | apply retO_r | apply retO_n); (focus (exact resq)))
    exact ⟨rfl, -1, rfl, .inl rfl, fun _ => hno, fun h => by omega⟩
  ·
    repeat (first | intro id | refine goq ?_)
    ((first | apply retO_r | apply retO_n); (focus (exact resq)))
    exact ⟨rfl, i, rfl, hi⟩
theorem contains_ok (hF : E.fns = fnsT) (hm : E.mode f_slices_Contains_int_int = .iso false) (hmi : E.mode f_slices_Index_int_int = .iso false) {a v : AVal} {l : List Int} {x : Int} (hw : ViewsO L [a, aint x] [v, aint x]) (hv : SlI v l) (hlt : l.length < 2 ^ 62) :
    CallO E f_slices_Contains_int_int [a, aint x] L fun r L' => r = abool (decide (x ∈ l)) ∧ L' = L := by
  refine callO_iso0 hm (fns_of hF n_slices_Contains_int_int) hw ?_
  refine bodyO_of (Nat.le_of_ble_eq_true rfl) ?_; generalize ht : argSlots _ 0 .nil = t; have h0 : t.get 0 = some _ := (by rw [← ht]; rfl); have h1 : t.get 1 = some _ := (by rw [← ht]; rfl); clear ht
  repeat (first | intro id | refine goq ?_)
  refine gok ?_
  refine (index_ok hF hmi (vs_bare (bare_SlI hv) vs_nil) hv hlt).mono ?_
  rintro r L' ⟨⟨i, rfl, hi⟩, rfl⟩
  repeat (first | intro id | refine goq ?_)
  ((first | apply retO_r | apply retO_n); (focus (exact resq)))
  refine ⟨rfl, ?_⟩
  have e : decide (0 ≤ i) = decide (x ∈ l) := by
    by_cases hx : x ∈ l
    · rw [decide_eq_true hx, decide_eq_true (hi.mem.2 hx)]
    · rw [decide_eq_false hx, decide_eq_false fun h => hx (hi.mem.1 h)]
  rw [← e]
  rfl
end Go.Proofs.Ytfaphhcloanhnaa
