/- Equal neighbours struck, in place. -/
import Derived.Test.YtfaphhcloanhnaaRtC1
import Derived.Test.YtfaphhcloanhnaaRtDed
set_option linter.unusedSimpArgs false
set_option linter.unusedVariables false
namespace Go.Proofs.Ytfaphhcloanhnaa
open Go.Am Go.Ded
set_option maxRecDepth 4000
set_option maxHeartbeats 4000000
variable {E : Env} {L : Hp}
theorem take_snoc {l : List Int} {k : Nat} (h : k < l.length) : l.take (k + 1) = l.take k ++ [l.getD k 0] := by
  rw [List.take_succ_eq_append_getElem h]
  simp [h]
theorem last_take {l : List Int} {k : Nat} (h : k < l.length) : (l.take (k + 1)).getLast? = some (l.getD k 0) := by
  rw [take_snoc h]
  simp
theorem dd_step {l : List Int} {k : Nat} (h0 : 0 < k) (h : k < l.length) : dd (l.take (k + 1)) = if l.getD k 0 = l.getD (k - 1) 0 then dd (l.take k) else dd (l.take k) ++ [l.getD k 0] := by
  rw [take_snoc h, dd_snoc]
  obtain ⟨j, rfl⟩ : ∃ j, k = j + 1 := ⟨k - 1, by omega⟩
  rw [last_take (by omega)]
  simp only [Option.some.injEq, Nat.add_sub_cancel]
  by_cases e : l.getD j 0 = l.getD (j + 1) 0
  · rw [if_pos e, if_pos e.symm]
  · rw [if_neg e, if_neg fun h => e h.symm]

theorem compact_l0 {id n k0 : Nat} {l : List Int} {cap cap2 : Option Nat} (hn : l.length = n) (hn2 : n < 2 ^ 62) (hst : still E c_slices_Compact_int_int_r9 = true) : ∀ (d k2 : Nat) (t : Tr AVal) (c : List Int) (k : Nat), d + k2 + k0 = n → 0 < k2 → t.get 0 = some (.sl id 0 n 1 cap) → t.get 4 = some (.sl id k0 (n - k0) 1 cap2) → t.get 3 = some (aint k) → t.get 5 = some (aint k2) →
    c.length = n → k < k0 + k2 → (∀ j, k0 + k2 ≤ j + 1 → j < n → c.getD j 0 = l.getD j 0) → c.take k = dd (l.take (k0 + k2)) →
    WpO E (.loop c_slices_Compact_int_int_l0) t ((id, c.map aint) :: L) (fun ex t' L' => ex = .exit 2 ∧ Keep [0] t t' ∧ ∃ (c' : List Int) (k' : Nat), t'.get 3 = some (aint ((k' : Nat) : Int)) ∧ c'.length = n ∧ k' < n ∧ c'.take k' = dd l ∧ L' = (id, c'.map aint) :: L) := by
  intro d
  induction d with
  | zero =>
    intro k2 t c k hk hk2 h0 h4 h3 h5 hcl hkl hsame hd
    refine wo_loop ?_
    repeat (first | intro id | refine goq ?_)
    refine ⟨rfl, by exact keepq, c, k, by exact slotq, hcl, by omega, ?_, rfl⟩
    rw [hd, List.take_of_length_le (by omega)]
  | succ d ih =>
    intro k2 t0 c k hk hk2 h0 h4 h3 h5 hcl hkl hsame hd
    have e1 := hsame (k0 + k2) (by omega) (by omega)
    have e2 := hsame (k0 + (k2 - 1)) (by omega) (by omega)
    have e3 := dd_step (l := l) (k := k0 + k2) (by omega) (by omega)
    rw [show k0 + k2 - 1 = k0 + (k2 - 1) by omega] at e3
    have hkl2 : k ≤ c.length := by omega
    refine wo_loop ?_
    repeat (first | intro id | refine goq ?_)
    refine wo_cond_if (by exact slotq) (fun hc => ?_) (fun hc => ?_) <;> (try simp only [decide_eq_true_eq, decide_eq_false_iff_not, ne_eq, Decidable.not_not] at hc)
    · have hset : (c.set k (c.getD (k0 + k2) 0)).length = n := by rw [List.length_set, hcl]
      repeat (first | intro id | refine goq ?_)
      refine WpO.mono (ih (k2 + 1) _ (c.set k (c.getD (k0 + k2) 0)) (k + 1) ?_ ?_ ?_ ?_ ?_ ?_ hset ?_ ?_ ?_) ?_
      · omega
      · omega
      · exact slotq
      · exact slotq
      · exact slotq
      · exact slotq
      · omega
      · intro j h1 h2
        rw [← hsame j (by omega) h2]
        simp only [List.getD_eq_getElem?_getD, List.getElem?_set]
        rw [if_neg (by omega)]
      · rw [show k0 + (k2 + 1) = k0 + k2 + 1 by omega, e3, if_neg (by omega), ← hd, ← e1]
        rw [take_snoc (by omega), List.take_set_of_le (Nat.le_refl k)]
        simp only [List.getD_eq_getElem?_getD, List.getElem?_set]
        simp [show k < c.length by omega]
      · rintro ex t' L' ⟨q1, q2, q3⟩
        exact ⟨q1, Keep.trans (by exact keepq) q2, q3⟩
    · repeat (first | intro id | refine goq ?_)
      refine WpO.mono (ih (k2 + 1) _ c k ?_ ?_ ?_ ?_ ?_ ?_ hcl ?_ ?_ ?_) ?_
      · omega
      · omega
      · exact slotq
      · exact slotq
      · exact slotq
      · exact slotq
      · omega
      · intro j h1 h2
        exact hsame j (by omega) h2
      · rw [show k0 + (k2 + 1) = k0 + k2 + 1 by omega, e3, if_pos (by omega)]
        exact hd
      · rintro ex t' L' ⟨q1, q2, q3⟩
        exact ⟨q1, Keep.trans (by exact keepq) q2, q3⟩

/-- What has been struck, in its box. -/
structure DedO (id : Nat) (l : List Int) (v : AVal) (c : List AVal) : Prop where
  val : ∃ cap, v = .sl id 0 (dd l).length 1 cap
  seg : seg c 0 (dd l).length = some ((dd l).map aint)
theorem ded_whole {id : Nat} {l : List Int} {cap : Option Nat} (h : dd l = l) : DedO id l (.sl id 0 l.length 1 cap) (l.map aint) := ⟨⟨cap, by rw [h]⟩, by rw [h]; exact seg_full (by simp)⟩
theorem compact_l1 {id n : Nat} {l : List Int} {cap : Option Nat} (hn : l.length = n) (hn2 : n < 2 ^ 62) (hst : still E c_slices_Compact_int_int_r9 = true) (hst' : still E c_slices_Compact_int_int_r5 = true) : ∀ (d k : Nat) (t : Tr AVal), d + k = n → 0 < k → t.get 0 = some (.sl id 0 n 1 cap) → t.get 3 = some (aint k) → dd (l.take k) = l.take k →
    WpO E (.loop c_slices_Compact_int_int_l1) t ((id, l.map aint) :: L) (fun ex t' L' => (ex = .exit 0 ∧ t'.get 0 = some (.sl id 0 n 1 cap) ∧ dd l = l ∧ L' = (id, l.map aint) :: L) ∨ (ex = .ret ∧ ∃ v c, t'.get 2 = some v ∧ DedO id l v c ∧ L' = (id, c) :: L)) := by
  intro d
  induction d with
  | zero =>
    intro k t hk hk0 h0 h3 hd
    refine wo_loop ?_
    repeat (first | intro id | refine goq ?_)
    refine .inl ⟨rfl, by exact slotq, ?_, rfl⟩
    rwa [List.take_of_length_le (by omega)] at hd
  | succ d ih =>
    intro k t hk hk0 h0 h3 hd
    have e3 := dd_step (l := l) hk0 (by omega : k < l.length)
    refine wo_loop ?_
    repeat (first | intro id | refine goq ?_)
    refine wo_cond_if (by exact slotq) (fun hc => ?_) (fun hc => ?_) <;> (try simp only [decide_eq_true_eq, decide_eq_false_iff_not, ne_eq, Decidable.not_not] at hc)
    · repeat (first | intro id | refine goq ?_)
      refine WpO.mono (compact_l0 (id := id) (l := l) (k0 := k) (cap := cap) (cap2 := cap.map (· - k)) hn hn2 hst (n - 1 - k) 1 _ l k (by omega) (by omega) ?_ ?_ ?_ ?_ hn (by omega) (fun _ _ _ => rfl) ?_) ?_
      · exact slotq
      · exact slotq
      · exact slotq
      · exact slotq
      · rw [e3, if_pos (by omega), hd]
      rintro ex t1 L' ⟨rfl, hK, c, k', g3, hcl, hk', hcd, rfl⟩
      have g0 : t1.get 0 = some (.sl id 0 n 1 cap) := (hK.ex 0 rfl).trans (by exact slotq)
      repeat (first | intro id | refine goq ?_)
      have hdl0 : (dd l).length = k' := by rw [← hcd]; simp; omega
      refine .inr ⟨rfl, .sl id 0 k' 1 cap, _, by exact slotq, ⟨⟨cap, by rw [hdl0]⟩, ?_⟩, rfl⟩
      have hdl : (dd l).length = k' := by rw [← hcd]; simp; omega
      rw [hdl, ← hcd]
      unfold seg
      rw [if_pos (by simp; omega), List.drop_zero, List.take_append_of_le_length (by simp; omega), List.take_take, Nat.min_self, List.map_take]
    ·
      repeat (first | intro id | refine goq ?_)
      refine ih (k + 1) _ ?_ ?_ ?_ ?_ ?_
      · omega
      · omega
      · exact slotq
      · exact slotq
      · rw [e3, if_neg (by omega), hd, take_snoc (by omega)]

theorem compact_ok (hF : E.fns = fnsT) (hm : E.mode f_slices_Compact_int_int = .open_) {id : Nat} {l : List Int} {cap : Option Nat} (hn2 : l.length < 2 ^ 62) :
    CallO E f_slices_Compact_int_int [.sl id 0 l.length 1 cap] ((id, l.map aint) :: L) fun v L' => ∃ c, DedO id l v c ∧ L' = (id, c) :: L := by
  refine callO_open hm (fns_of hF n_slices_Compact_int_int) ?_
  refine bodyO_of (Nat.le_of_ble_eq_true rfl) ?_; generalize ht : argSlots _ 0 .nil = t; have h0 : t.get 0 = some _ := (by rw [← ht]; rfl); clear ht
  by_cases h2 : l.length < 2
  · have hd : dd l = l := by
      match l, h2 with
      | [], _ => rfl
      | [a], _ => rfl
    repeat (first | intro id | refine goq ?_)
    ((first | apply retO_r | apply retO_n); (focus (exact resq)))
    exact ⟨_, ded_whole hd, rfl⟩
  · repeat (first | intro id | refine goq ?_)
    refine WpO.mono (compact_l1 (cap := cap) rfl hn2 rfl rfl (l.length - 1) 1 _ (by omega) (by omega) ?_ ?_ ?_) ?_
    · exact slotq
    · exact slotq
    · match l, h2 with
      | a :: r, _ => rfl
    rintro ex t1 L' (⟨rfl, g0, hd, rfl⟩ | ⟨rfl, v, c, g2, hd, rfl⟩)
    ·
      repeat (first | intro id | refine goq ?_)
      ((first | apply retO_r | apply retO_n); (focus (exact resq)))
      exact ⟨_, ded_whole hd, rfl⟩
    ·
      repeat (first | intro id | refine goq ?_)
      ((first | apply retO_r | apply retO_n); (focus (exact resq)))
      exact ⟨c, hd, rfl⟩
theorem compact_nil (hF : E.fns = fnsT) (hm : E.mode f_slices_Compact_int_int = .open_) : CallO E f_slices_Compact_int_int [anil] L fun v L' => v = anil ∧ L' = L := by
  refine callO_open hm (fns_of hF n_slices_Compact_int_int) ?_
  refine bodyO_of (Nat.le_of_ble_eq_true rfl) ?_; generalize ht : argSlots _ 0 .nil = t; have h0 : t.get 0 = some _ := (by rw [← ht]; rfl); clear ht
  repeat (first | intro id | refine goq ?_)
  ((first | apply retO_r | apply retO_n); (focus (exact resq)))
  exact ⟨rfl, rfl⟩
end Go.Proofs.Ytfaphhcloanhnaa
