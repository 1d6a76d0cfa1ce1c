/- The document's way to reckon steps: by rounds over all pairs. -/
import Derived.Test.YtfaphhcloanhnaaRtC1
import Derived.Test.YtfaphhcloanhnaaRtDist
set_option linter.unusedSimpArgs false
set_option linter.unusedVariables false
namespace Go.Proofs.Ytfaphhcloanhnaa
open Go.Am Go.Dist
set_option maxRecDepth 4000
set_option maxHeartbeats 4000000
variable {E : Env} {L : Hp}
theorem far_l1 {N i1 ir : Nat} {s : Int} {v1 : List AVal} {va : AVal} {ps : List (Nat × Nat)} (hs : 0 ≤ s) (hs2 : s < 100) (hst : still E c_phasorref20_far_r14 = true) (hps : ∀ k, k < ps.length → (ps.getD k (0, 0)).1 < N ∧ (ps.getD k (0, 0)).2 < N) (hva : SlN va ps) (hlt : ps.length < 2 ^ 62) (hi1 : In i1 [aint N, va] L) :
    ∀ (d k : Nat) (t : Tr AVal) (r : List Int), d + k = ps.length → t.get 1 = some (.ptr i1 0) → t.get 5 = some (.sl ir 0 N 1 (some N)) → t.get 7 = some (aint s) → t.get 8 = some (aint k) → r.length = N →
    WpO E (.loop c_phasorref20_far_l1) t ((ir, r.map aint) :: L) (fun ex t' L' => ex = .exit 6 ∧ Keep [1, 2, 3, 4, 5, 7] t t' ∧ L' = (ir, (relA s (ps.drop k) r).map aint) :: L) := by
  intro d
  induction d with
  | zero =>
    intro k t r hk h1 h5 h7 h8 hr
    refine wo_loop ?_
    repeat (first | intro id | refine goq ?_)
    refine ⟨rfl, by exact keepq, ?_⟩
    rw [List.drop_of_length_le (by omega)]
    rfl
  | succ d ih =>
    intro k t0 r hk h1 h5 h7 h8 hr
    obtain ⟨ha, hb⟩ := hps k (by omega)
    have key : ∀ (t1 : Tr AVal) (r1 : List Int), Keep [1, 2, 3, 4, 5, 7] t0 t1 → t1.get 8 = some (aint ((k + 1 : Nat) : Int)) → r1.length = N → r1 = relP s r (ps.getD k (0, 0)) →
        WpO E (.loop c_phasorref20_far_l1) t1 ((ir, r1.map aint) :: L) (fun ex t' L' => ex = .exit 6 ∧ Keep [1, 2, 3, 4, 5, 7] t0 t' ∧ L' = (ir, (relA s (ps.drop k) r).map aint) :: L) := by
      intro t1 r1 hK h8' hl hr1
      refine WpO.mono (ih (k + 1) t1 r1 (by omega) ((hK.ex 1 rfl).trans h1) ((hK.ex 5 rfl).trans h5) ((hK.ex 7 rfl).trans h7) h8' hl) ?_
      rintro ex t' L' ⟨e1, e2, e3⟩
      refine ⟨e1, hK.trans e2, ?_⟩
      have e : ps.drop k = ps.getD k (0, 0) :: ps.drop (k + 1) := by
        rw [List.drop_eq_getElem_cons (by omega : k < ps.length)]
        simp [show k < ps.length by omega]
      rw [e3, hr1, e]
      rfl
    refine wo_loop ?_
    repeat (first | intro id | refine goq ?_)
    ((first | apply genO7 (t0 := t0) (js := [1, 2, 3, 4, 5, 7]) 1 5 7 8 9 10 63 | apply genW7 (t0 := t0) (js := [1, 2, 3, 4, 5, 7]) 1 5 7 8 9 10 63); (focus exact keepq); (focus exact slotq); (focus exact slotq); (focus exact slotq); (focus exact slotq); (focus exact slotq); (focus exact slotq); (focus exact slotq); intro t gK g1 g5 g7 g8 g9 g10 g63)
    (refine oo_guard g63 (fun hc => ?_) (fun hc => ?_) <;> (rw [hc] at g63) <;> (try simp only [decide_eq_true_eq, decide_eq_false_iff_not, ne_eq, Decidable.not_not] at hc))
    · have c1 := hc
      repeat (first | intro id | refine goq ?_)
      refine wo_cond_if (by exact slotq) (fun hc => ?_) (fun hc => ?_) <;> (try simp only [decide_eq_true_eq, decide_eq_false_iff_not, ne_eq, Decidable.not_not] at hc)
      · have e1 : (r.set (ps.getD k (0, 0)).2 (s + 1)).getD (ps.getD k (0, 0)).2 0 = s + 1 := by rw [getD_set, if_pos ⟨rfl, by omega⟩]
        have hl2 : (r.set (ps.getD k (0, 0)).2 (s + 1)).length = N := by rw [List.length_set, hr]
        have er : r.set (ps.getD k (0, 0)).2 (s + 1) = relP s r (ps.getD k (0, 0)) := by
          unfold relP
          rw [show rel1 s r (ps.getD k (0, 0)).1 (ps.getD k (0, 0)).2 = r.set (ps.getD k (0, 0)).2 (s + 1) by unfold rel1; rw [if_pos ⟨by omega, by omega⟩]]
          unfold rel1
          rw [if_neg (by omega)]
        repeat (first | intro id | refine goq ?_)
        exact key _ _ (by exact keepq) (by exact slotq) hl2 er
      · have er : r = relP s r (ps.getD k (0, 0)) := by
          unfold relP
          rw [show rel1 s r (ps.getD k (0, 0)).1 (ps.getD k (0, 0)).2 = r by unfold rel1; rw [if_neg (by omega)]]
          unfold rel1
          rw [if_neg (by omega)]
        repeat (first | intro id | refine goq ?_)
        (refine oo_guard (by exact slotq) (fun hc => ?_) (fun hc => ?_) <;> (try simp only [hc]) <;> (try simp only [decide_eq_true_eq, decide_eq_false_iff_not, ne_eq, Decidable.not_not] at hc))
        · repeat (first | intro id | refine goq ?_)
          exact key _ _ (by exact keepq) (by exact slotq) hr er
        · repeat (first | intro id | refine goq ?_)
          exact key _ _ (by exact keepq) (by exact slotq) hr er
    · have er1 : rel1 s r (ps.getD k (0, 0)).1 (ps.getD k (0, 0)).2 = r := by unfold rel1; rw [if_neg (by omega)]
      repeat (first | intro id | refine goq ?_)
      (refine oo_guard (by exact slotq) (fun hc => ?_) (fun hc => ?_) <;> (try simp only [hc]) <;> (try simp only [decide_eq_true_eq, decide_eq_false_iff_not, ne_eq, Decidable.not_not] at hc))
      · have c3 := hc
        repeat (first | intro id | refine goq ?_)
        refine wo_cond_if (by exact slotq) (fun hc => ?_) (fun hc => ?_) <;> (try simp only [decide_eq_true_eq, decide_eq_false_iff_not, ne_eq, Decidable.not_not] at hc)
        · have hl2 : (r.set (ps.getD k (0, 0)).1 (s + 1)).length = N := by rw [List.length_set, hr]
          have er : r.set (ps.getD k (0, 0)).1 (s + 1) = relP s r (ps.getD k (0, 0)) := by
            unfold relP
            rw [er1]
            unfold rel1
            rw [if_pos ⟨by omega, by omega⟩]
          repeat (first | intro id | refine goq ?_)
          exact key _ _ (by exact keepq) (by exact slotq) hl2 er
        · have er : r = relP s r (ps.getD k (0, 0)) := by
            unfold relP
            rw [er1]
            unfold rel1
            rw [if_neg (by omega)]
          repeat (first | intro id | refine goq ?_)
          exact key _ _ (by exact keepq) (by exact slotq) hr er
      · have er : r = relP s r (ps.getD k (0, 0)) := by
          unfold relP
          rw [er1]
          unfold rel1
          rw [if_neg (by omega)]
        repeat (first | intro id | refine goq ?_)
        exact key _ _ (by exact keepq) (by exact slotq) hr er
end Go.Proofs.Ytfaphhcloanhnaa
