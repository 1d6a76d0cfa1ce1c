/- A map that is right: the document's way. -/
import Derived.Test.YtfaphhcloanhnaaRtC6
set_option linter.unusedSimpArgs false
set_option linter.unusedVariables false
namespace Go.Proofs.Ytfaphhcloanhnaa
open Go.Am Go.Dist
set_option maxRecDepth 4000
set_option maxHeartbeats 4000000
variable {E : Env} {L : Hp}
def okP (N : Int) (p : Int × Int) : Prop := 0 ≤ p.1 ∧ p.1 < N ∧ 0 ≤ p.2 ∧ p.2 < N ∧ p.1 ≠ p.2
def npairs (ps : List (Int × Int)) : List (Nat × Nat) := ps.map fun p => (p.1.toNat, p.2.toNat)
def okAll (N : Int) (ps : List (Int × Int)) : Prop := ∀ j, j < ps.length → okP N (ps.getD j (0, 0))
structure RightP (N : Int) (ps : List (Int × Int)) : Prop where
  n1 : 1 ≤ N
  n2 : N ≤ 64
  ok : okAll N ps
  all : ∀ v, v < N.toNat → 0 ≤ (dist N.toNat (npairs ps) 0).getD v 0
theorem npairs_length (ps : List (Int × Int)) : (npairs ps).length = ps.length := by simp [npairs]
theorem npairs_getD {ps : List (Int × Int)} {k : Nat} (h : k < ps.length) : (npairs ps).getD k (0, 0) = ((ps.getD k (0, 0)).1.toNat, (ps.getD k (0, 0)).2.toNat) := by simp [npairs, h]
theorem ipairs_npairs {N : Int} {ps : List (Int × Int)} (h : okAll N ps) : ipairs (npairs ps) = ps := by
  refine List.ext_getElem (by rw [ipairs_length, npairs_length]) fun k h1 h2 => ?_
  have := h k h2
  simp only [List.getD_eq_getElem?_getD, List.getElem?_eq_getElem h2, Option.getD_some] at this
  simp only [ipairs, npairs, List.getElem_map]
  unfold okP at this
  rw [Int.toNat_of_nonneg this.1, Int.toNat_of_nonneg this.2.2.1]
theorem npairs_lt {N : Nat} {ps : List (Int × Int)} (h : okAll N ps) : ∀ k, k < (npairs ps).length → ((npairs ps).getD k (0, 0)).1 < N ∧ ((npairs ps).getD k (0, 0)).2 < N := by
  intro k hk
  rw [npairs_length] at hk
  rw [npairs_getD hk]
  have := h k hk
  unfold okP at this
  simp only
  omega
theorem SlP_N {N : Int} {v : AVal} {ps : List (Int × Int)} (h : okAll N ps) (hv : SlP v ps) : SlN v (npairs ps) := by
  unfold SlN
  rw [ipairs_npairs h, npairs_length]
  exact hv

theorem right_l0 {N : Int} {i1 : Nat} {va : AVal} {ps : List (Int × Int)} (hst : still E c_phasorref20_Right_r5 = true) (hva : SlP va ps) (hlt : ps.length < 2 ^ 62) (hi1 : In i1 [aint N, va] L) :
    ∀ (d k : Nat) (t : Tr AVal), d + k = ps.length → t.get 1 = some (.ptr i1 0) → t.get 3 = some (aint k) →
    WpO E (.loop c_phasorref20_Right_l0) t L (fun ex t' L' => Keep [1] t t' ∧ L' = L ∧ ((ex = .exit 0 ∧ ∀ j, k ≤ j → j < ps.length → okP N (ps.getD j (0, 0))) ∨ (ex = .ret ∧ t'.get 2 = some (abool false) ∧ ¬ okAll N ps))) := by
  intro d
  induction d with
  | zero =>
    intro k t hk h1 h3
    refine wo_loop ?_
    repeat (first | intro id | refine goq ?_)
    exact ⟨by exact keepq, rfl, .inl ⟨rfl, fun j h1 h2 => by omega⟩⟩
  | succ d ih =>
    intro k t0 hk h1 h3
    have bad : ¬ okP N (ps.getD k (0, 0)) → ¬ okAll N ps := fun h h' => h (h' k (by omega))
    refine wo_loop ?_
    repeat (first | intro id | refine goq ?_)
    ((first | apply genO5 (t0 := t0) (js := [1]) 1 3 4 5 37 | apply genW5 (t0 := t0) (js := [1]) 1 3 4 5 37); (focus exact keepq); (focus exact slotq); (focus exact slotq); (focus exact slotq); (focus exact slotq); (focus exact slotq); intro t gK g1 g3 g4 g5 g37)
    (refine oo_guard g37 (fun hc => ?_) (fun hc => ?_) <;> (rw [hc] at g37) <;> (try simp only [decide_eq_true_eq, decide_eq_false_iff_not, ne_eq, Decidable.not_not] at hc))
    · repeat (first | intro id | refine goq ?_)
      exact ⟨by exact keepq, rfl, .inr ⟨rfl, by exact slotq, bad fun h => by unfold okP at h; omega⟩⟩
    · repeat (first | intro id | refine goq ?_)
      (refine oo_guard (by exact slotq) (fun hc => ?_) (fun hc => ?_) <;> (try simp only [hc]) <;> (try simp only [decide_eq_true_eq, decide_eq_false_iff_not, ne_eq, Decidable.not_not] at hc))
      · repeat (first | intro id | refine goq ?_)
        exact ⟨by exact keepq, rfl, .inr ⟨rfl, by exact slotq, bad fun h => by unfold okP at h; omega⟩⟩
      · repeat (first | intro id | refine goq ?_)
        (refine oo_guard (by exact slotq) (fun hc => ?_) (fun hc => ?_) <;> (try simp only [hc]) <;> (try simp only [decide_eq_true_eq, decide_eq_false_iff_not, ne_eq, Decidable.not_not] at hc))
        · repeat (first | intro id | refine goq ?_)
          exact ⟨by exact keepq, rfl, .inr ⟨rfl, by exact slotq, bad fun h => by unfold okP at h; omega⟩⟩
        · repeat (first | intro id | refine goq ?_)
          (refine oo_guard (by exact slotq) (fun hc => ?_) (fun hc => ?_) <;> (try simp only [hc]) <;> (try simp only [decide_eq_true_eq, decide_eq_false_iff_not, ne_eq, Decidable.not_not] at hc))
          · repeat (first | intro id | refine goq ?_)
            exact ⟨by exact keepq, rfl, .inr ⟨rfl, by exact slotq, bad fun h => by unfold okP at h; omega⟩⟩
          · repeat (first | intro id | refine goq ?_)
            refine wo_cond_if (by exact slotq) (fun hc => ?_) (fun hc => ?_) <;> (try simp only [decide_eq_true_eq, decide_eq_false_iff_not, ne_eq, Decidable.not_not] at hc)
            · repeat (first | intro id | refine goq ?_)
              exact ⟨by exact keepq, rfl, .inr ⟨rfl, by exact slotq, bad fun h => by unfold okP at h; omega⟩⟩
            · repeat (first | intro id | refine goq ?_)
              refine WpO.mono (ih (k + 1) _ ?_ ?_ ?_) ?_
              · omega
              · exact slotq
              · exact slotq
              · rintro ex t' L' ⟨e1, e2, e3⟩
                refine ⟨Keep.trans (by exact keepq) e1, e2, ?_⟩
                rcases e3 with ⟨e3, e4⟩ | e3
                · refine .inl ⟨e3, fun j hj hl => ?_⟩
                  by_cases e : j = k
                  · subst e; unfold okP; omega
                  · exact e4 j (by omega) hl
                · exact .inr e3

theorem right_l1 {N i1 : Nat} {va vd : AVal} {us : List AVal} {u : AVal} {r : List Int} {n : Nat} (hN : N ≤ 64) (hi1 : In i1 [aint N, va] L) (hd : RowA vd us n) (hn : 0 < n) (hl : 0 < us.length) (hu : us[0]? = some u) (hr : SlI u r) (hrl : r.length = N) :
    ∀ (d k : Nat) (t : Tr AVal), d + k = N → t.get 1 = some (.ptr i1 0) → t.get 6 = some vd → t.get 7 = some (aint k) →
    WpO E (.loop c_phasorref20_Right_l1) t L (fun ex t' L' => L' = L ∧ ((ex = .exit 2 ∧ ∀ j, k ≤ j → j < N → 0 ≤ r.getD j 0) ∨ (ex = .ret ∧ t'.get 2 = some (abool false) ∧ ∃ j, j < N ∧ r.getD j 0 < 0))) := by
  intro d
  induction d with
  | zero =>
    intro k t hk h1 h6 h7
    refine wo_loop ?_
    repeat (first | intro id | refine goq ?_)
    exact ⟨rfl, .inl ⟨rfl, fun j h1 h2 => by omega⟩⟩
  | succ d ih =>
    intro k t hk h1 h6 h7
    refine wo_loop ?_
    repeat (first | intro id | refine goq ?_)
    refine wo_cond_if (by exact slotq) (fun hc => ?_) (fun hc => ?_) <;> (try simp only [decide_eq_true_eq, decide_eq_false_iff_not, ne_eq, Decidable.not_not] at hc)
    · repeat (first | intro id | refine goq ?_)
      exact ⟨rfl, .inr ⟨rfl, by exact slotq, k, by omega, hc⟩⟩
    · repeat (first | intro id | refine goq ?_)
      refine WpO.mono (ih (k + 1) _ ?_ ?_ ?_ ?_) ?_
      · omega
      · exact slotq
      · exact slotq
      · exact slotq
      · rintro ex t' L' ⟨e2, e3⟩
        refine ⟨e2, ?_⟩
        rcases e3 with ⟨e3, e4⟩ | e3
        · refine .inl ⟨e3, fun j hj hl => ?_⟩
          by_cases e : j = k
          · subst e; omega
          · exact e4 j (by omega) hl
        · exact .inr e3

theorem Right_ok (hF : E.fns = fnsT) (hm : E.mode f_phasorref20_Right = .iso false) (hmf : E.mode f_phasorref20_far = .iso true) {N : Int} {va : AVal} {ps : List (Int × Int)} (hva : SlP va ps) (hlt : ps.length < 2 ^ 62) :
    CallO E f_phasorref20_Right [.agg [aint N, va]] L fun v L' => (∃ b : Bool, v = abool b ∧ (b = true ↔ RightP N ps)) ∧ L' = L := by
  refine callO_iso0 (R := fun v => ∃ b : Bool, v = abool b ∧ (b = true ↔ RightP N ps)) hm (fns_of hF n_phasorref20_Right) (vs_bare (bare_MapA ⟨va, rfl, hva⟩) vs_nil) ?_
  refine bodyO_of (Nat.le_of_ble_eq_true rfl) ?_; generalize ht : argSlots _ 0 .nil = t; have h0 : t.get 0 = some _ := (by rw [← ht]; rfl); clear ht
  by_cases b1 : N < 1
  · repeat (first | intro id | refine goq ?_)
    ((first | apply retO_r | apply retO_n); (focus (exact resq)))
    exact ⟨rfl, false, rfl, fun h => (nomatch h), fun h => by have := h.n1; omega⟩
  by_cases b2 : 64 < N
  · repeat (first | intro id | refine goq ?_)
    ((first | apply retO_r | apply retO_n); (focus (exact resq)))
    exact ⟨rfl, false, rfl, fun h => (nomatch h), fun h => by have := h.n2; omega⟩
  obtain ⟨M, rfl⟩ : ∃ k : Nat, N = k := ⟨N.toNat, by omega⟩
  repeat (first | intro id | refine goq ?_)
  refine WpO.mono (right_l0 (i1 := id) rfl hva hlt (by exact inq) ps.length 0 _ (by omega) ?_ ?_) ?_
  · exact slotq
  · exact slotq
  rintro ex t1 L' ⟨hK, rfl, ⟨rfl, hall⟩ | ⟨rfl, h2, hbad⟩⟩
  · have h1 : t1.get 1 = some (.ptr id 0) := (hK.ex 1 rfl).trans (by exact slotq)
    have hok : okAll M ps := fun j hj => hall j (by omega) hj
    repeat (first | intro id | refine goq ?_)
    refine gok ?_
    refine (far_ok hF hmf (by omega) (npairs_lt hok) (SlP_N hok hva) (by rw [npairs_length]; exact hlt)).mono ?_
    rintro vd L' ⟨hd, rfl⟩
    obtain ⟨us, hd1, hd2, hd3⟩ := hd.row
    rw [dists_length] at hd1 hd2 hd3
    obtain ⟨u, hu1, hu2⟩ := hd3 0 (by omega)
    have e0 : (dists M (npairs ps) M).getD 0 [] = dist M (npairs ps) 0 := by simp [dists, show 0 < M by omega]
    rw [e0] at hu2
    repeat (first | intro id | refine goq ?_)
    refine WpO.mono (right_l1 (N := M) (i1 := id) (by omega) (by exact inq) hd1 (by omega) (by omega) hu1 hu2 (dist_len _ _ _) M 0 _ (by omega) ?_ ?_ ?_) ?_
    · exact slotq
    · exact slotq
    · exact slotq
    rintro ex t2 L' ⟨rfl, ⟨rfl, hq⟩ | ⟨rfl, g2, j, hj, hq⟩⟩
    · repeat (first | intro id | refine goq ?_)
      ((first | apply retO_r | apply retO_n); (focus (exact resq)))
      exact ⟨rfl, true, rfl, fun _ => ⟨by omega, by omega, hok, fun v hv => hq v (by omega) (by omega)⟩, fun _ => rfl⟩
    ·
      repeat (first | intro id | refine goq ?_)
      ((first | apply retO_r | apply retO_n); (focus (exact resq)))
      refine ⟨rfl, false, rfl, fun h => (nomatch h), fun h => ?_⟩
      have := h.all j (by omega)
      rw [Int.toNat_natCast] at this
      omega
  ·
    repeat (first | intro id | refine goq ?_)
    ((first | apply retO_r | apply retO_n); (focus (exact resq)))
    exact ⟨rfl, false, rfl, fun h => (nomatch h), fun h => (hbad h.ok).elim⟩
end Go.Proofs.Ytfaphhcloanhnaa
