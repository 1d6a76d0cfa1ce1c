/- A map that is right: the program's way. -/
import Derived.Test.YtfaphhcloanhnaaRtC7
import Derived.Test.YtfaphhcloanhnaaRtC8
import Derived.Test.YtfaphhcloanhnaaRtC9
import Derived.Test.YtfaphhcloanhnaaRtC13
set_option linter.unusedSimpArgs false
set_option linter.unusedVariables false
namespace Go.Proofs.Ytfaphhcloanhnaa
open Go.Am Go.Ded Go.Dist
set_option maxRecDepth 4000
set_option maxHeartbeats 4000000
variable {E : Env} {L : Hp}
theorem check_l0 {N : Int} {i1 : Nat} {va : AVal} {ps : List (Int × Int)} (hva : SlP va ps) (hlt : ps.length < 2 ^ 62) :
    ∀ (d k : Nat) (t : Tr AVal), d + k = ps.length → t.get 1 = some (.ptr i1 0) → t.get 14 = some va → t.get 15 = some (aint ps.length) → t.get 16 = some (aint k) →
    WpO E (.loop c_route_Check_l0) t ((i1, [aint N, va]) :: L) (fun ex t' L' => Keep [1] t t' ∧ Am.Sub ((i1, [aint N, va]) :: L) L' ∧ ((ex = .exit 0 ∧ ∀ j, k ≤ j → j < ps.length → okP N (ps.getD j (0, 0))) ∨ (ex = .ret ∧ t'.get 2 = some (aint 200) ∧ ¬ okAll N ps))) := by
  intro d
  induction d with
  | zero =>
    intro k t hk h1 h14 h15 h16
    refine wo_loop ?_
    repeat (first | intro id | refine goq ?_)
    exact ⟨by exact keepq, Sub.refl _, .inl ⟨rfl, fun j h1 h2 => by omega⟩⟩
  | succ d ih =>
    intro k t0 hk h1 h14 h15 h16
    have bad : ¬ okP N (ps.getD k (0, 0)) → ¬ okAll N ps := fun h h' => h (h' k (by omega))
    refine wo_loop ?_
    repeat (first | intro id | refine goq ?_)
    ((first | apply genO6 (t0 := t0) (js := [1]) 1 4 14 15 16 23 | apply genW6 (t0 := t0) (js := [1]) 1 4 14 15 16 23); (focus exact keepq); (focus exact slotq); (focus exact slotq); (focus exact slotq); (focus exact slotq); (focus exact slotq); (focus exact slotq); intro t gK g1 g4 g14 g15 g16 g23)
    (refine oo_guard g23 (fun hc => ?_) (fun hc => ?_) <;> (rw [hc] at g23) <;> (try simp only [decide_eq_true_eq, decide_eq_false_iff_not, ne_eq, Decidable.not_not] at hc))
    · repeat (first | intro id | refine goq ?_)
      exact ⟨by exact keepq, by exact subq, .inr ⟨rfl, by exact slotq, bad fun h => by unfold okP at h; omega⟩⟩
    · repeat (first | intro id | refine goq ?_)
      (refine oo_guard (by exact slotq) (fun hc => ?_) (fun hc => ?_) <;> (try simp only [hc]) <;> (try simp only [decide_eq_true_eq, decide_eq_false_iff_not, ne_eq, Decidable.not_not] at hc))
      · repeat (first | intro id | refine goq ?_)
        exact ⟨by exact keepq, by exact subq, .inr ⟨rfl, by exact slotq, bad fun h => by unfold okP at h; omega⟩⟩
      · repeat (first | intro id | refine goq ?_)
        (refine oo_guard (by exact slotq) (fun hc => ?_) (fun hc => ?_) <;> (try simp only [hc]) <;> (try simp only [decide_eq_true_eq, decide_eq_false_iff_not, ne_eq, Decidable.not_not] at hc))
        · repeat (first | intro id | refine goq ?_)
          exact ⟨by exact keepq, by exact subq, .inr ⟨rfl, by exact slotq, bad fun h => by unfold okP at h; omega⟩⟩
        · repeat (first | intro id | refine goq ?_)
          (refine oo_guard (by exact slotq) (fun hc => ?_) (fun hc => ?_) <;> (try simp only [hc]) <;> (try simp only [decide_eq_true_eq, decide_eq_false_iff_not, ne_eq, Decidable.not_not] at hc))
          · repeat (first | intro id | refine goq ?_)
            exact ⟨by exact keepq, by exact subq, .inr ⟨rfl, by exact slotq, bad fun h => by unfold okP at h; omega⟩⟩
          · repeat (first | intro id | refine goq ?_)
            refine wo_cond_if (by exact slotq) (fun hc => ?_) (fun hc => ?_) <;> (try simp only [decide_eq_true_eq, decide_eq_false_iff_not, ne_eq, Decidable.not_not] at hc)
            · repeat (first | intro id | refine goq ?_)
              exact ⟨by exact keepq, by exact subq, .inr ⟨rfl, by exact slotq, bad fun h => by unfold okP at h; omega⟩⟩
            · repeat (first | intro id | refine goq ?_)
              refine WpO.weak (WpO.mono (ih (k + 1) _ ?_ ?_ ?_ ?_ ?_) ?_) (Sub.skip (Sub.refl _))
              · omega
              · exact slotq
              · exact slotq
              · exact slotq
              · exact slotq
              · rintro ex t' L' ⟨e1, e2, e3⟩
                refine ⟨Keep.trans (by exact keepq) e1, e2, ?_⟩
                rcases e3 with ⟨e3, e4⟩ | e3
                · refine .inl ⟨e3, fun j hj hl => ?_⟩
                  by_cases e : j = k
                  · subst e; unfold okP; omega
                  · exact e4 j (by omega) hl
                · exact .inr e3

theorem Check_ok (hF : E.fns = fnsT) (hm : E.mode f_route_Check = .iso false) (hmn : E.mode f_route_near = .iso true) (hms : E.mode f_slices_Sort_int_int = .known) (hk : E.known f_slices_Sort_int_int = knSort) (hmc : E.mode f_slices_Compact_int_int = .open_) (hst : StepsC E) (hmco : E.mode f_slices_Contains_int_int = .iso false) (hmi : E.mode f_slices_Index_int_int = .iso false)
    {N : Int} {va : AVal} {ps : List (Int × Int)} (hva : SlP va ps) (hlt : ps.length ≤ 1000000) :
    CallO E f_route_Check [.agg [aint N, va]] L fun v L' => (∃ e : Int, v = aint e ∧ (e = 0 ↔ RightP N ps) ∧ (e = 0 ∨ e = 200)) ∧ L' = L := by
  refine callO_iso0 (R := fun v => ∃ e : Int, v = aint e ∧ (e = 0 ↔ RightP N ps) ∧ (e = 0 ∨ e = 200)) hm (fns_of hF n_route_Check) (vs_bare (bare_MapA ⟨va, rfl, hva⟩) vs_nil) ?_
  have no : ¬ RightP N ps → ∃ e : Int, aint 200 = aint e ∧ (e = 0 ↔ RightP N ps) ∧ (e = 0 ∨ e = 200) := fun h => ⟨200, rfl, ⟨fun h => by omega, fun h' => (h h').elim⟩, .inr rfl⟩
  refine bodyO_of (Nat.le_of_ble_eq_true rfl) ?_; generalize ht : argSlots _ 0 .nil = t; have h0 : t.get 0 = some _ := (by rw [← ht]; rfl); clear ht
  by_cases b1 : N < 1
  · repeat (first | intro id | refine goq ?_)
    ((first | apply retO_r | apply retO_n); (focus (exact resq)))
    exact ⟨rfl, no fun h => by have := h.n1; omega⟩
  by_cases b2 : 64 < N
  · repeat (first | intro id | refine goq ?_)
    ((first | apply retO_r | apply retO_n); (focus (exact resq)))
    exact ⟨rfl, no fun h => by have := h.n2; omega⟩
  obtain ⟨M, rfl⟩ : ∃ k : Nat, N = k := ⟨N.toNat, by omega⟩
  repeat (first | intro id | refine goq ?_)
  refine WpO.mono (check_l0 (i1 := id) (L := []) hva (by omega) ps.length 0 _ (by omega) ?_ ?_ ?_ ?_) ?_
  · exact slotq
  · exact slotq
  · exact slotq
  · exact slotq
  rintro ex t1 L' ⟨hK, hsub, ⟨rfl, hall⟩ | ⟨rfl, h2, hbad⟩⟩
  · have h1 : t1.get 1 = some (.ptr id 0) := (hK.ex 1 rfl).trans (by exact slotq)
    have hok : okAll M ps := fun j hj => hall j (by omega) hj
    have hnp := npairs_length ps
    refine blkO.x (seqO.n (WpO.weak ?_ hsub))
    repeat (first | intro id | refine goq ?_)
    refine gok ?_
    refine (near_ok hF hmn hms hk hmc (by omega) (npairs_lt hok) (SlP_N hok hva) (by omega)).mono ?_
    rintro vn L' ⟨hn, rfl⟩
    repeat (first | intro id | refine goq ?_)
    refine gok ?_
    refine (hst _ _ 0 (Adj (npairs ps)) _ _ (by omega) (by omega) (nbs_length _ _) hn (fun a ha b => by rw [nbs_getD ha]; exact nbl_mem) ?_).mono ?_
    · intro a
      by_cases ha : a < M
      · rw [nbs_getD ha]
        have := nbl_len M (npairs ps) a
        omega
      · simp [nbs, ha]
    rintro vs L' ⟨r, Bs, us, hd, hr, rfl, hsee⟩
    have hrd : r = dist M (npairs ps) 0 := hd.unique (dist_is (fun p hp => by
      obtain ⟨k, hk, e⟩ := List.getElem_of_mem hp
      have := npairs_lt hok k hk
      simp only [List.getD_eq_getElem?_getD, List.getElem?_eq_getElem hk, Option.getD_some, e] at this
      exact this) (by omega))
    repeat (first | intro id | refine goq ?_)
    refine gok ?_
    refine (contains_ok hF hmco hmi (hsee _ _ _ (fun _ _ h => h.appl) (vs_bare rfl vs_nil)) hr (by rw [hd.len]; omega)).mono ?_
    rintro u L' ⟨rfl, rfl⟩
    by_cases hc1 : (-1 : Int) ∈ r
    · rw [decide_eq_true hc1]
      repeat (first | intro id | refine goq ?_)
      ((first | apply retO_r | apply retO_n); (focus (exact resq)))
      refine ⟨rfl, no fun h => ?_⟩
      obtain ⟨j, hj, e⟩ := List.getElem_of_mem hc1
      have h4 := h.all j (by rw [Int.toNat_natCast]; rw [hd.len] at hj; exact hj)
      rw [Int.toNat_natCast, ← hrd, List.getD_eq_getElem?_getD, List.getElem?_eq_getElem hj, Option.getD_some, e] at h4
      omega
    · rw [decide_eq_false hc1]
      repeat (first | intro id | refine goq ?_)
      ((first | apply retO_r | apply retO_n); (focus (exact resq)))
      refine ⟨rfl, 0, rfl, ⟨fun _ => ⟨by omega, by omega, hok, fun v hv => ?_⟩, fun _ => rfl⟩, .inl rfl⟩
      rw [Int.toNat_natCast] at hv ⊢
      rw [← hrd]
      have h5 := hd.lo v hv
      by_cases h6 : 0 ≤ r.getD v 0
      · exact h6
      · have h7 : v < r.length := by rw [hd.len]; exact hv
        refine absurd ?_ hc1
        have e : r.getD v 0 = -1 := by omega
        rw [← e, List.getD_eq_getElem?_getD, List.getElem?_eq_getElem h7]
        exact List.getElem_mem h7
  ·
    repeat (first | intro id | refine goq ?_)
    ((first | apply retO_r | apply retO_n); (focus (exact resq)))
    exact ⟨rfl, no fun h => hbad h.ok⟩
end Go.Proofs.Ytfaphhcloanhnaa
