/- Parts of the proof, joined by program: RwW4, RwT6, RwV4, RwXL, RwSH. -/
import Derived.Test.YtmflheoafeenfaaGreatPa31
import Derived.Test.YtmflheoafeenfaaGreatPa32
import Derived.Test.YtmflheoafeenfaaGreatPa26
import Derived.Test.YtmflheoafeenfaaGreatPa30
import Derived.Test.YtmflheoafeenfaaGreatPa27
import Derived.Test.YtmflheoafeenfaaGreatPa23
import Derived.Test.YtmflheoafeenfaaGreatRows
import Derived.Test.YtmflheoafeenfaaGreatPa9
set_option linter.unusedSimpArgs false
set_option linter.unusedVariables false
namespace Go.Proofs.YtmflheoafeenfaaGreat
open Go.Am
set_option maxRecDepth 4000
set_option maxHeartbeats 16000000
theorem fCmp_neq (a b : Nat) : fCmp .neq a b = !fCmp .eql a b := rfl
theorem ralike_l0 (h7 : still ER c_phasorref06_Alike_r7 = true) {n r : Nat} {va vb : AVal} {a b : List (List Cx)} {L : Hp} (hn : n ≤ 64) (ha : MatZ va n a) (hb : MatZ vb n b) (hr : r < n) :
    ∀ (d c : Nat) (t : Tr AVal), d + c = n → t.get 0 = some va → t.get 1 = some vb → t.get 5 = some (aint r) → t.get 6 = some (aint c) →
    WpO ER (.loop c_phasorref06_Alike_l0) t L (fun ex t' L' => ((ex = .exit 2 ∧ eqCL ((a.getD r []).drop c) ((b.getD r []).drop c) = true ∧ Keep [0, 1, 5] t t') ∨ (ex = .ret ∧ t'.get 4 = some (abool false) ∧ eqCL ((a.getD r []).drop c) ((b.getD r []).drop c) = false)) ∧ L' = L) := by
  obtain ⟨a1, a2, ua, a3, a4, a5⟩ := ha
  obtain ⟨b1, b2, ub, b3, b4, b5⟩ := hb
  have ha1 := RowA.isOne a3
  have hb1 := RowA.isOne b3
  obtain ⟨x, hx, hxs⟩ := a5 r hr
  obtain ⟨y, hy, hys⟩ := b5 r hr
  have lx := a2 r hr
  have ly := b2 r hr
  have hxd : (ua.drop (r * 1))[0]? = some x := by rw [Nat.mul_one, List.getElem?_drop]; exact hx
  have hyd : (ub.drop (r * 1))[0]? = some y := by rw [Nat.mul_one, List.getElem?_drop]; exact hy
  unfold SlZ at hxs hys
  have x1 := RowA.isOne hxs
  have y1 := RowA.isOne hys
  have zl1 := zcells_len (a.getD r [])
  have zl2 := zcells_len (b.getD r [])
  intro d
  induction d with
  | zero =>
    intro c t hd h0 h1 h5 h6
    obtain rfl : c = n := by omega
    refine wo_loop ?_
    repeat (first | intro id | refine goq ?_)
    refine ⟨.inl ⟨rfl, ?_, by exact keepq⟩, rfl⟩
    rw [List.drop_eq_nil_of_le (by omega), List.drop_eq_nil_of_le (by omega)]
    rfl
  | succ d ih =>
    intro c t hd h0 h1 h5 h6
    have hc : c < n := by omega
    have hx0 := getZ0 (l := a.getD r []) (k := c) (by omega)
    have hx1 := getZ1 (l := a.getD r []) (k := c) (by omega)
    have hy0 := getZ0 (l := b.getD r []) (k := c) (by omega)
    have hy1 := getZ1 (l := b.getD r []) (k := c) (by omega)
    have d1 : 2 ≤ ((zcells (a.getD r [])).drop (c * 2)).length := by rw [List.length_drop, zl1]; omega
    have d2 : 2 ≤ ((zcells (b.getD r [])).drop (c * 2)).length := by rw [List.length_drop, zl2]; omega
    rw [eqCL_drop (by omega) (by omega)]
    unfold eqC
    refine wo_loop ?_
    repeat (first | intro id | refine goq ?_)
    rw [fCmp_neq]
    cases h1 : fCmp .eql (gC (a.getD r []) c).1 (gC (b.getD r []) c).1 with
    | false =>
      simp only [Bool.not_false, Bool.false_and]
      repeat (first | intro id | refine goq ?_)
      exact ⟨.inr ⟨rfl, by exact slotq, by simp [h1]⟩, rfl⟩
    | true =>
      simp only [Bool.not_true, Bool.true_and]
      repeat (first | intro id | refine goq ?_)
      rw [fCmp_neq]
      cases h2 : fCmp .eql (gC (a.getD r []) c).2 (gC (b.getD r []) c).2 with
      | false =>
        simp only [Bool.not_false, Bool.false_and]
        repeat (first | intro id | refine goq ?_)
        exact ⟨.inr ⟨rfl, by exact slotq, by simp [h1, h2]⟩, rfl⟩
      | true =>
        simp only [Bool.not_true, Bool.true_and]
        repeat (first | intro id | refine goq ?_)
        refine WpO.mono (ih (c + 1) _ (by omega) ?_ ?_ ?_ ?_) ?_
        · exact slotq
        · exact slotq
        · exact slotq
        · exact slotq
        · rintro ex t' L' ⟨⟨rfl, e1, e2⟩ | e1, e3⟩
          · exact ⟨.inl ⟨rfl, by (first | exact e1 | (simp only [h1, h2, Bool.true_and]; exact e1)), Keep.trans (by exact keepq) e2⟩, e3⟩
          · exact ⟨.inr ⟨e1.1, e1.2.1, by (first | exact e1.2.2 | (simp only [h1, h2, Bool.true_and]; exact e1.2.2))⟩, e3⟩
theorem ralike_l1 (h7 : still ER c_phasorref06_Alike_r7 = true) {n : Nat} {va vb : AVal} {a b : List (List Cx)} {L : Hp} (hn : n ≤ 64) (ha : MatZ va n a) (hb : MatZ vb n b) :
    ∀ (d r : Nat) (t : Tr AVal), d + r = n → t.get 0 = some va → t.get 1 = some vb → t.get 5 = some (aint r) → eqZZ a b = eqZZ (a.drop r) (b.drop r) →
    WpO ER (.loop c_phasorref06_Alike_l1) t L (fun ex t' L' => ((ex = .exit 0 ∧ eqZZ a b = true) ∨ (ex = .ret ∧ t'.get 4 = some (abool false) ∧ eqZZ a b = false)) ∧ L' = L) := by
  have ha0 := ha
  have hb0 := hb
  obtain ⟨a1, a2, ua, a3, a4, a5⟩ := ha
  obtain ⟨b1, b2, ub, b3, b4, b5⟩ := hb
  have ha1 := RowA.isOne a3
  have hb1 := RowA.isOne b3
  intro d
  induction d with
  | zero =>
    intro r t hd h0 h1 h5 he
    obtain rfl : r = n := by omega
    refine wo_loop ?_
    repeat (first | intro id | refine goq ?_)
    refine ⟨.inl ⟨rfl, ?_⟩, rfl⟩
    rw [he, List.drop_eq_nil_of_le (by omega), List.drop_eq_nil_of_le (by omega)]
    rfl
  | succ d ih =>
    intro r t hd h0 h1 h5 he
    have hr : r < n := by omega
    rw [eqZZ_drop (by omega) (by omega)] at he
    refine wo_loop ?_
    repeat (first | intro id | refine goq ?_)
    refine WpO.mono (ralike_l0 h7 (r := r) hn ha0 hb0 hr n 0 _ (by omega) ?_ ?_ ?_ ?_) ?_
    · exact slotq
    · exact slotq
    · exact slotq
    · exact slotq
    simp only [List.drop_zero]
    rintro ex t1 L1 ⟨⟨rfl, e1, hK⟩ | ⟨rfl, e1, e2⟩, rfl⟩
    · have g0 : t1.get 0 = some va := (hK.ex 0 rfl).trans (by exact slotq)
      have g1 : t1.get 1 = some vb := (hK.ex 1 rfl).trans (by exact slotq)
      have g5 : t1.get 5 = some (aint r) := (hK.ex 5 rfl).trans (by exact slotq)
      clear hK
      rw [e1, Bool.true_and] at he
      refine blkO.x (blkO.n (seqO.n ?_))
      repeat (first | intro id | refine goq ?_)
      refine ih (r + 1) _ (by omega) ?_ ?_ ?_ he
      · exact slotq
      · exact slotq
      · exact slotq
    · rw [e2, Bool.false_and] at he
      exact blkO.r (blkO.r (seqO.r (seqO.r ⟨.inr ⟨rfl, e1, he⟩, rfl⟩)))
theorem rAlike_ok (h7 : still ER c_phasorref06_Alike_r7 = true) {n k : Nat} {va vb : AVal} {a b : List (List Cx)} {L : Hp} (hn : n ≤ 64) (hk : k ≤ 64) (ha : MatZ va n a) (hb : MatZ vb k b) : CallO ER f_phasorref06_Alike [va, vb] L fun r L' => r = abool (eqZZ a b) ∧ L' = L := by
  refine callO_iso0 (R := fun r => r = abool (eqZZ a b)) rfl n_phasorref06_Alike (vs_bare ha.bare (vs_bare hb.bare vs_nil)) ?_
  have ha0 := ha
  have hb0 := hb
  obtain ⟨a1, a2, ua, a3, a4, a5⟩ := ha
  obtain ⟨b1, b2, ub, b3, b4, b5⟩ := hb
  have ha1 := RowA.isOne a3
  have hb1 := RowA.isOne b3
  by_cases e : n = k
  · subst e
    refine bodyO_of (Nat.le_of_ble_eq_true rfl) ?_; generalize ht : argSlots _ 0 .nil = t; have h0 : t.get 0 = some _ := (by rw [← ht]; rfl); have h1 : t.get 1 = some _ := (by rw [← ht]; rfl); clear ht
    repeat (first | intro id | refine goq ?_)
    refine WpO.mono (ralike_l1 h7 hn ha0 hb0 n 0 _ (by omega) ?_ ?_ ?_ (by simp)) ?_
    · exact slotq
    · exact slotq
    · exact slotq
    rintro ex t1 L1 ⟨⟨rfl, he⟩ | ⟨rfl, g4, he⟩, rfl⟩
    · refine blkO.x (seqO.n ?_)
      rw [he]
      repeat (first | intro id | refine goq ?_)
      ((first | apply retO_r | apply retO_n); (focus (exact resq)))
      exact ⟨rfl, rfl⟩
    · refine blkO.r (seqO.r ?_)
      rw [he]
      ((first | apply retO_r | apply retO_n); (focus (exact resq)))
      exact ⟨rfl, rfl⟩
  · have he : eqZZ a b = false := by
      cases h : eqZZ a b with
      | false => rfl
      | true => exact absurd (eqZZ_len h) (by omega)
    rw [he]
    refine bodyO_of (Nat.le_of_ble_eq_true rfl) ?_; generalize ht : argSlots _ 0 .nil = t; have h0 : t.get 0 = some _ := (by rw [← ht]; rfl); have h1 : t.get 1 = some _ := (by rw [← ht]; rfl); clear ht
    repeat (first | intro id | refine goq ?_)
    ((first | apply retO_r | apply retO_n); (focus (exact resq)))
    exact ⟨rfl, rfl⟩
theorem dimK_le (k : Int) : dimK k ≤ 64 := by
  unfold dimK
  have h4 := arity_le k
  exact Nat.le_trans (Nat.pow_le_pow_right (by omega) (show (arity k).toNat ≤ 3 by omega)) (by decide)
theorem rcompose_l0 {P : List (List Cx)} {n : Nat} {pv : AVal} {L : Hp} (hn : n ≤ 64) (hP : MatZ pv n P) :
    ∀ (d k : Nat) (t : Tr AVal), d + k = 20 → t.get 10 = some pv → t.get 11 = some (aint ((k : Int) + 1)) →
    WpO ER (.loop c_phasorref06_Compose_l0) t L (fun ex t' L' => ((firstZ P d k = 0 ∧ ex = .exit 0) ∨ (firstZ P d k ≠ 0 ∧ ex = .ret ∧ t'.get 4 = some (aint (firstZ P d k)) ∧ t'.get 5 = some (abool true))) ∧ L' = L) := by
  have hP0 := hP
  obtain ⟨p1, p2, up, p3, p4, p5⟩ := hP
  have hp1 := RowA.isOne p3
  intro d
  induction d with
  | zero =>
    intro k t hd h10 h11
    obtain rfl : k = 20 := by omega
    refine wo_loop ?_
    repeat (first | intro id | refine goq ?_)
    exact ⟨.inl ⟨rfl, rfl⟩, rfl⟩
  | succ d ih =>
    intro k t hd h10 h11
    have hk20 : k < 20 := by omega
    have ha : arity ((k : Int) + 1) ≠ 0 := by unfold arity; rw [if_neg (by omega)]; (repeat' split) <;> omega
    have mx := fun (M : Hp) => RMatrix_ok (L := M) ha
    refine wo_loop ?_
    repeat (first | intro id | refine goq ?_)
    refine gok ?_
    refine (mx _).mono ?_
    rintro r L' ⟨⟨v, rfl, hm⟩, rfl⟩
    have hm0 := hm
    obtain ⟨m1, m2, um, m3, m4, m5⟩ := hm
    have hm1 := RowA.isOne m3
    repeat (first | intro id | refine goq ?_)
    refine gok ?_
    refine (rAlike_ok (by kernel_rfl) (dimK_le _) hn hm0 hP0).mono ?_
    rintro r L' ⟨rfl, rfl⟩
    have hf : firstZ P (d + 1) k = if eqZZ (matZ ((k : Int) + 1)) P = true then (k : Int) + 1 else firstZ P d (k + 1) := rfl
    rw [hf]
    cases he : eqZZ (matZ ((k : Int) + 1)) P with
    | true =>
      repeat (first | intro id | refine goq ?_)
      exact ⟨.inr ⟨by rw [if_pos rfl]; omega, rfl, by rw [if_pos rfl]; exact slotq, by exact slotq⟩, rfl⟩
    | false =>
      repeat (first | intro id | refine goq ?_)
      refine WpO.mono (ih (k + 1) _ (by omega) ?_ ?_) ?_
      · exact slotq
      · exact slotq
      · intro ex t' L' h
        simpa using h
theorem rcomp_ok : RCompOk := by
  intro a b M ha0 hb0
  refine (callO_iso0 (R := fun r => r = .tup [aint (compG a b), abool (decide (compG a b ≠ 0))]) rfl n_phasorref06_Compose (vs_bare rfl (vs_bare rfl vs_nil)) ?_)
  by_cases hab : arity a = arity b
  · have he := compZ_eq hab ha0
    have hd : dimK b = dimK a := by unfold dimK; rw [hab]
    have hn8 := dimK_le a
    refine bodyO_of (Nat.le_of_ble_eq_true rfl) ?_; generalize ht : argSlots _ 0 .nil = t; have h0 : t.get 0 = some _ := (by rw [← ht]; rfl); have h1 : t.get 1 = some _ := (by rw [← ht]; rfl); clear ht
    repeat (first | intro id | refine goq ?_)
    refine gok ?_
    refine (Is_ok (E := ER) rfl rfl).mono ?_
    rintro r L' ⟨rfl, rfl⟩
    rw [decide_eq_true ha0]
    repeat (first | intro id | refine goq ?_)
    refine gok ?_
    refine (Is_ok (E := ER) rfl rfl).mono ?_
    rintro r L' ⟨rfl, rfl⟩
    rw [decide_eq_true hb0]
    repeat (first | intro id | refine goq ?_)
    refine gok ?_
    refine (refArity_ok (E := ER) rfl rfl rfl).mono ?_
    rintro r L' ⟨rfl, rfl⟩
    repeat (first | intro id | refine goq ?_)
    refine gok ?_
    refine (refArity_ok (E := ER) rfl rfl rfl).mono ?_
    rintro r L' ⟨rfl, rfl⟩
    repeat (first | intro id | refine goq ?_)
    refine gok ?_
    refine (RMatrix_ok ha0).mono ?_
    rintro r L' ⟨⟨va, rfl, hma⟩, rfl⟩
    have hma0 := hma
    obtain ⟨a1, a2, ua, a3, a4, a5⟩ := hma
    have hma1 := RowA.isOne a3
    repeat (first | intro id | refine goq ?_)
    refine gok ?_
    refine (RMatrix_ok hb0).mono ?_
    rintro r L' ⟨⟨vb, rfl, hmb⟩, rfl⟩
    have hmb0 := hmb
    obtain ⟨b1, b2, ub, b3, b4, b5⟩ := hmb
    have hmb1 := RowA.isOne b3
    rw [hd] at hmb0
    repeat (first | intro id | refine goq ?_)
    refine gok ?_
    refine (rTimes_ok (by kernel_rfl) (by kernel_rfl) (by kernel_rfl) hn8 hmb0 hma0).mono ?_
    rintro pv L' ⟨hmp, rfl⟩
    have hmp0 := hmp
    obtain ⟨p1, p2, up, p3, p4, p5⟩ := hmp
    have hmp1 := RowA.isOne p3
    repeat (first | intro id | refine goq ?_)
    refine WpO.mono (rcompose_l0 (P := timesZ (dimK a) (matZ b) (matZ a)) hn8 hmp0 20 0 _ (by omega) ?_ ?_) ?_
    · exact slotq
    · exact slotq
    rw [he]
    rintro ex t1 L1 ⟨⟨h1, rfl⟩ | ⟨h1, rfl, g4, g5⟩, rfl⟩
    · rw [h1]
      refine blkO.x (seqO.n ?_)
      repeat (first | intro id | refine goq ?_)
      ((first | apply retO_r | apply retO_n); (focus (exact resq)))
      exact ⟨rfl, rfl⟩
    · rw [decide_eq_true h1]
      refine blkO.r (seqO.r ?_)
      ((first | apply retO_r | apply retO_n); (focus (exact resq)))
      exact ⟨rfl, rfl⟩
  · have hc : compG a b = 0 := by
      by_cases h : compG a b = 0
      · exact h
      · obtain ⟨-, h1, h2⟩ := compG_ar h
        exact absurd (h1.trans h2.symm) hab
    rw [hc]
    refine bodyO_of (Nat.le_of_ble_eq_true rfl) ?_; generalize ht : argSlots _ 0 .nil = t; have h0 : t.get 0 = some _ := (by rw [← ht]; rfl); have h1 : t.get 1 = some _ := (by rw [← ht]; rfl); clear ht
    repeat (first | intro id | refine goq ?_)
    refine gok ?_
    refine (Is_ok (E := ER) rfl rfl).mono ?_
    rintro r L' ⟨rfl, rfl⟩
    rw [decide_eq_true ha0]
    repeat (first | intro id | refine goq ?_)
    refine gok ?_
    refine (Is_ok (E := ER) rfl rfl).mono ?_
    rintro r L' ⟨rfl, rfl⟩
    rw [decide_eq_true hb0]
    repeat (first | intro id | refine goq ?_)
    refine gok ?_
    refine (refArity_ok (E := ER) rfl rfl rfl).mono ?_
    rintro r L' ⟨rfl, rfl⟩
    repeat (first | intro id | refine goq ?_)
    refine gok ?_
    refine (refArity_ok (E := ER) rfl rfl rfl).mono ?_
    rintro r L' ⟨rfl, rfl⟩
    repeat (first | intro id | refine goq ?_)
    ((first | apply retO_r | apply retO_n); (focus (exact resq)))
    exact ⟨rfl, rfl⟩
end Go.Proofs.YtmflheoafeenfaaGreat
namespace Go.Proofs.YtmflheoafeenfaaGreat
open Go.Am
set_option maxRecDepth 4000
set_option maxHeartbeats 16000000
variable {L : Hp}
def UseR (e : Option (List OpD)) (l : List OpD) (r : AVal) : Prop := ∃ s, OpsA s (e.getD l) ∧ r = .tup [s, abool e.isSome]
theorem ruse_ok (hcomp : RCompOk) {n b : Int} {cn mg : Bool} {l : List OpD} {v : AVal} (hv : OpsA v l) (hl : l.length ≤ 1000000) (hok : OkL n b l) : CallO ER f_phasorref18_use [v, abool cn, abool mg] L fun r L' => UseR (useFrom cn mg l l.length 0) l r ∧ L' = L := by
  refine callO_iso1 (R := UseR (useFrom cn mg l l.length 0) l) rfl n_phasorref18_use (by simp [hv.bare, abool, AVal.bare]) ?_
  have hv0 := hv
  obtain ⟨cs, hr, hcs, hlt⟩ := hv
  have hv1 := RowA.isOne hr
  refine bodyO_of (Nat.le_of_ble_eq_true rfl) ?_; generalize ht : argSlots _ 0 .nil = t; have h0 : t.get 0 = some _ := (by rw [← ht]; rfl); have h1 : t.get 1 = some _ := (by rw [← ht]; rfl); have h2 : t.get 2 = some _ := (by rw [← ht]; rfl); clear ht
  repeat (first | intro id | refine goq ?_)
  refine WpO.mono (ruse_l0 (cn := cn) (mg := mg) hcomp (by kernel_rfl) (by kernel_rfl) (by kernel_rfl) (by kernel_rfl) (by kernel_rfl) (by kernel_rfl) hv0 hl hok l.length 0 _ _ (by omega) ?_ ?_ ?_ ?_) ?_
  · exact slotq
  · exact slotq
  · exact slotq
  · exact slotq
  intro ex t1 L1 h
  unfold UseQ at h
  split at h
  · rename_i hn
    obtain ⟨rfl, hK⟩ := h
    have k0 : t1.get 0 = some v := (hK.ex 0 rfl).trans (by exact slotq)
    clear hK
    rw [hn]
    refine blkO.x (seqO.n ?_)
    repeat (first | intro id | refine goq ?_)
    ((first | apply retO_r | apply retO_n); (focus (exact resq)))
    refine ⟨.tup [v, abool false], vo_tup (vl_cons ?_ (vl_cons vo_sc vl_nil)), v, hv0, rfl⟩
    rcases hr with ⟨rfl, -, -⟩ | ⟨cap, rfl⟩
    · exact vo_sc
    · have hb := hv0.bare
      exact ⟨fun m hm => by simp only [view, hb, if_true]⟩
  · rename_i l' hs
    obtain ⟨rfl, a, cs', B, g6, g7, hb, hc, hsub⟩ := h
    have ha1 := hb.isOne
    rw [hs]
    refine blkO.r (seqO.r ?_)
    ((first | apply retO_r | apply retO_n); (focus (exact resq)))
    have hll := useFrom_len l.length 0 (by omega) hs
    obtain ⟨u, h1, h2⟩ := bufOps_view (k := 61) (M := L1) hb hc rfl (by omega) (fun id c hi => Sub.inOf hsub hi)
    exact ⟨.tup [u, abool true], vo_tup (vl_cons h1 (vl_cons vo_sc vl_nil)), u, h2, rfl⟩
def RulA (cn mg : Bool) (c : CircD) (r : AVal) : Prop := (¬ CircOk c ∧ r = .tup [.agg zeroC, aint 80]) ∨ (CircOk c ∧ ∃ s, r = .tup [.agg [aint c.qubits, aint c.bits, s], aint 0] ∧ OpsA s (rulesL cn mg c.ops))
theorem rrules_l0 (hcomp : RCompOk) {n0 b0 q b : Int} {cn mg : Bool} {i6 i8 : Nat} {L : Hp} :
    ∀ (n : Nat) (l : List OpD) (s : AVal) (t : Tr AVal), l.length < n → l.length ≤ 1000000 → OpsA s l → OkL n0 b0 l → t.get 1 = some (abool cn) → t.get 2 = some (abool mg) → t.get 6 = some (.ptr i6 0) → t.get 8 = some (.ptr i8 0) →
    WpO ER (.loop c_phasorref18_Rules_l0) t ((i8, [aint q, aint b, s]) :: (i6, [aint 0, aint 0, anil]) :: L) (fun ex t' L' => ex = .ret ∧ t'.get 6 = some (.ptr i6 0) ∧ t'.get 7 = some (aint 0) ∧ ∃ s', OpsA s' (rulesF cn mg n l) ∧ In i6 [aint q, aint b, s'] L') := by
  intro n
  induction n with
  | zero => intro l s t hn; omega
  | succ n ih =>
    intro l s t hn hl hs hok h1 h2 h6 h8
    have hs1 : s.one = true := by obtain ⟨_, hr, -, -⟩ := hs; exact RowA.isOne hr
    have e0 : rulesF cn mg (n + 1) l = match useFrom cn mg l l.length 0 with | some l' => rulesF cn mg n l' | none => l := rfl
    rw [e0]
    refine wo_loop ?_
    repeat (first | intro id | refine goq ?_)
    refine gok ?_
    refine (ruse_ok hcomp hs hl hok).mono ?_
    rintro r L' ⟨⟨s2, hs2, rfl⟩, rfl⟩
    have hs21 : s2.one = true := by obtain ⟨_, hr, -, -⟩ := hs2; exact RowA.isOne hr
    cases hu : useFrom cn mg l l.length 0 with
    | none =>
      rw [hu] at hs2
      repeat (first | intro id | refine goq ?_)
      exact ⟨rfl, by exact slotq, by exact slotq, s2, hs2, .next .here⟩
    | some l' =>
      rw [hu] at hs2
      have hll := useFrom_len l.length 0 (by omega) hu
      repeat (first | intro id | refine goq ?_)
      refine WpO.mono (ih l' s2 _ (by omega) (by omega) hs2 (useFrom_ok hok l.length 0 (by omega) hu) ?_ ?_ ?_ ?_) ?_
      · exact slotq
      · exact slotq
      · exact slotq
      · exact slotq
      · exact fun ex t' L' h => h
theorem rRules_ok (hcomp : RCompOk) {cn mg : Bool} {v : AVal} {c : CircD} (hv : CircA v c) (hsm : Small c) : CallO ER f_phasorref18_Rules [v, abool cn, abool mg] L fun r L' => RulA cn mg c r ∧ L' = L := by
  refine callO_iso1 (R := RulA cn mg c) rfl n_phasorref18_Rules (by simp [hv.bare, abool, AVal.bare]) ?_
  have hv0 := hv
  obtain ⟨so, rfl, hops⟩ := hv
  have hso1 : so.one = true := by obtain ⟨_, hr, -, -⟩ := hops; exact RowA.isOne hr
  have hsm1 := hsm.ops
  refine bodyO_of (Nat.le_of_ble_eq_true rfl) ?_; generalize ht : argSlots _ 0 .nil = t; have h0 : t.get 0 = some _ := (by rw [← ht]; rfl); have h1 : t.get 1 = some _ := (by rw [← ht]; rfl); have h2 : t.get 2 = some _ := (by rw [← ht]; rfl); clear ht
  repeat (first | intro id | refine goq ?_)
  refine gok ?_
  refine (May_ok (E := ER) rfl rfl rfl rfl rfl rfl rfl rfl (by kernel_rfl) hv0).mono ?_
  rintro u L' ⟨⟨x, rfl, hx⟩, rfl⟩
  cases x with
  | true =>
    have hC := hx.1 rfl
    repeat (first | intro id | refine goq ?_)
    refine gok ?_
    refine (RCopy_ok (E := ER) rfl rfl hv0 hsm).mono ?_
    rintro w L' ⟨hw, rfl⟩
    obtain ⟨sw, rfl, hwo⟩ := hw
    have hsw1 : sw.one = true := by obtain ⟨_, hr, -, -⟩ := hwo; exact RowA.isOne hr
    have hCl := hC.len
    repeat (first | intro id | refine goq ?_)
    rename_i i3 i6
    refine WpO.weak (WpO.mono (rrules_l0 (cn := cn) (mg := mg) hcomp (n0 := c.qubits) (b0 := c.bits) (q := c.qubits) (b := c.bits) (i6 := i6) (i8 := id) (L := []) (c.ops.length + 1) c.ops sw _ (by omega) (by omega) hwo (okL_of hC) ?_ ?_ ?_ ?_) ?_) (by exact subq)
    · exact slotq
    · exact slotq
    · exact slotq
    · exact slotq
    · rintro ex t1 L1 ⟨rfl, g6, g7, s', hs', hin⟩
      refine blkO.r ?_
      ((first | apply retO_r | apply retO_n); (focus (exact resq)))
      have hb := hs'.bare
      refine ⟨.tup [.agg [aint c.qubits, aint c.bits, s'], aint 0], vo_tup (vl_cons (vo_agg (vl_cons vo_sc (vl_cons vo_sc (vl_cons ?_ vl_nil)))) (vl_cons vo_sc vl_nil)), .inr ⟨hC, s', rfl, hs'⟩⟩
      obtain ⟨_, hr, -, -⟩ := hs'
      rcases hr with ⟨rfl, -, -⟩ | ⟨cap, rfl⟩
      · exact vo_sc
      · exact ⟨fun m hm => by simp only [view, hb, if_true]⟩
  | false =>
    have hC : ¬ CircOk c := fun h => by have := hx.2 h; cases this
    repeat (first | intro id | refine goq ?_)
    ((first | apply retO_r | apply retO_n); (focus (exact resq)))
    exact ⟨_, vo_zeroC, .inl ⟨hC, rfl⟩⟩
theorem RulA.shape {cn mg : Bool} {c : CircD} {r : AVal} (h : RulA cn mg c r) : ∃ (q b e : Int) (s : AVal) (d : CircD), r = .tup [.agg [aint q, aint b, s], aint e] ∧ s.one = true ∧ CircA (.agg [aint q, aint b, s]) d ∧ ((¬ CircOk c ∧ e = 80 ∧ d = ⟨0, 0, []⟩) ∨ (CircOk c ∧ e = 0 ∧ d = ⟨c.qubits, c.bits, rulesL cn mg c.ops⟩)) := by
  rcases h with ⟨h, rfl⟩ | ⟨h, s, rfl, hs⟩
  · exact ⟨0, 0, 80, anil, ⟨0, 0, []⟩, rfl, rfl, ⟨anil, rfl, [], .inl ⟨rfl, rfl, rfl⟩, .nil, by simp⟩, .inl ⟨h, rfl, rfl⟩⟩
  · have hs1 : s.one = true := by obtain ⟨_, hr, -, -⟩ := hs; exact RowA.isOne hr
    exact ⟨c.qubits, c.bits, 0, s, ⟨c.qubits, c.bits, rulesL cn mg c.ops⟩, rfl, hs1, ⟨s, rfl, hs⟩, .inr ⟨h, rfl, rfl⟩⟩
end Go.Proofs.YtmflheoafeenfaaGreat
namespace Go.Proofs.YtmflheoafeenfaaGreat
open Go.Am
set_option maxRecDepth 4000
set_option maxHeartbeats 16000000
def kindsL : List Int := [1, 2, 3, 4, 5, 6, 7, 8, 9, 10, 11, 12, 13, 14, 15, 16, 17, 18, 19, 20]
def isInts : List AVal → List Int → Bool
  | [], [] => true
  | v :: vs, z :: zs => (match v with | .sc (.int .i64 n) => n == z | _ => false) && isInts vs zs
  | _, _ => false
theorem isInts_eq : ∀ {vs : List AVal} {zs : List Int}, isInts vs zs = true → vs = zs.map aint
  | [], [], _ => rfl
  | v :: vs, z :: zs, h => by
    simp only [isInts, Bool.and_eq_true] at h
    obtain ⟨h1, h2⟩ := h
    split at h1
    · rw [beq_iff_eq] at h1
      subst h1
      rw [isInts_eq h2]
      rfl
    · cases h1
  | [], z :: zs, h => by cases h
  | v :: vs, [], h => by cases h
def isIntsR (l : List Int) : AVal → Bool
  | .rs cs len _ => len == l.length && isInts cs l
  | _ => false
theorem isIntsR_eq {l : List Int} {u : AVal} (h : isIntsR l u = true) : SlI u l := by
  unfold isIntsR at h
  split at h
  · simp only [Bool.and_eq_true, beq_iff_eq] at h
    obtain ⟨rfl, h2⟩ := h
    rw [isInts_eq h2]
    exact .inr ⟨_, rfl⟩
  · cases h
set_option maxRecDepth 100000 in
theorem Kinds_ok {L : Hp} : CallO ER f_gate_Kinds [] L fun r L' => SlI r kindsL ∧ L' = L := kernel_frz 100000 (isIntsR kindsL) rfl n_gate_Kinds rfl (fun u h => isIntsR_eq h) (by kernel_rfl)
theorem kinds_get : ∀ k, k < 20 → kindsL.getD k 0 = (k : Int) + 1 := by decide
theorem compose_l0 (hse : still ER c_slices_Equal_complex128_complex128_r6 = true) {P : List Cx} {n i10 : Nat} {sp kv : AVal} (hP : SlC sp P) (hk : SlI kv kindsL) (hn : P.length = n * n) :
    ∀ (d k : Nat) (t : Tr AVal) (L : Hp), d + k = 20 → In i10 [aint n, sp] L → t.get 10 = some (.ptr i10 0) → t.get 41 = some kv → t.get 42 = some (aint ((20 : Nat) : Int)) → t.get 43 = some (aint k) →
    WpO ER (.loop c_gate_Compose_l0) t L (fun ex t' L' => (firstK P d k = 0 ∧ ex = .exit 0) ∨ (firstK P d k ≠ 0 ∧ ex = .ret ∧ t'.get 4 = some (aint (firstK P d k)) ∧ t'.get 5 = some (abool true))) := by
  have hk1 := RowA.isOne hk
  have hP0 := hP
  unfold SlC at hP
  have hP1 := RowA.isOne hP
  intro d
  induction d with
  | zero =>
    intro k t L hd hin h10 h41 h42 h43
    obtain rfl : k = 20 := by omega
    refine wo_loop ?_
    repeat (first | intro id | refine goq ?_)
    exact .inl ⟨rfl, rfl⟩
  | succ d ih =>
    intro k t L hd hin h10 h41 h42 h43
    have hk20 : k < 20 := by omega
    have hkl : k < kindsL.length := hk20
    have hkg := kinds_get k hk20
    have ha : arity ((k : Int) + 1) ≠ 0 := by unfold arity; rw [if_neg (by omega)]; (repeat' split) <;> omega
    have mx := fun (M : Hp) => Matrix_ok (L := M) ha
    refine wo_loop ?_
    repeat (first | intro id | refine goq ?_)
    rw [hkg]
    refine gok ?_
    refine (mx _).mono ?_
    rintro r L' ⟨⟨v, rfl, sm, rfl, hsm, hml⟩, rfl⟩
    have hsm0 := hsm
    unfold SlC at hsm
    have hsm1 := RowA.isOne hsm
    have hmle : (matC ((k : Int) + 1)).length ≤ 1000000 := by
      have h3 : dimK ((k : Int) + 1) ≤ 8 := by
        unfold dimK
        have h4 := arity_le ((k : Int) + 1)
        exact Nat.le_trans (Nat.pow_le_pow_right (by omega) (show (arity ((k : Int) + 1)).toNat ≤ 3 by omega)) (by decide)
      have := Nat.mul_le_mul h3 h3
      omega
    repeat (first | intro id | refine goq ?_)
    refine gok ?_
    refine (equalC_ok hse rfl (vs_bare (bare_SlC hsm0) (vs_bare (bare_SlC hP0) vs_nil)) hsm0 hP0 hmle).mono ?_
    rintro r L' ⟨rfl, rfl⟩
    have hf : firstK P (d + 1) k = if eqCL (matC ((k : Int) + 1)) P = true then (k : Int) + 1 else firstK P d (k + 1) := rfl
    rw [hf]
    cases he : eqCL (matC ((k : Int) + 1)) P with
    | true =>
      repeat (first | intro id | refine goq ?_)
      exact .inr ⟨by rw [if_pos rfl]; omega, rfl, by rw [if_pos rfl]; exact slotq, by exact slotq⟩
    | false =>
      repeat (first | intro id | refine goq ?_)
      refine WpO.mono (ih (k + 1) _ _ (by omega) (.next hin) ?_ ?_ ?_ ?_) ?_
      · exact slotq
      · exact slotq
      · exact slotq
      · exact slotq
      · intro ex t' L' h
        simpa using h
theorem comp_ok : CompOk := by
  intro a b M hab ha0
  have hb0 : arity b ≠ 0 := by rw [← hab]; exact ha0
  have he := comp_eq hab ha0
  refine (callO_iso0 (R := fun r => r = .tup [aint (compG a b), abool (decide (compG a b ≠ 0))]) rfl n_gate_Compose (vs_bare rfl (vs_bare rfl vs_nil)) ?_)
  have hd : dimK b = dimK a := by unfold dimK; rw [hab]
  have hn8 : dimK a ≤ 64 ∧ 0 < dimK a := by
    unfold dimK
    have h4 := arity_le a
    exact ⟨Nat.le_trans (Nat.pow_le_pow_right (by omega) (show (arity a).toNat ≤ 3 by omega)) (by decide), Nat.pow_pos (by omega)⟩
  refine bodyO_of (Nat.le_of_ble_eq_true rfl) ?_; generalize ht : argSlots _ 0 .nil = t; have h0 : t.get 0 = some _ := (by rw [← ht]; rfl); have h1 : t.get 1 = some _ := (by rw [← ht]; rfl); clear ht
  repeat (first | intro id | refine goq ?_)
  refine gok ?_
  refine (Matrix_ok ha0).mono ?_
  rintro r L' ⟨⟨va, rfl, ra, rfl, hra, hla⟩, rfl⟩
  have hra1 := RowA.isOne (show RowA _ _ _ from hra)
  repeat (first | intro id | refine goq ?_)
  refine gok ?_
  refine (Matrix_ok hb0).mono ?_
  rintro r L' ⟨⟨vb, rfl, rb, rfl, hrb, hlb⟩, rfl⟩
  have hrb1 := RowA.isOne (show RowA _ _ _ from hrb)
  rw [hd] at hlb ⊢
  repeat (first | intro id | refine goq ?_)
  refine gok ?_
  refine (times_ok (by kernel_rfl) (by kernel_rfl) hn8.1 hn8.2 (⟨rb, rfl, hrb, hlb⟩ : MatA _ (dimK a) (matC b)) (⟨ra, rfl, hra, hla⟩ : MatA _ (dimK a) (matC a))).mono ?_
  rintro r L' ⟨⟨rp, rfl, hrp, hlp⟩, rfl⟩
  have hrp1 := RowA.isOne (show RowA _ _ _ from hrp)
  repeat (first | intro id | refine goq ?_)
  refine gok ?_
  refine Kinds_ok.mono ?_
  rintro kv L' ⟨hkv, rfl⟩
  have hkv1 := RowA.isOne hkv
  repeat (first | intro id | refine goq ?_)
  refine WpO.mono (compose_l0 (P := timesC (dimK a) (matC b) (matC a)) (n := dimK a) (i10 := id) (by kernel_rfl) hrp hkv hlp 20 0 _ _ (by omega) .here ?_ ?_ ?_ ?_) ?_
  · exact slotq
  · exact slotq
  · exact slotq
  · exact slotq
  rw [he]
  rintro ex t1 L1 (⟨h1, rfl⟩ | ⟨h1, rfl, g4, g5⟩)
  · rw [h1]
    refine blkO.x (seqO.n ?_)
    repeat (first | intro id | refine goq ?_)
    ((first | apply retO_r | apply retO_n); (focus (exact resq)))
    exact ⟨rfl, rfl⟩
  · rw [decide_eq_true h1]
    refine blkO.r (seqO.r ?_)
    ((first | apply retO_r | apply retO_n); (focus (exact resq)))
    exact ⟨rfl, rfl⟩
end Go.Proofs.YtmflheoafeenfaaGreat
namespace Go.Proofs.YtmflheoafeenfaaGreat
open Go.Am Go.Proofs
set_option maxRecDepth 4000
set_option maxHeartbeats 16000000
theorem same_used {cn mg : Bool} {c : CircD} {q1 b1 e1 q2 b2 e2 : Int} {s1 s2 : AVal} {d1 d2 : CircD} {B : Hp} (hC : CircW (.agg [aint q1, aint b1, s1]) d1 B) (h1 : (¬ CircOk c ∧ e1 = 80 ∧ d1 = ⟨0, 0, []⟩) ∨ (CircOk c ∧ e1 = 0 ∧ d1 = ⟨c.qubits, c.bits, rulesL cn mg c.ops⟩)) (hA : CircA (.agg [aint q2, aint b2, s2]) d2) (h2 : (¬ CircOk c ∧ e2 = 80 ∧ d2 = ⟨0, 0, []⟩) ∨ (CircOk c ∧ e2 = 0 ∧ d2 = ⟨c.qubits, c.bits, rulesL cn mg c.ops⟩)) :
    e1 = e2 ∧ ∀ M : Hp, (∀ id c, In id c B → In id c M) → CallO ER f_phasorref08_Same [.agg [aint q1, aint b1, s1], .agg [aint q2, aint b2, s2]] M fun v L' => v = abool true ∧ L' = M := by
  obtain ⟨rfl, rfl⟩ : e1 = e2 ∧ d1 = d2 := by
    rcases h1 with ⟨h1, rfl, rfl⟩ | ⟨h1, rfl, rfl⟩ <;> rcases h2 with ⟨h2, rfl, rfl⟩ | ⟨h2, rfl, rfl⟩
    · exact ⟨rfl, rfl⟩
    · exact (h1 h2).elim
    · exact (h2 h1).elim
    · exact ⟨rfl, rfl⟩
  refine ⟨rfl, fun M hM => ?_⟩
  obtain ⟨u1, k1, v1⟩ := hC.views hM
  refine (Same8_ok (E := ER) rfl rfl rfl rfl (by kernel_rfl) (v1 _ _ (vs_bare hA.bare vs_nil)) k1 hA).mono ?_
  rintro v L' ⟨⟨y, rfl, hy⟩, rfl⟩
  obtain rfl := hy.2 rfl
  exact ⟨rfl, rfl⟩
theorem ownW_at {v w kv : AVal} {c d : CircD} {B L L1 : Hp} (hv : CircA v c) (hk : CircA kv c) (hw : CircW w d B) (hr : Rem B L L1) : CallO ER f_phasorlaw18_own [v, w, kv] L fun r L' => r = abool true ∧ L' = L1 := CallO.weak (ownW_ok hv hk hw) ⟨[], by rw [List.append_nil]; exact hr.perm⟩
theorem rules_law {v : AVal} {c : CircD} (hv : CircA v c) (hsc : Small c) : CallO ER f_phasorlaw18_RewriteRules [v] [] fun r _ => r = abool true := by
  refine callO_open rfl n_phasorlaw18_RewriteRules ?_
  have hv0 := hv
  have hsc1 := hsc.ops
  obtain ⟨sv, rfl, hvo⟩ := hv
  have hsv1 : sv.one = true := by obtain ⟨_, hr, -, -⟩ := hvo; exact RowA.isOne hr
  refine bodyO_of (Nat.le_of_ble_eq_true rfl) ?_; generalize ht : argSlots _ 0 .nil = t; have h0 : t.get 0 = some _ := (by rw [← ht]; rfl); clear ht
  repeat (first | intro id | refine goq ?_)
  refine gok ?_
  refine (RCopy_ok (E := ER) rfl rfl hv0 hsc).mono ?_
  rintro kv L' ⟨hkv, rfl⟩
  have hkv0 := hkv
  obtain ⟨sk, rfl, hko⟩ := hkv
  have hsk1 : sk.one = true := by obtain ⟨_, hr, -, -⟩ := hko; exact RowA.isOne hr
  repeat (first | intro id | refine goq ?_)
  refine gok ?_
  refine (Cancel_open hv0 hsc).mono ?_
  rintro r L' ⟨B1, hB1, rfl⟩
  obtain ⟨q1, b1, e1, s1, d1, rfl, s11, hC1, h1⟩ := hB1.shape
  repeat (first | intro id | refine goq ?_)
  refine gok ?_
  refine (rRules_ok rcomp_ok hv0 hsc).mono ?_
  rintro r L' ⟨hr1, rfl⟩
  obtain ⟨q2, b2, e2, s2, d2, rfl, s21, hA2, h2⟩ := hr1.shape
  repeat (first | intro id | refine goq ?_)
  refine gok ?_
  refine (Merge_open comp_ok hv0 hsc).mono ?_
  rintro r L' ⟨B2, hB2, rfl⟩
  obtain ⟨q3, b3, e3, s3, d3, rfl, s31, hC3, h3⟩ := hB2.shape
  repeat (first | intro id | refine goq ?_)
  refine gok ?_
  refine (rRules_ok rcomp_ok hv0 hsc).mono ?_
  rintro r L' ⟨hr2, rfl⟩
  obtain ⟨q4, b4, e4, s4, d4, rfl, s41, hA4, h4⟩ := hr2.shape
  repeat (first | intro id | refine goq ?_)
  refine gok ?_
  refine (Simplify_open comp_ok hv0 hsc).mono ?_
  rintro r L' ⟨B3, hB3, rfl⟩
  obtain ⟨q5, b5, e5, s5, d5, rfl, s51, hC5, h5⟩ := hB3.shape
  repeat (first | intro id | refine goq ?_)
  refine gok ?_
  refine (rRules_ok rcomp_ok hv0 hsc).mono ?_
  rintro r L' ⟨hr3, rfl⟩
  obtain ⟨q6, b6, e6, s6, d6, rfl, s61, hA6, h6⟩ := hr3.shape
  obtain ⟨rfl, m1⟩ := same_used hC1 h1 hA2 h2
  obtain ⟨rfl, m2⟩ := same_used hC3 h3 hA4 h4
  obtain ⟨rfl, m3⟩ := same_used hC5 h5 hA6 h6
  repeat (first | intro id | refine goq ?_)
  refine gok ?_
  refine (num18_ok rfl rfl _).mono ?_
  rintro u L' ⟨rfl, rfl⟩
  repeat (first | intro id | refine goq ?_)
  refine gok ?_
  refine (num18_ok rfl rfl _).mono ?_
  rintro u L' ⟨rfl, rfl⟩
  repeat (first | intro id | refine goq ?_)
  refine gok ?_
  refine (num18_ok rfl rfl _).mono ?_
  rintro u L' ⟨rfl, rfl⟩
  repeat (first | intro id | refine goq ?_)
  refine gok ?_
  refine (m1 _ ?_).mono ?_
  · intro id c hi
    repeat (first | exact hi.appl | exact hi | apply In.next | apply In.app)
  rintro u L' ⟨rfl, rfl⟩
  repeat (first | intro id | refine goq ?_)
  refine gok ?_
  refine (m2 _ ?_).mono ?_
  · intro id c hi
    repeat (first | exact hi.appl | exact hi | apply In.next | apply In.app)
  rintro u L' ⟨rfl, rfl⟩
  repeat (first | intro id | refine goq ?_)
  refine gok ?_
  refine (m3 _ ?_).mono ?_
  · intro id c hi
    repeat (first | exact hi.appl | exact hi | apply In.next | apply In.app)
  rintro u L' ⟨rfl, rfl⟩
  repeat (first | intro id | refine goq ?_)
  refine gok ?_
  refine (ownW_at (B := B1) hv0 hkv0 hC1 (by exact remq)).mono ?_
  rintro u L' ⟨rfl, rfl⟩
  repeat (first | intro id | refine goq ?_)
  refine gok ?_
  refine (ownW_at (B := B2) hv0 hkv0 hC3 (by exact remq)).mono ?_
  rintro u L' ⟨rfl, rfl⟩
  repeat (first | intro id | refine goq ?_)
  refine gok ?_
  refine (ownW_at (B := B3) hv0 hkv0 hC5 (by exact remq)).mono ?_
  rintro u L' ⟨rfl, rfl⟩
  repeat (first | intro id | refine goq ?_)
  refine gok ?_
  refine aliveR_ok.mono ?_
  rintro u L' ⟨rfl, rfl⟩
  repeat (first | intro id | refine goq ?_)
  ((first | apply retO_r | apply retO_n); (focus (exact resq)))
  rfl
end Go.Proofs.YtmflheoafeenfaaGreat
namespace Go.Proofs.YtmflheoafeenfaaGreat
open Go.Am Go.Proofs
set_option maxRecDepth 100000
section
variable {H : Type}
theorem six {α : Type} {l : List α} (h : l.length = 6) : ∃ a b c d e f, l = [a, b, c, d, e, f] := by
  match l, h with
  | [a, b, c, d, e, f], _ => exact ⟨a, b, c, d, e, f, rfl⟩
theorem three {α : Type} {l : List α} (h : l.length = 3) : ∃ a b c, l = [a, b, c] := by
  match l, h with
  | [a, b, c], _ => exact ⟨a, b, c, rfl⟩
theorem sh_ints {d : Nat} {x : DataW H} (h : shD Tryz.prog (d + 2) 52 x) : ∃ (s : AVal) (l : List Int), encD Tryz.prog (d + 2) 52 x = [s] ∧ SlI s l ∧ l.length ≤ Rows.uptoBulk x := by
  rcases shD_slice Tryz.underlying52 h with ⟨rfl, e⟩ | ⟨es, sp, rfl, hy, e⟩
  · exact ⟨anil, [], e, .inl ⟨rfl, rfl, rfl⟩, by simp⟩
  · have : ∃ l : List Int, es.flatMap (encD Tryz.prog (d + 1) 3) = l.map aint ∧ l.length = es.length ∧ es.length ≤ Rows.uptoBulkAll es := by
      clear e h sp
      induction es with
      | nil => exact ⟨[], rfl, rfl, by simp⟩
      | cons e r ih =>
        obtain ⟨n, rfl, -, h1⟩ := shD_int (d := d) Tryz.underlying3 (hy e (by simp))
        obtain ⟨l, h2, h3, h4⟩ := ih fun y hy' => hy y (by simp [hy'])
        refine ⟨n :: l, ?_, by simp [h3], by simp only [Rows.uptoBulkAll, Rows.uptoBulk, List.length_cons]; omega⟩
        rw [List.flatMap_cons, h1, h2]
        rfl
    obtain ⟨l, h1, h2, h3⟩ := this
    refine ⟨_, l, e, .inr ⟨some (es.length + sp.length), by rw [h1, h2]⟩, by simp only [Rows.uptoBulk]; omega⟩
theorem sh_op {d : Nat} {x : DataW H} (h : shD Tryz.prog (d + 3) 54 x) : ∃ (q : AVal) (o : OpD), encD Tryz.prog (d + 3) 54 x = opCells q o ∧ SlI q o.qs ∧ o.qs.length + 5 ≤ Rows.uptoBulk x := by
  obtain ⟨ys, rfl, hl, hy, e, -⟩ := shD_struct Tryz.underlying54 h
  obtain ⟨y0, y1, y2, y3, y4, y5, rfl⟩ := six hl
  obtain ⟨n0, rfl, -, e0⟩ := shD_int (d := d + 1) Tryz.underlying50 (hy 0 _ y0 rfl rfl)
  obtain ⟨n1, rfl, -, e1⟩ := shD_int (d := d + 1) Tryz.underlying51 (hy 1 _ y1 rfl rfl)
  obtain ⟨q, l, e2, hq, hb⟩ := sh_ints (d := d) (hy 2 _ y2 rfl rfl)
  obtain ⟨n3, rfl, -, e3⟩ := shD_int (d := d + 1) Tryz.underlying3 (hy 3 _ y3 rfl rfl)
  obtain ⟨n4, rfl, -, e4⟩ := shD_int (d := d + 1) Tryz.underlying3 (hy 4 _ y4 rfl rfl)
  obtain ⟨n5, rfl, -, e5⟩ := shD_int (d := d + 1) Tryz.underlying3 (hy 5 _ y5 rfl rfl)
  refine ⟨q, ⟨n0, n1, l, n3, n4, n5⟩, ?_, hq, by simp only [Rows.uptoBulk, Rows.uptoBulkAll]; omega⟩
  rw [e]
  show List.flatten [encD Tryz.prog (d + 2) 50 _, encD Tryz.prog (d + 2) 51 _, encD Tryz.prog (d + 2) 52 y2, encD Tryz.prog (d + 2) 3 _, encD Tryz.prog (d + 2) 3 _, encD Tryz.prog (d + 2) 3 _] = _
  rw [e0, e1, e2, e3, e4, e5]
  rfl
theorem sh_ops {d : Nat} {x : DataW H} (h : shD Tryz.prog (d + 4) 22 x) (hb : Rows.uptoBulk x ≤ 1048576) : ∃ (s : AVal) (os : List OpD), encD Tryz.prog (d + 4) 22 x = [s] ∧ OpsA s os ∧ 5 * os.length ≤ Rows.uptoBulk x ∧ ∀ k, k < os.length → (os.getD k default).qs.length ≤ Rows.uptoBulk x := by
  rcases shD_slice Tryz.underlying22 h with ⟨rfl, e⟩ | ⟨es, sp, rfl, hy, e⟩
  · exact ⟨anil, [], e, ⟨[], .inl ⟨rfl, rfl, rfl⟩, .nil, by simp⟩, by simp, fun k hk => by simp at hk⟩
  · have hb1 : Rows.uptoBulkAll es ≤ 1048576 := by simp only [Rows.uptoBulk] at hb; omega
    have : ∃ os : List OpD, OpsC (es.flatMap (encD Tryz.prog (d + 3) 54)) os ∧ os.length = es.length ∧ 5 * es.length ≤ Rows.uptoBulkAll es ∧ ∀ k, k < os.length → (os.getD k default).qs.length ≤ Rows.uptoBulkAll es := by
      clear e h sp hb
      induction es with
      | nil => exact ⟨[], .nil, rfl, by simp, fun k hk => by simp at hk⟩
      | cons e r ih =>
        obtain ⟨q, o, h1, h2, h3⟩ := sh_op (d := d) (hy e (by simp))
        simp only [Rows.uptoBulkAll] at hb1
        obtain ⟨os, h4, h5, h6, h7⟩ := ih (fun y hy' => hy y (by simp [hy'])) (by omega)
        refine ⟨o :: os, ?_, by simp [h5], by simp only [Rows.uptoBulkAll, List.length_cons]; omega, fun k hk => ?_⟩
        · rw [List.flatMap_cons, h1]
          exact .cons h2 (by omega) h4
        · simp only [Rows.uptoBulkAll]
          cases k with
          | zero => simp; omega
          | succ k =>
            have := h7 k (by simpa using hk)
            simp only [List.getD_cons_succ]
            omega
    obtain ⟨os, h1, h2, h3, h4⟩ := this
    refine ⟨_, os, e, ⟨_, .inr ⟨some (es.length + sp.length), by rw [h2]⟩, h1, by omega⟩, by simp only [Rows.uptoBulk]; omega, fun k hk => ?_⟩
    have := h4 k hk
    simp only [Rows.uptoBulk]
    omega
theorem sh_circuit {d : Nat} {x : DataW H} (h : shD Tryz.prog (d + 5) 24 x) (hb : Rows.uptoBulk x ≤ 1048576) : ∃ (v : AVal) (c : CircD), valD Tryz.prog (d + 5) 24 x = v ∧ CircA v c ∧ Small c := by
  obtain ⟨ys, rfl, hl, hy, e, ev⟩ := shD_struct Tryz.underlying24 h
  obtain ⟨a, b, o, rfl⟩ := three hl
  obtain ⟨n, -, -, e1⟩ := shD_int (d := d + 3) Tryz.underlying3 (hy 0 _ a rfl rfl)
  obtain ⟨m, -, -, e2⟩ := shD_int (d := d + 3) Tryz.underlying3 (hy 1 _ b rfl rfl)
  simp only [Rows.uptoBulk, Rows.uptoBulkAll] at hb
  obtain ⟨s, os, e3, h2, h3, h4⟩ := sh_ops (d := d) (hy 2 _ o rfl rfl) (by omega)
  refine ⟨_, ⟨n, m, os⟩, rfl, ⟨s, ?_, h2⟩, ⟨by simp only; omega, fun k hk => by have := h4 k hk; simp only at *; omega⟩⟩
  rw [ev, e]
  show AVal.agg (List.flatten [encD Tryz.prog (d + 4) 3 a, encD Tryz.prog (d + 4) 3 b, encD Tryz.prog (d + 4) 22 o]) = _
  rw [e1, e2, e3]
  rfl
end
end Go.Proofs.YtmflheoafeenfaaGreat
