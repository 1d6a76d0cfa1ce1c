/- Parts of the proof, joined by program: CiCR3, LaLK, RtEnvM, LaHW, LaHX, LaLN, LaHZ. -/
import Derived.Test.YtfaphhcloanhnaaPa10
import Derived.Test.YtfaphhcloanhnaaPa28
import Derived.Test.YtfaphhcloanhnaaPa30
import Derived.Test.YtfaphhcloanhnaaPa23
import Derived.Test.YtfaphhcloanhnaaPa29
set_option linter.unusedSimpArgs false
set_option linter.unusedVariables false
namespace Go.Proofs.Ytfaphhcloanhnaa
open Go.Am
set_option maxRecDepth 4000
set_option maxHeartbeats 8000000
variable {E : Env} {L : Hp}
/-! Held against each other -/
theorem ints8_l0 {la lb : List Int} {va vb : AVal} (ha : SlI va la) (hb : SlI vb lb) (hl : la.length = lb.length) (hlt : la.length < 2 ^ 62) : ∀ (d k : Nat) (t : Tr AVal), d + k = la.length → t.get 0 = some va → t.get 1 = some vb → t.get 5 = some (aint k) →
    WpO E (.loop c_phasorref08_ints_l0) t L (fun ex t' _ => (ex = .exit 0 ∧ la.drop k = lb.drop k) ∨ (ex = .ret ∧ t'.get 4 = some (abool false) ∧ la.drop k ≠ lb.drop k)) := by
  intro d
  induction d with
  | zero =>
    intro k t hk h0 h1 h5
    refine wo_loop ?_
    repeat (first | intro id | refine goq ?_)
    refine .inl ⟨rfl, ?_⟩
    rw [List.drop_of_length_le (by omega), List.drop_of_length_le (by omega)]
  | succ d ih =>
    intro k t hk h0 h1 h5
    refine wo_loop ?_
    have hde := drop_eq 0 hl (show k < la.length by omega)
    by_cases c : la.getD k 0 = lb.getD k 0
    · repeat (first | intro id | refine goq ?_)
      refine WpO.mono (ih (k + 1) _ (by omega) (by exact slotq) (by exact slotq) (by exact slotq)) fun ex t' L' hq => ?_
      simp only [c, true_and] at hde
      simp only [ne_eq, hde]
      exact hq
    · repeat (first | intro id | refine goq ?_)
      exact .inr ⟨rfl, by exact slotq, fun he => c (hde.1 he).1⟩
theorem ints8_ok (hF : E.fns = fnsT) (hm : E.mode f_phasorref08_ints = .iso false) {a b va vb : AVal} {la lb : List Int} (hv : ViewsO L [a, b] [va, vb]) (ha : SlI va la) (hb : SlI vb lb) (hlt : la.length < 2 ^ 62) :
    CallO E f_phasorref08_ints [a, b] L fun v L' => v = abool (decide (la = lb)) ∧ L' = L := by
  refine callO_iso0 hm (fns_of hF n_phasorref08_ints) hv ?_
  have ha1 := RowA.isOne ha
  have hb1 := RowA.isOne hb
  refine bodyO_of (Nat.le_of_ble_eq_true rfl) ?_; generalize ht : argSlots _ 0 .nil = t; have h0 : t.get 0 = some _ := (by rw [← ht]; rfl); have h1 : t.get 1 = some _ := (by rw [← ht]; rfl); clear ht
  by_cases hl : la.length = lb.length
  · repeat (first | intro id | refine goq ?_)
    refine WpO.mono (ints8_l0 ha hb hl hlt la.length 0 _ (by omega) (by exact slotq) (by exact slotq) (by exact slotq)) fun ex t' L' hq => ?_
    obtain ⟨rfl, hq2⟩ | ⟨rfl, hq2, hq3⟩ := hq
    · simp only [List.drop_zero] at hq2
      repeat (first | intro id | refine goq ?_)
      ((first | apply retO_r | apply retO_n); (focus (exact resq)))
      exact ⟨rfl, by rw [decide_eq_true hq2]; rfl⟩
    · simp only [List.drop_zero] at hq3
      repeat (first | intro id | refine goq ?_)
      ((first | apply retO_r | apply retO_n); (focus (exact resq)))
      exact ⟨rfl, by rw [decide_eq_false hq3]; rfl⟩
  · repeat (first | intro id | refine goq ?_)
    ((first | apply retO_r | apply retO_n); (focus (exact resq)))
    exact ⟨rfl, by rw [decide_eq_false (by rintro rfl; exact hl rfl)]; rfl⟩
theorem SameOp_ok (hF : E.fns = fnsT) (hm : E.mode f_phasorref08_SameOp = .iso false) (hmi : E.mode f_phasorref08_ints = .iso false) {p q : AVal} {a b : OpD} (hp : SlI p a.qs) (hq : SlI q b.qs) (hlt : a.qs.length < 2 ^ 62) :
    CallO E f_phasorref08_SameOp [.agg (opCells p a), .agg (opCells q b)] L fun v L' => (∃ x, v = abool x ∧ (x = true ↔ a = b)) ∧ L' = L := by
  refine callO_iso0 (R := fun v => ∃ x, v = abool x ∧ (x = true ↔ a = b)) hm (fns_of hF n_phasorref08_SameOp) (vs_bare ?_ (vs_bare ?_ vs_nil)) ?_
  · simp [opCells, AVal.bare, bareAll, aint, bare_SlI hp]
  · simp [opCells, AVal.bare, bareAll, aint, bare_SlI hq]
  have hp1 := RowA.isOne hp
  have hq1 := RowA.isOne hq
  unfold opCells
  obtain ⟨a1, a2, a3, a4, a5, a6⟩ := a
  obtain ⟨b1, b2, b3, b4, b5, b6⟩ := b
  simp only at hp hq hlt ⊢
  simp only [OpD.mk.injEq]
  refine bodyO_of (Nat.le_of_ble_eq_true rfl) ?_; generalize ht : argSlots _ 0 .nil = t; have h0 : t.get 0 = some _ := (by rw [← ht]; rfl); have h1 : t.get 1 = some _ := (by rw [← ht]; rfl); clear ht
  repeat' (first | intro id | refine goq ?_ | (refine oo_guard (by exact slotq) (fun hc => ?_) (fun hc => ?_) <;> (fail_if_success (exact absurd hc (by decide))) <;> rw [hc] <;> (try simp only [decide_eq_true_eq, decide_eq_false_iff_not, ne_eq, Decidable.not_not] at hc)) | (refine wo_cond_if (by exact slotq) (fun hc => ?_) (fun hc => ?_) <;> (try simp only [decide_eq_true_eq, decide_eq_false_iff_not, ne_eq, Decidable.not_not] at hc)) | ((first | apply retO_r | apply retO_n); (focus (exact resq))))
  all_goals (first | (refine ⟨rfl, false, rfl, ?_⟩; simp only [Bool.false_eq_true, false_iff]; intro h; omega) | skip)
  refine gok ?_
  refine (ints8_ok hF hmi (vs_bare (bare_SlI hp) (vs_bare (bare_SlI hq) vs_nil)) hp hq hlt).mono ?_
  rintro r L' ⟨rfl, rfl⟩
  repeat (first | intro id | refine goq ?_)
  ((first | apply retO_r | apply retO_n); (focus (exact resq)))
  refine ⟨rfl, decide (a3 = b3), rfl, ?_⟩
  simp only [decide_eq_true_eq]
  exact ⟨fun h => ⟨by omega, by omega, h, by omega, by omega, by omega⟩, fun h => h.2.2.1⟩
theorem same8_l0 (hF : E.fns = fnsT) (hms : E.mode f_phasorref08_SameOp = .iso false) (hmi : E.mode f_phasorref08_ints = .iso false) (hst : still E c_phasorref08_Same_r5 = true) {a b : List OpD} {va vb : AVal} {ca cb : List AVal} {na ba nb bb : Int} {i2 i3 : Nat} (ha : RowA va ca a.length) (hca : OpsC ca a) (hb : RowA vb cb b.length) (hcb : OpsC cb b) (hl : a.length = b.length) (hlt : a.length < 2 ^ 62)
    (hi2 : In i2 [aint na, aint ba, va] L) (hi3 : In i3 [aint nb, aint bb, vb] L) :
    ∀ (d k : Nat) (t : Tr AVal), d + k = a.length → t.get 2 = some (.ptr i2 0) → t.get 3 = some (.ptr i3 0) → t.get 5 = some (aint k) →
    WpO E (.loop c_phasorref08_Same_l0) t L (fun ex t' _ => (ex = .exit 0 ∧ a.drop k = b.drop k) ∨ (ex = .ret ∧ t'.get 4 = some (abool false) ∧ a.drop k ≠ b.drop k)) := by
  have ha1 := RowA.isOne ha
  have hb1 := RowA.isOne hb
  intro d
  induction d with
  | zero =>
    intro k t hk h2 h3 h5
    refine wo_loop ?_
    repeat (first | intro id | refine goq ?_)
    refine .inl ⟨rfl, ?_⟩
    rw [List.drop_of_length_le (by omega), List.drop_of_length_le (by omega)]
  | succ d ih =>
    intro k t hk h2 h3 h5
    refine wo_loop ?_
    have hde := drop_eq default hl (show k < a.length by omega)
    obtain ⟨p, hp, hpl, hp6, hps⟩ := hca.getE (show k < a.length by omega)
    obtain ⟨q, hq, hql, hq6, hqs⟩ := hcb.getE (show k < b.length by omega)
    have hp1 := RowA.isOne hp
    have hq1 := RowA.isOne hq
    generalize a.getD k default = x at *
    generalize b.getD k default = y at *
    repeat (first | intro id | refine goq ?_)
    refine gok ?_
    refine (SameOp_ok hF hms hmi hp hq hpl).mono ?_
    rintro r L' ⟨⟨z, rfl, hz⟩, rfl⟩
    cases z with
    | true =>
      have e := hz.1 rfl
      repeat (first | intro id | refine goq ?_)
      refine WpO.mono (ih (k + 1) _ (by omega) (by exact slotq) (by exact slotq) (by exact slotq)) fun ex t' L' hq => ?_
      simp only [e, true_and] at hde
      simp only [ne_eq, hde]
      exact hq
    | false =>
      repeat (first | intro id | refine goq ?_)
      refine .inr ⟨rfl, by exact slotq, fun he => ?_⟩
      have := hz.2 (hde.1 he).1
      cases this
theorem Same8_ok (hF : E.fns = fnsT) (hm : E.mode f_phasorref08_Same = .iso false) (hms : E.mode f_phasorref08_SameOp = .iso false) (hmi : E.mode f_phasorref08_ints = .iso false) (hst : still E c_phasorref08_Same_r5 = true) {a b : AVal} {va vb : AVal} {c d : CircD} (hv : ViewsO L [a, b] [va, vb]) (hc : CircA va c) (hd : CircA vb d) :
    CallO E f_phasorref08_Same [a, b] L fun v L' => (∃ x, v = abool x ∧ (x = true ↔ c = d)) ∧ L' = L := by
  refine callO_iso0 (R := fun v => ∃ x, v = abool x ∧ (x = true ↔ c = d)) hm (fns_of hF n_phasorref08_Same) hv ?_
  obtain ⟨sa, rfl, ca, ha, hca, hlt⟩ := hc
  obtain ⟨sb, rfl, cb, hb, hcb, -⟩ := hd
  have ha1 := RowA.isOne ha
  have hb1 := RowA.isOne hb
  obtain ⟨c1, c2, c3⟩ := c
  obtain ⟨d1, d2, d3⟩ := d
  simp only at *
  simp only [CircD.mk.injEq]
  refine bodyO_of (Nat.le_of_ble_eq_true rfl) ?_; generalize ht : argSlots _ 0 .nil = t; have h0 : t.get 0 = some _ := (by rw [← ht]; rfl); have h1 : t.get 1 = some _ := (by rw [← ht]; rfl); clear ht
  repeat' (first | intro id | refine goq ?_ | (refine oo_guard (by exact slotq) (fun hc => ?_) (fun hc => ?_) <;> (fail_if_success (exact absurd hc (by decide))) <;> rw [hc] <;> (try simp only [decide_eq_true_eq, decide_eq_false_iff_not, ne_eq, Decidable.not_not] at hc)) | (refine wo_cond_if (by exact slotq) (fun hc => ?_) (fun hc => ?_) <;> (try simp only [decide_eq_true_eq, decide_eq_false_iff_not, ne_eq, Decidable.not_not] at hc)) | ((first | apply retO_r | apply retO_n); (focus (exact resq))))
  all_goals (first | (refine ⟨rfl, false, rfl, ?_⟩; simp only [Bool.false_eq_true, false_iff]; rintro ⟨h1, h2, h3⟩; first | omega | (subst h3; omega)) | skip)
  refine WpO.mono (same8_l0 hF hms hmi hst ha hca hb hcb (by omega) hlt (.next .here) .here c3.length 0 _ (by omega) (by exact slotq) (by exact slotq) (by exact slotq)) ?_
  rintro ex t' L' (⟨rfl, he⟩ | ⟨rfl, g4, he⟩)
  · simp only [List.drop_zero] at he
    repeat (first | intro id | refine goq ?_)
    ((first | apply retO_r | apply retO_n); (focus (exact resq)))
    exact ⟨rfl, true, rfl, by simp [he]; omega⟩
  · simp only [List.drop_zero] at he
    repeat (first | intro id | refine goq ?_)
    ((first | apply retO_r | apply retO_n); (focus (exact resq)))
    exact ⟨rfl, false, rfl, by simp [he]⟩
end Go.Proofs.Ytfaphhcloanhnaa
namespace Go.Proofs.Ytfaphhcloanhnaa
open Go.Am Go.Dist Go.Proofs
set_option maxRecDepth 4000
set_option maxHeartbeats 16000000
section
variable {E : Env} {L : Hp}
theorem OpsA.isOne {v : AVal} {os : List OpD} (h : OpsA v os) : v.one = true := by obtain ⟨_, hr, -, -⟩ := h; exact RowA.isOne hr
theorem routed_eq (hF : E.fns = fnsT) (hm : E.mode f_phasorlaw20_routed = .iso false) (hms : E.mode f_phasorref08_Same = .iso false) (hmso : E.mode f_phasorref08_SameOp = .iso false) (hmi8 : E.mode f_phasorref08_ints = .iso false) (hst : still E c_phasorref08_Same_r5 = true) (hmi : E.mode f_phasorlaw20_ints = .iso false)
    {a b o1 o2 p1 p2 : AVal} {n bt s : Int} {os : List OpD} {l : List Int} (hv : ViewsO L [a, b] [.agg [aint n, aint bt, o1, p1, aint s], .agg [aint n, aint bt, o2, p2, aint s]]) (h1 : OpsA o1 os) (h2 : OpsA o2 os) (h3 : SlI p1 l) (h4 : SlI p2 l) (hlt : l.length < 2 ^ 62) :
    CallO E f_phasorlaw20_routed [a, b] L fun v L' => v = abool true ∧ L' = L := by
  refine callO_iso0 (R := fun v => v = abool true) hm (fns_of hF n_phasorlaw20_routed) hv ?_
  have o11 := h1.isOne
  have o21 := h2.isOne
  have p11 := RowA.isOne h3
  have p21 := RowA.isOne h4
  have hc1 : CircA (.agg [aint n, aint bt, o1]) ⟨n, bt, os⟩ := ⟨o1, rfl, h1⟩
  have hc2 : CircA (.agg [aint n, aint bt, o2]) ⟨n, bt, os⟩ := ⟨o2, rfl, h2⟩
  refine bodyO_of (Nat.le_of_ble_eq_true rfl) ?_; generalize ht : argSlots _ 0 .nil = t; have h0 : t.get 0 = some _ := (by rw [← ht]; rfl); have h1 : t.get 1 = some _ := (by rw [← ht]; rfl); clear ht
  repeat (first | intro id | refine goq ?_)
  refine gok ?_
  refine (Same8_ok hF hms hmso hmi8 hst (vs_bare hc1.bare (vs_bare hc2.bare vs_nil)) hc1 hc2).mono ?_
  rintro v L' ⟨⟨x, rfl, hx⟩, rfl⟩
  cases x with
  | false => have := hx.2 rfl; cases this
  | true =>
    repeat (first | intro id | refine goq ?_)
    refine gok ?_
    refine (ints_ok hF hmi (vs_bare (bare_SlI h3) (vs_bare (bare_SlI h4) vs_nil)) h3 h4 hlt).mono ?_
    rintro v L' ⟨rfl, rfl⟩
    rw [decide_eq_true rfl]
    repeat (first | intro id | refine goq ?_)
    ((first | apply retO_r | apply retO_n); (focus (exact resq)))
    exact ⟨rfl, rfl⟩
theorem LaidB.views {l : LaidD} {ov pv : AVal} {B M : Hp} (h : LaidB l ov pv B) (hM : ∀ id c, In id c B → In id c M) (n b s : Int) : ∃ ou pu, OpsA ou l.ops ∧ SlI pu l.place ∧ ∀ vs us, ViewsO M vs us → ViewsO M (.agg [aint n, aint b, ov, pv, aint s] :: vs) (.agg [aint n, aint b, ou, pu, aint s] :: us) := by
  have h0 := h
  obtain ⟨cs, Bs, H, Pb, hb, ho, hp, hol, hpl, rfl⟩ := h
  obtain ⟨ou, pu, v1, v2, h3, h4⟩ := h0.view (M := M) 60 hM
  have vv : ViewO M 64 (.agg [aint n, aint b, ov, pv, aint s]) (.agg [aint n, aint b, ou, pu, aint s]) := vo_agg (vl_cons vo_sc (vl_cons vo_sc (vl_cons v1 (vl_cons v2 (vl_cons vo_sc vl_nil)))))
  rcases bufInv hb with ⟨rfl, -, e, -⟩ | ⟨id, rfl, -⟩
  · rcases bufInv hp with ⟨rfl, -, e2, -⟩ | ⟨ip, rfl, -⟩
    · have e3 : l.ops = [] := List.eq_nil_of_length_eq_zero e
      have e4 : l.place = [] := List.eq_nil_of_length_eq_zero e2
      refine ⟨anil, anil, ⟨[], .inl ⟨rfl, e, rfl⟩, by rw [e3]; exact .nil, by omega⟩, .inl ⟨rfl, e2, by rw [e4]; rfl⟩, fun vs us hv => vs_bare rfl hv⟩
    · exact ⟨ou, pu, h3, h4, fun vs us hv => vs_view rfl vv hv⟩
  · exact ⟨ou, pu, h3, h4, fun vs us hv => vs_view (by rfl) vv hv⟩
theorem FitsR.same {N : Int} {ps : List (Int × Int)} {c : CircD} {u w : AVal} (h : FitsR N ps c u) (k : FitsR N ps c w) : w = u ∧ ∃ x e, u = .tup [abool x, aint e] := by
  rcases h with ⟨h1, rfl⟩ | ⟨h1, h2, rfl⟩ | ⟨h1, h2, x, rfl, h3⟩
  · rcases k with ⟨k1, rfl⟩ | ⟨k1, k2, rfl⟩ | ⟨k1, k2, y, rfl, k3⟩
    · exact ⟨rfl, _, _, rfl⟩
    · exact (h1 k1).elim
    · exact (h1 k1).elim
  · rcases k with ⟨k1, rfl⟩ | ⟨k1, k2, rfl⟩ | ⟨k1, k2, y, rfl, k3⟩
    · exact (k1 h1).elim
    · exact ⟨rfl, _, _, rfl⟩
    · exact (h2 k2).elim
  · rcases k with ⟨k1, rfl⟩ | ⟨k1, k2, rfl⟩ | ⟨k1, k2, y, rfl, k3⟩
    · exact (k1 h1).elim
    · exact (k2 h2).elim
    · have : x = y := by
        have := h3.trans k3.symm
        cases x <;> cases y <;> simp_all
      subst this
      exact ⟨rfl, _, _, rfl⟩
theorem laidB_nil : LaidB ⟨[], [], 0⟩ anil anil [] := ⟨[], [], [], [], .nil, .nil, .nil, by simp, by simp, rfl⟩
theorem opsA_nil : OpsA anil [] := ⟨[], .inl ⟨rfl, rfl, rfl⟩, .nil, by simp⟩
theorem slI_nil : SlI anil [] := .inl ⟨rfl, rfl, rfl⟩
theorem RoutedO.shape {N : Int} {ps : List (Int × Int)} {c : CircD} {u : AVal} {B : Hp} (h : RoutedO N ps c u B) :
    ∃ (n bt e : Int) (l : LaidD) (o1 p1 : AVal), u = .tup [.agg [aint n, aint bt, o1, p1, aint l.swaps], aint e] ∧ LaidB l o1 p1 B ∧ ∀ w, RoutedA N ps c w → ∃ o2 p2, w = .tup [.agg [aint n, aint bt, o2, p2, aint l.swaps], aint e] ∧ OpsA o2 l.ops ∧ SlI p2 l.place := by
  obtain ⟨h⟩ := h
  rcases h with ⟨h1, rfl, rfl⟩ | ⟨h1, h2, rfl, rfl⟩ | ⟨h1, h2, h3, rfl, rfl⟩ | ⟨h1, h2, h3, h4, h5, ov, pv, hB, rfl⟩
  · refine ⟨0, 0, 200, ⟨[], [], 0⟩, anil, anil, rfl, laidB_nil, ?_⟩
    rintro w (⟨k1, rfl⟩ | ⟨k1, k2, rfl⟩ | ⟨k1, k2, k3, rfl⟩ | ⟨k1, k2, k3, k4, k5, ow, pw, rfl, k6, k7⟩)
    · exact ⟨anil, anil, rfl, opsA_nil, slI_nil⟩
    all_goals exact (h1 k1).elim
  · refine ⟨0, 0, 80, ⟨[], [], 0⟩, anil, anil, rfl, laidB_nil, ?_⟩
    rintro w (⟨k1, rfl⟩ | ⟨k1, k2, rfl⟩ | ⟨k1, k2, k3, rfl⟩ | ⟨k1, k2, k3, k4, k5, ow, pw, rfl, k6, k7⟩)
    · exact (k1 h1).elim
    · exact ⟨anil, anil, rfl, opsA_nil, slI_nil⟩
    all_goals exact (h2 k2).elim
  · refine ⟨0, 0, 201, ⟨[], [], 0⟩, anil, anil, rfl, laidB_nil, ?_⟩
    rintro w (⟨k1, rfl⟩ | ⟨k1, k2, rfl⟩ | ⟨k1, k2, k3, rfl⟩ | ⟨k1, k2, k3, k4, k5, ow, pw, rfl, k6, k7⟩)
    · exact (k1 h1).elim
    · exact (k2 h2).elim
    · exact ⟨anil, anil, rfl, opsA_nil, slI_nil⟩
    · exfalso
      rcases h3 with h | h | h
      · omega
      · exact k4 h
      · omega
  · refine ⟨N, c.bits, 0, laidC N ps c, ov, pv, rfl, hB, ?_⟩
    rintro w (⟨k1, rfl⟩ | ⟨k1, k2, rfl⟩ | ⟨k1, k2, k3, rfl⟩ | ⟨k1, k2, k3, k4, k5, ow, pw, rfl, k6, k7⟩)
    · exact (k1 h1).elim
    · exact (k2 h2).elim
    · exfalso
      rcases k3 with h | h | h
      · omega
      · exact h4 h
      · omega
    · exact ⟨ow, pw, rfl, k6, k7⟩
theorem seg_get {cs r : List AVal} {off n i : Nat} (h : seg cs off n = some r) (hi : i < n) : cs[off + i]? = r[i]? := by
  unfold seg at h
  split at h
  · simp only [Option.some.injEq] at h
    subst h
    rw [List.getElem?_take, if_pos hi, List.getElem?_drop]
  · cases h
end
end Go.Proofs.Ytfaphhcloanhnaa
namespace Go.Proofs.Ytfaphhcloanhnaa
open Go.Am Go.Proofs
set_option maxRecDepth 100000
/-- What a run by the kernel shows. -/
theorem alive_of {E : Env} {L : Hp} (hm : E.mode f_phasorlaw20_alive = .iso false) (hf : E.fns f_phasorlaw20_alive = some c_phasorlaw20_alive) (h : (match body E 100000 c_phasorlaw20_alive [] ⟨.nil, 0, 0⟩ with | some (.sc (.bool true), _) => true | _ => false) = true) : CallO E f_phasorlaw20_alive [] L fun v L' => v = abool true ∧ L' = L := by
  have h : ∃ m', body E 100000 c_phasorlaw20_alive [] ⟨.nil, 0, 0⟩ = some (abool true, m') := by
    split at h
    · rename_i m' h'
      exact ⟨m', h'⟩
    · cases h
  obtain ⟨m', h⟩ := h
  refine ⟨fun m ho => (call_iso0 (R := fun v => v = abool true) (vs := []) hm hf rfl ⟨100000, abool true, m', h, rfl, rfl⟩).mono ?_⟩
  rintro v m1 ⟨h1, rfl⟩
  exact ⟨L, ho, h1, rfl⟩
end Go.Proofs.Ytfaphhcloanhnaa
namespace Go.Proofs.Ytfaphhcloanhnaa
open Go.Am Go.Dist Go.Proofs
set_option maxRecDepth 100000
set_option maxHeartbeats 16000000
/-- Environments where sorting by a comparison is known, too. -/
def EnvH (fl rw fr : List FuncId) : Env := { fns := fnsT, mode := fun f => if f == f_slices_Sort_int_int || f == f_slices_SortFunc_int_int then .known else if fl.contains f then .iso false else if rw.contains f then .iso true else if fr.contains f then .fresh else .open_, known := fun f args m => if f == f_slices_Sort_int_int then knSort args m else if f == f_slices_SortFunc_int_int then knHome args m else none }
theorem EnvH_ok (fl rw fr : List FuncId) : EnvOk Try.prog (EnvH fl rw fr) where
  orders := by kernel_rfl
  fns := fun f fn' h => by
    unfold EnvH fnsT at h
    simp only [Option.map_eq_some_iff] at h
    obtain ⟨p, hp, rfl⟩ := h
    have h1 := List.find?_some hp
    have h2 := List.mem_of_find?_eq_some hp
    simp only [beq_iff_eq] at h1
    subst h1
    exact tbl_ok p h2
  grow := fun f args m v m' h => by
    simp only [EnvH] at h
    split at h
    · exact (sort_sim h).2
    · split at h
      · exact (sortHome_sim h).2
      · simp at h
  known := fun f args m v m' h => by
    simp only [EnvH] at h
    split at h
    · rename_i hf
      rw [beq_iff_eq] at hf
      subst hf
      exact ⟨Try.f62, Try.func62, by kernel_rfl, by kernel_rfl, (sort_sim h).1⟩
    · split at h
      · rename_i hf
        rw [beq_iff_eq] at hf
        subst hf
        exact ⟨Try.f52, Try.func52, by kernel_rfl, by kernel_rfl, (sortHome_sim h).1⟩
      · simp at h
theorem EnvH_above (fl rw fr : List FuncId) : KnownAbove (EnvH fl rw fr) := by
  intro k f args m v m' h ha
  simp only [EnvH] at h
  split at h
  · unfold knSort at h
    repeat' (split at h)
    all_goals (try (simp only [reduceCtorEq] at h; done))
    all_goals (simp only [Option.some.injEq, Prod.mk.injEq] at h; obtain ⟨rfl, rfl⟩ := h)
    all_goals first
      | exact ha
      | exact ha.put (by assumption) _
  · split at h
    · obtain ⟨id, n, cap, ifr, fid, fcap, r, rfl, h1, h2, h3, hn, hrl, hr, hne1, hne2, rfl, rfl⟩ := knHome_spec h
      exact ha.put h1 _
    · simp at h
theorem EnvH_all (fl rw fr : List FuncId) : CfAll (EnvH fl rw fr) := cfAll_of (EnvH_ok fl rw fr) fun f args m v m' _ h => by
  simp only [EnvH] at h
  split at h
  · unfold knSort at h
    repeat' (split at h)
    all_goals (try (simp only [reduceCtorEq] at h; done))
    all_goals (simp only [Option.some.injEq, Prod.mk.injEq] at h; obtain ⟨rfl, rfl⟩ := h)
    all_goals first
      | exact Stay.refl _
      | exact stay_put (.inl (cells_some (by assumption)))
  · split at h
    · obtain ⟨id, n, cap, ifr, fid, fcap, r, rfl, h1, h2, h3, hn, hrl, hr, hne1, hne2, rfl, rfl⟩ := knHome_spec h
      exact stay_put (.inl (cells_some h1))
    · simp at h
def mdFlatH : List FuncId := [f_phasorref20_Right, f_phasorlaw20_num, f_route_Check, f_phasorlaw20_alive, f_phasorlaw20_ints, f_slices_Contains_int_int, f_slices_Index_int_int, f_phasorref20_step, f_slices_IndexFunc_int_int, f_route_path_1, f_phasorlaw20_routed, f_phasorref08_Same, f_phasorref08_SameOp, f_phasorref08_ints, f_route_Fits, f_phasorref20_Fits, f_route_Fits_1, f_slices_ContainsFunc_api_Op_api_Op, f_slices_IndexFunc_api_Op_api_Op, f_route_Route_1, f_circuit_Check, f_circuit_may, f_gate_Check, f_gate_Arity, f_gate_of, f_gate_table, f_phasorref08_May, f_phasorref08_Check, f_phasorref08_Op, f_phasorref06_Check, f_phasorref06_Arity, f_phasorref06_Is, f_phasorref08_unlike, f_route_up_1, f_route_Home_2, f_phasorref20_among, f_phasorref20_apart, f_phasorref20_next, f_phasorref20_parent]
def mdRowsH : List FuncId := [f_route_Line, f_route_Ring, f_route_Grid, f_route_near, f_route_far, f_phasorref20_far, f_phasorref20_Route, f_route_path, f_phasorref20_Home]
def EH : Env := EnvH mdFlatH mdRowsH [f_route_swap, f_phasorref08_Copy]
theorem aliveH_ok {L : Hp} : CallO EH f_phasorlaw20_alive [] L fun v L' => v = abool true ∧ L' = L := alive_of rfl n_phasorlaw20_alive (by kernel_rfl)
end Go.Proofs.Ytfaphhcloanhnaa
namespace Go.Proofs.Ytfaphhcloanhnaa
open Go.Am Go.Dist Go.Proofs
set_option maxRecDepth 100000
set_option maxHeartbeats 16000000
/-- The boxes of what Home tells: the places' own among them. -/
def PlaceB (p1 : AVal) (pls : List Int) (B : Hp) : Prop := (p1 = anil ∧ pls = []) ∨ ∃ (ip : Nat) (full : List Int) (R : Hp), p1 = .sl ip 0 pls.length 1 none ∧ pls.length ≤ full.length ∧ Am.Sub ((ip, full.map aint) :: R) B
theorem HomeO.shape {N sw : Int} {ps : List (Int × Int)} {c : CircD} {pl : List Int} {u : AVal} {B : Hp} (h : HomeO N ps c pl sw u B) (hpl : pl.length ≤ 1100000) :
    ∃ (n bt e s2 : Int) (os : List OpD) (pls : List Int) (o1 p1 : AVal), u = .tup [.agg [aint n, aint bt, o1, p1, aint s2], aint e] ∧ pls.length ≤ 1100000 ∧ o1.one = true ∧ p1.one = true ∧ PlaceB p1 pls B ∧
      (∀ M : Hp, (∀ id c, In id c B → In id c M) → ∃ ou pu, OpsA ou os ∧ SlI pu pls ∧ ∀ vs us, ViewsO M vs us → ViewsO M (.agg [aint n, aint bt, o1, p1, aint s2] :: vs) (.agg [aint n, aint bt, ou, pu, aint s2] :: us)) ∧
      ∀ w, HomeA N ps c pl sw w → ∃ o2 p2, w = .tup [.agg [aint n, aint bt, o2, p2, aint s2], aint e] ∧ OpsA o2 os ∧ SlI p2 pls := by
  obtain ⟨h⟩ := h
  rcases h with ⟨h1, rfl, rfl⟩ | ⟨h1, h2, rfl, rfl⟩ | ⟨h1, h2, l, ov, ip, h3, hB, hlN, rfl⟩
  · refine ⟨0, 0, 200, 0, [], [], anil, anil, rfl, by simp, rfl, rfl, .inl ⟨rfl, rfl⟩, fun M _ => ⟨anil, anil, opsA_nil, slI_nil, fun vs us hv => vs_bare rfl hv⟩, ?_⟩
    rintro w (⟨k1, rfl⟩ | ⟨k1, k2, rfl⟩ | ⟨k1, k2, l, ov, pv, k3, rfl, k4, k5⟩)
    · exact ⟨anil, anil, rfl, opsA_nil, slI_nil⟩
    all_goals exact (h1 k1).elim
  · refine ⟨0, 0, 201, 0, [], [], anil, anil, rfl, by simp, rfl, rfl, .inl ⟨rfl, rfl⟩, fun M _ => ⟨anil, anil, opsA_nil, slI_nil, fun vs us hv => vs_bare rfl hv⟩, ?_⟩
    rintro w (⟨k1, rfl⟩ | ⟨k1, k2, rfl⟩ | ⟨k1, k2, l, ov, pv, k3, rfl, k4, k5⟩)
    · exact (k1 h1).elim
    · exact ⟨anil, anil, rfl, opsA_nil, slI_nil⟩
    · rcases h2 with h2 | h2
      · exact (k2 h2).elim
      · rw [h2] at k3
        cases k3
  · have hQ : pl.length ≤ l.place.length := by
      have h5 : Qs N pl := by
        apply Classical.byContradiction
        exact fun h => h2 (.inr (.inr h))
      have h6 := h1.n1
      obtain ⟨M, rfl⟩ : ∃ k : Nat, N = k := ⟨N.toNat, by omega⟩
      have := Qs_len h5
      rw [Int.toNat_natCast] at hlN
      omega
    obtain ⟨cs, Bs, H, Pb, hb, ho, hp, hol, -, rfl⟩ := hB
    have ov1 := hb.isOne
    have hpd : l.d.place.length = N.toNat := hlN
    rw [hpd] at hp
    have hN0 : 0 < N.toNat := by have := h1.n1; omega
    rcases bufInv hp with ⟨e, -, -, -⟩ | ⟨ip', e, rfl⟩
    · cases e
    cases e
    have htl : (l.place.take pl.length).length = pl.length := by simp; omega
    refine ⟨N, c.bits, 0, l.swaps, l.ops, l.place.take pl.length, ov, .sl ip 0 pl.length 1 none, rfl, by rw [htl]; exact hpl, ov1, rfl, .inr ⟨ip, l.place, Bs ++ H, by rw [htl], by rw [htl]; exact hQ, ?_⟩, fun M hM => ?_, ?_⟩
    · refine ⟨[], ?_⟩
      rw [List.append_nil, ← List.append_assoc]
      exact List.perm_append_comm
    · obtain ⟨ou, v1, v2⟩ := OpsB.viewA (M := M) hb ho rfl (by omega) 60 (fun id c hi => hM id c (by rw [← List.append_assoc]; exact hi.appl))
      obtain ⟨pu, v3, v4⟩ := viewA_place (M := M) (ip := ip) (n := N.toNat) (m := pl.length) (cap := none) hlN (by omega) (hM _ _ (In.app (In.app .here))) 61
      exact ⟨ou, pu, v2, v4, fun vs us hv => vs_view (by simp [AVal.bare, bareAll]) (vo_agg (vl_cons vo_sc (vl_cons vo_sc (vl_cons v1 (vl_cons v3 (vl_cons vo_sc vl_nil)))))) hv⟩
    · rintro w (⟨k1, rfl⟩ | ⟨k1, k2, rfl⟩ | ⟨k1, k2, l', ow, pw, k3, rfl, k4, k5⟩)
      · exact (k1 h1).elim
      · exfalso
        rcases k2 with k2 | k2
        · exact h2 k2
        · rw [h3] at k2
          cases k2
      · rw [h3] at k3
        cases k3
        exact ⟨ow, pw, rfl, k4, k5⟩
theorem homes_l0 {E : Env} {L : Hp} {i6 ip m : Nat} {c0 c1 c2 c4 : AVal} (hlt : m ≤ 1100000) :
    ∀ (d k : Nat) (t : Tr AVal) (l : List Int), d + k = m → m ≤ l.length → t.get 6 = some (.ptr i6 0) → t.get 10 = some (aint k) →
    WpO E (.loop c_phasorlaw20_RouteHomes_l0) t ((i6, [c0, c1, c2, .sl ip 0 m 1 none, c4]) :: (ip, l.map aint) :: L) (fun ex t' L' => ex = .exit 0 ∧ Keep [2, 3, 5, 8] t t' ∧ Am.Sub L L') := by
  intro d
  induction d with
  | zero =>
    intro k t l hk hl h6 h10
    obtain rfl : k = m := by omega
    refine wo_loop ?_
    repeat (first | intro id | refine goq ?_)
    exact ⟨rfl, by exact keepq, by exact subq⟩
  | succ d ih =>
    intro k t l hk hl h6 h10
    refine wo_loop ?_
    repeat (first | intro id | refine goq ?_)
    refine WpO.mono (ih (k + 1) _ (l.set k (-9)) (by omega) (by simp; omega) ?_ ?_) ?_
    · exact slotq
    · exact slotq
    · rintro ex t' L' ⟨e1, e2, e3⟩
      exact ⟨e1, Keep.trans (by exact keepq) e2, e3⟩
theorem Sub.mid {P X B Q : Hp} (h : Am.Sub X B) : Am.Sub (P ++ (X ++ Q)) (P ++ (B ++ Q)) := by
  obtain ⟨R, hp⟩ := h
  refine ⟨R, ?_⟩
  rw [List.append_assoc, List.append_assoc]
  refine List.Perm.append_left P ?_
  refine (hp.append_right Q).trans ?_
  rw [List.append_assoc]
  exact List.Perm.append_left X List.perm_append_comm
theorem CircO.views {v : AVal} {c : CircD} {B M : Hp} (h : CircO v c B) (hM : ∀ id c, In id c B → In id c M) : ∃ u, CircA u c ∧ ∀ vs us, ViewsO M vs us → ViewsO M (v :: vs) (u :: us) := by
  obtain ⟨u, h1, h2⟩ := h.view (M := M) 60 hM
  obtain ⟨s, cs, Bs, H, rfl, hb, ho, hlt, rfl⟩ := h
  rcases bufInv hb with ⟨rfl, e1, e2, rfl⟩ | ⟨id, rfl, rfl⟩
  · have e3 : c.ops = [] := List.eq_nil_of_length_eq_zero e2
    exact ⟨_, ⟨anil, rfl, by rw [e3]; exact opsA_nil⟩, fun vs us hv => vs_bare rfl hv⟩
  · exact ⟨u, h2, fun vs us hv => vs_view rfl h1 hv⟩
theorem routedV {n bt s2 : Int} {os : List OpD} {pls : List Int} {o1 p1 o2 p2 : AVal} {B M : Hp} (ho2 : OpsA o2 os) (hp2 : SlI p2 pls) (hl : pls.length ≤ 1100000) (hvw : ∀ M : Hp, (∀ id c, In id c B → In id c M) → ∃ ou pu, OpsA ou os ∧ SlI pu pls ∧ ∀ vs us, ViewsO M vs us → ViewsO M (.agg [aint n, aint bt, o1, p1, aint s2] :: vs) (.agg [aint n, aint bt, ou, pu, aint s2] :: us)) (hM : ∀ id c, In id c B → In id c M) :
    CallO EH f_phasorlaw20_routed [.agg [aint n, aint bt, o1, p1, aint s2], .agg [aint n, aint bt, o2, p2, aint s2]] M fun v L' => v = abool true ∧ L' = M := by
  obtain ⟨ou, pu, q1, q2, hvs⟩ := hvw M hM
  exact routed_eq rfl rfl rfl rfl rfl (by kernel_rfl) rfl (hvs _ _ (vs_bare (by simp [AVal.bare, bareAll, aint, ho2.bare, bare_SlI hp2]) vs_nil)) q1 ho2 q2 hp2 (by omega)
theorem homes_law {L : Hp} {N sw : Int} {s so sp : AVal} {ps : List (Int × Int)} {c : CircD} {pl : List Int} (hs : SlP s ps) (hlt : ps.length ≤ 1000000) (hops : OpsA so c.ops) (hsm : Small c) (hsp : SlI sp pl) (hpl : pl.length ≤ 1100000) :
    CallO EH f_phasorlaw20_RouteHomes [.agg [aint c.qubits, aint c.bits, so, sp, aint sw], .agg [aint N, s]] L fun v _ => v = abool true := by
  refine callO_open rfl n_phasorlaw20_RouteHomes ?_
  have hs1 := hs.isOne
  have hv0 : CircA (.agg [aint c.qubits, aint c.bits, so]) c := ⟨so, rfl, hops⟩
  have hso1 := hops.isOne
  have hsp1 := RowA.isOne hsp
  have hH := fun L => Home_open (L := L) (E := EH) (N := N) rfl (EnvH_above _ _ _) (EnvH_all _ _ _) rfl rfl rfl (by kernel_rfl) (by kernel_rfl) (by kernel_rfl) (by kernel_rfl) (by kernel_rfl) (by kernel_rfl) (by kernel_rfl) rfl rfl rfl (by kernel_rfl) (by kernel_rfl) rfl rfl (by kernel_rfl) rfl rfl rfl rfl rfl rfl rfl rfl rfl rfl rfl rfl rfl rfl rfl rfl rfl rfl hs hlt hops hsm hsp hpl (sw := sw)
  have hR := fun L => rHome_ok (L := L) (E := EH) (N := N) rfl (EnvH_above _ _ _) rfl rfl rfl rfl (by kernel_rfl) (by kernel_rfl) (by kernel_rfl) (by kernel_rfl) (by kernel_rfl) rfl rfl rfl rfl (by kernel_rfl) rfl rfl rfl rfl rfl rfl rfl rfl rfl rfl (by kernel_rfl) hs hlt hops hsm hsp hpl (sw := sw)
  refine bodyO_of (Nat.le_of_ble_eq_true rfl) ?_; generalize ht : argSlots _ 0 .nil = t; have h0 : t.get 0 = some _ := (by rw [← ht]; rfl); have h1 : t.get 1 = some _ := (by rw [← ht]; rfl); clear ht
  repeat (first | intro id | refine goq ?_)
  rename_i i2
  obtain ⟨i3, hi3⟩ : ∃ x, x = id := ⟨_, rfl⟩
  rw [← hi3] at *
  clear hi3
  refine gok ?_
  refine (RCopy_fresh rfl (EnvH_above _ _ _) rfl hv0 hsm).mono ?_
  rintro kv L' ⟨KB, hkv, rfl⟩
  have hkv0 := hkv
  obtain ⟨sk, csk, Bsk, Hk, rfl, hbk, hobk, hltk, rfl⟩ := hkv
  have hsk1 := hbk.isOne
  repeat (first | intro id | refine goq ?_)
  obtain ⟨i5, hi5⟩ : ∃ x, x = id := ⟨_, rfl⟩
  rw [← hi5] at *
  clear hi5
  refine gok ?_
  refine (hH _).mono ?_
  rintro r L' ⟨B, hr, rfl⟩
  obtain ⟨n, bt, e, s2, os, pls, o1, p1, rfl, hplsl, o11, p11, hpb, hvw, hw⟩ := hr.shape hpl
  repeat (first | intro id | refine goq ?_)
  obtain ⟨i6, hi6⟩ : ∃ x, x = id := ⟨_, rfl⟩
  rw [← hi6] at *
  clear hi6
  refine gok ?_
  refine (hR _).mono ?_
  rintro w L' ⟨ha, rfl⟩
  obtain ⟨o2, p2, rfl, ho2, hp2⟩ := hw w ha
  have o21 := ho2.isOne
  have p21 := RowA.isOne hp2
  repeat (first | intro id | refine goq ?_)
  obtain ⟨i8, hi8⟩ : ∃ x, x = id := ⟨_, rfl⟩
  rw [← hi8] at *
  clear hi8
  refine gok ?_
  refine (num_ok rfl rfl _).mono ?_
  rintro u L' ⟨rfl, rfl⟩
  repeat (first | intro id | refine goq ?_)
  refine gok ?_
  refine (routedV (B := B) ho2 hp2 hplsl hvw (fun id c hi => .next (.next hi.appl))).mono ?_
  rintro u L' ⟨rfl, rfl⟩
  repeat (first | intro id | refine goq ?_)
  refine WpO.mono (Q := fun ex t' L' => ex = .exit 0 ∧ t'.get 2 = some (.ptr i2 0) ∧ t'.get 3 = some (.ptr i3 0) ∧ t'.get 5 = some (.ptr i5 0) ∧ t'.get 8 = some (.ptr i8 0) ∧ Am.Sub ((i8, [aint n, aint bt, o2, p2, aint s2]) :: (i5, [aint c.qubits, aint c.bits, sk]) :: ((Bsk ++ Hk) ++ ((i3, [aint N, s]) :: (i2, [aint c.qubits, aint c.bits, so, sp, aint sw]) :: []))) L') ?_ ?_
  · rcases hpb with ⟨rfl, rfl⟩ | ⟨ip, full, R, rfl, hfl, hsubB⟩
    · refine wo_loop ?_
      repeat (first | intro id | refine goq ?_)
      refine ⟨rfl, ?_, ?_, ?_, ?_, ?_⟩
      · exact slotq
      · exact slotq
      · exact slotq
      · exact slotq
      · simp only [List.append_assoc]
        exact subq
    · refine WpO.weak ?_ (Sub.mid (P := [(i8, [aint n, aint bt, o2, p2, aint s2]), (i6, [aint n, aint bt, o1, .sl ip 0 pls.length 1 none, aint s2])]) hsubB)
      refine WpO.weak (WpO.mono (homes_l0 (L := (i8, [aint n, aint bt, o2, p2, aint s2]) :: (i5, [aint c.qubits, aint c.bits, sk]) :: ((Bsk ++ Hk) ++ ((i3, [aint N, s]) :: (i2, [aint c.qubits, aint c.bits, so, sp, aint sw]) :: []))) (i6 := i6) (ip := ip) (c0 := aint n) (c1 := aint bt) (c2 := o1) (c4 := aint s2) hplsl pls.length 0 _ full (by omega) hfl ?_ ?_) ?_) ?_
      · exact slotq
      · exact slotq
      · rintro ex t' L' ⟨rfl, hK, hsub⟩
        refine ⟨rfl, (hK.ex 2 rfl).trans ?_, (hK.ex 3 rfl).trans ?_, (hK.ex 5 rfl).trans ?_, (hK.ex 8 rfl).trans ?_, hsub⟩
        · exact slotq
        · exact slotq
        · exact slotq
        · exact slotq
      · simp only [List.append_assoc, List.cons_append, List.nil_append]
        exact subq
  · rintro ex t' L' ⟨rfl, g2, g3, g5, g8, hsub⟩
    refine blkO.x (seqO.n (WpO.weak ?_ hsub))
    clear hpb
    repeat (first | intro id | refine goq ?_)
    refine gok ?_
    refine (hH _).mono ?_
    rintro r L' ⟨B2, hr2, rfl⟩
    obtain ⟨n', bt', e', s2', os', pls', o1', p1', rfl, hplsl', o11', p11', -, hvw2, hw2⟩ := hr2.shape hpl
    obtain ⟨o2', p2', he, ho2', hp2'⟩ := hw2 _ ha
    simp only [AVal.tup.injEq, List.cons.injEq, AVal.agg.injEq, aint, AVal.sc.injEq, Value.int.injEq, true_and, and_true] at he
    obtain ⟨⟨rfl, rfl, rfl, rfl, rfl⟩, rfl⟩ := he
    repeat (first | intro id | refine goq ?_)
    obtain ⟨i11, hi11⟩ : ∃ x, x = id := ⟨_, rfl⟩
    rw [← hi11] at *
    clear hi11
    refine gok ?_
    refine (routedV (B := B2) ho2' hp2' hplsl' hvw2 (fun id c hi => .next hi.appl)).mono ?_
    rintro u L' ⟨rfl, rfl⟩
    repeat (first | intro id | refine goq ?_)
    refine gok ?_
    have key8 : ∀ M : Hp, (∀ id cc, In id cc (Bsk ++ Hk) → In id cc M) → CallO EH f_phasorref08_Same [.agg [aint c.qubits, aint c.bits, so], .agg [aint c.qubits, aint c.bits, sk]] M fun v L' => v = abool true ∧ L' = M := fun M hM => by
      obtain ⟨u, q1, q2⟩ := hkv0.views hM
      refine (Same8_ok rfl rfl rfl rfl (by kernel_rfl) (vs_bare hv0.bare (q2 _ _ vs_nil)) hv0 q1).mono ?_
      rintro v L' ⟨⟨x, rfl, hx⟩, rfl⟩
      exact ⟨by rw [hx.2 rfl], rfl⟩
    refine (key8 _ (fun id cc hi => .next (In.app (.next (.next hi.appl))))).mono ?_
    rintro v L' ⟨rfl, rfl⟩
    repeat (first | intro id | refine goq ?_)
    refine gok ?_
    refine aliveH_ok.mono ?_
    rintro v L' ⟨rfl, rfl⟩
    repeat (first | intro id | refine goq ?_)
    ((first | apply retO_r | apply retO_n); (focus (exact resq)))
    rfl
end Go.Proofs.Ytfaphhcloanhnaa
namespace Go.Proofs.Ytfaphhcloanhnaa
open Go.Am Go.Proofs
set_option maxRecDepth 100000
section
variable {H : Type}
theorem six {α : Type} {l : List α} (h : l.length = 6) : ∃ a b c d e f, l = [a, b, c, d, e, f] := by
  match l, h with
  | [a, b, c, d, e, f], _ => exact ⟨a, b, c, d, e, f, rfl⟩
theorem three {α : Type} {l : List α} (h : l.length = 3) : ∃ a b c, l = [a, b, c] := by
  match l, h with
  | [a, b, c], _ => exact ⟨a, b, c, rfl⟩
theorem sh_ints {d : Nat} {x : DataW H} (h : shD Try.prog (d + 2) 44 x) : ∃ (s : AVal) (l : List Int), encD Try.prog (d + 2) 44 x = [s] ∧ SlI s l ∧ l.length ≤ Rows.uptoBulk x := by
  rcases shD_slice Try.underlying44 h with ⟨rfl, e⟩ | ⟨es, sp, rfl, hy, e⟩
  · exact ⟨anil, [], e, .inl ⟨rfl, rfl, rfl⟩, by simp⟩
  · have : ∃ l : List Int, es.flatMap (encD Try.prog (d + 1) 3) = l.map aint ∧ l.length = es.length ∧ es.length ≤ Rows.uptoBulkAll es := by
      clear e h sp
      induction es with
      | nil => exact ⟨[], rfl, rfl, by simp⟩
      | cons e r ih =>
        obtain ⟨n, rfl, -, h1⟩ := shD_int (d := d) Try.underlying3 (hy e (by simp))
        obtain ⟨l, h2, h3, h4⟩ := ih fun y hy' => hy y (by simp [hy'])
        refine ⟨n :: l, ?_, by simp [h3], by simp only [Rows.uptoBulkAll, Rows.uptoBulk, List.length_cons]; omega⟩
        rw [List.flatMap_cons, h1, h2]
        rfl
    obtain ⟨l, h1, h2, h3⟩ := this
    refine ⟨_, l, e, .inr ⟨some (es.length + sp.length), by rw [h1, h2]⟩, by simp only [Rows.uptoBulk]; omega⟩
theorem sh_op {d : Nat} {x : DataW H} (h : shD Try.prog (d + 3) 70 x) : ∃ (q : AVal) (o : OpD), encD Try.prog (d + 3) 70 x = opCells q o ∧ SlI q o.qs ∧ o.qs.length + 5 ≤ Rows.uptoBulk x := by
  obtain ⟨ys, rfl, hl, hy, e, -⟩ := shD_struct Try.underlying70 h
  obtain ⟨y0, y1, y2, y3, y4, y5, rfl⟩ := six hl
  obtain ⟨n0, rfl, -, e0⟩ := shD_int (d := d + 1) Try.underlying67 (hy 0 _ y0 rfl rfl)
  obtain ⟨n1, rfl, -, e1⟩ := shD_int (d := d + 1) Try.underlying68 (hy 1 _ y1 rfl rfl)
  obtain ⟨q, l, e2, hq, hb⟩ := sh_ints (d := d) (hy 2 _ y2 rfl rfl)
  obtain ⟨n3, rfl, -, e3⟩ := shD_int (d := d + 1) Try.underlying3 (hy 3 _ y3 rfl rfl)
  obtain ⟨n4, rfl, -, e4⟩ := shD_int (d := d + 1) Try.underlying3 (hy 4 _ y4 rfl rfl)
  obtain ⟨n5, rfl, -, e5⟩ := shD_int (d := d + 1) Try.underlying3 (hy 5 _ y5 rfl rfl)
  refine ⟨q, ⟨n0, n1, l, n3, n4, n5⟩, ?_, hq, by simp only [Rows.uptoBulk, Rows.uptoBulkAll]; omega⟩
  rw [e]
  show List.flatten [encD Try.prog (d + 2) 67 _, encD Try.prog (d + 2) 68 _, encD Try.prog (d + 2) 44 y2, encD Try.prog (d + 2) 3 _, encD Try.prog (d + 2) 3 _, encD Try.prog (d + 2) 3 _] = _
  rw [e0, e1, e2, e3, e4, e5]
  rfl
theorem sh_ops {d : Nat} {x : DataW H} (h : shD Try.prog (d + 4) 52 x) (hb : Rows.uptoBulk x ≤ 1048576) : ∃ (s : AVal) (os : List OpD), encD Try.prog (d + 4) 52 x = [s] ∧ OpsA s os ∧ 5 * os.length ≤ Rows.uptoBulk x ∧ ∀ k, k < os.length → (os.getD k default).qs.length ≤ Rows.uptoBulk x := by
  rcases shD_slice Try.underlying52 h with ⟨rfl, e⟩ | ⟨es, sp, rfl, hy, e⟩
  · exact ⟨anil, [], e, ⟨[], .inl ⟨rfl, rfl, rfl⟩, .nil, by simp⟩, by simp, fun k hk => by simp at hk⟩
  · have hb1 : Rows.uptoBulkAll es ≤ 1048576 := by simp only [Rows.uptoBulk] at hb; omega
    have : ∃ os : List OpD, OpsC (es.flatMap (encD Try.prog (d + 3) 70)) os ∧ os.length = es.length ∧ 5 * es.length ≤ Rows.uptoBulkAll es ∧ ∀ k, k < os.length → (os.getD k default).qs.length ≤ Rows.uptoBulkAll es := by
      clear e h sp hb
      induction es with
      | nil => exact ⟨[], .nil, rfl, by simp, fun k hk => by simp at hk⟩
      | cons e r ih =>
        obtain ⟨q, o, h1, h2, h3⟩ := sh_op (d := d) (hy e (by simp))
        simp only [Rows.uptoBulkAll] at hb1
        obtain ⟨os, h4, h5, h6, h7⟩ := ih (fun y hy' => hy y (by simp [hy'])) (by omega)
        refine ⟨o :: os, ?_, by simp [h5], by simp only [Rows.uptoBulkAll, List.length_cons]; omega, fun k hk => ?_⟩
        · rw [List.flatMap_cons, h1]
          exact .cons h2 (by omega) h4
        · simp only [Rows.uptoBulkAll]
          cases k with
          | zero => simp; omega
          | succ k =>
            have := h7 k (by simpa using hk)
            simp only [List.getD_cons_succ]
            omega
    obtain ⟨os, h1, h2, h3, h4⟩ := this
    refine ⟨_, os, e, ⟨_, .inr ⟨some (es.length + sp.length), by rw [h2]⟩, h1, by omega⟩, by simp only [Rows.uptoBulk]; omega, fun k hk => ?_⟩
    have := h4 k hk
    simp only [Rows.uptoBulk]
    omega
end
end Go.Proofs.Ytfaphhcloanhnaa
namespace Go.Proofs.Ytfaphhcloanhnaa
open Go.Am Go.Proofs
set_option maxRecDepth 100000
section
variable {H : Type}
theorem sh_routed {d : Nat} {x : DataW H} (h : shD Try.prog (d + 6) 61 x) (hb : Rows.uptoBulk x ≤ 1048576) : ∃ (so sp : AVal) (c : CircD) (pl : List Int) (sw : Int), valD Try.prog (d + 6) 61 x = .agg [aint c.qubits, aint c.bits, so, sp, aint sw] ∧ OpsA so c.ops ∧ Small c ∧ SlI sp pl ∧ pl.length ≤ Rows.uptoBulk x := by
  obtain ⟨ys, rfl, hl, hy, e, ev⟩ := shD_struct Try.underlying61 h
  obtain ⟨a, b, o, rfl⟩ := three hl
  have ha := hy 0 _ a rfl rfl
  obtain ⟨zs, rfl, zl, hz, ze, -⟩ := shD_struct (d := d + 4) Try.underlying54 ha
  obtain ⟨qa, qb, qo, rfl⟩ := three zl
  obtain ⟨n, -, -, e1⟩ := shD_int (d := d + 3) Try.underlying3 (hz 0 _ qa rfl rfl)
  obtain ⟨m, -, -, e2⟩ := shD_int (d := d + 3) Try.underlying3 (hz 1 _ qb rfl rfl)
  simp only [Rows.uptoBulk, Rows.uptoBulkAll] at hb ⊢
  obtain ⟨s, os, e3, h2, h3, h4⟩ := sh_ops (d := d) (hz 2 _ qo rfl rfl) (by omega)
  obtain ⟨p, l, e4, hp, hpl⟩ := sh_ints (d := d + 3) (hy 1 _ b rfl rfl)
  obtain ⟨w, -, -, e5⟩ := shD_int (d := d + 4) Try.underlying3 (hy 2 _ o rfl rfl)
  refine ⟨s, p, ⟨n, m, os⟩, l, w, ?_, h2, ⟨by simp only; omega, fun k hk => by have := h4 k hk; simp only at *; omega⟩, hp, by omega⟩
  rw [ev, e]
  show AVal.agg (List.flatten [encD Try.prog (d + 5) 54 _, encD Try.prog (d + 5) 44 b, encD Try.prog (d + 5) 3 o]) = _
  rw [ze]
  show AVal.agg (List.flatten [List.flatten [encD Try.prog (d + 4) 3 qa, encD Try.prog (d + 4) 3 qb, encD Try.prog (d + 4) 52 qo], encD Try.prog (d + 5) 44 b, encD Try.prog (d + 5) 3 o]) = _
  rw [e1, e2, e3, e4, e5]
  rfl
end
end Go.Proofs.Ytfaphhcloanhnaa
