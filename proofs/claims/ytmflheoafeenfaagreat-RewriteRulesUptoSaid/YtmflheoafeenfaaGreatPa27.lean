/- Parts of the proof, joined by program: RwU8, RwX1, RwV1, RwW1. -/
import Derived.Test.YtmflheoafeenfaaGreatPa26
import Derived.Test.YtmflheoafeenfaaGreatPa12
import Derived.Test.YtmflheoafeenfaaGreatPa25
set_option linter.unusedSimpArgs false
set_option linter.unusedVariables false
namespace Go.Proofs.YtmflheoafeenfaaGreat
open Go.Am
set_option maxRecDepth 4000
set_option maxHeartbeats 8000000
variable {L : Hp}
theorem arity_inv (k : Int) : arity (inverse k) = arity k := by
  unfold arity inverse
  by_cases h0 : k < 1 ∨ 20 < k
  · rw [if_pos h0, if_pos h0]
    simp
  · rw [if_neg h0, if_neg h0]
    by_cases h1 : k = 5 ∨ k = 7 ∨ k = 9 ∨ k = 15
    · rw [if_pos h1]
      rcases h1 with rfl | rfl | rfl | rfl <;> decide
    · rw [if_neg h1]
      by_cases h2 : k = 6 ∨ k = 8 ∨ k = 10 ∨ k = 16
      · rw [if_pos h2]
        rcases h2 with rfl | rfl | rfl | rfl <;> decide
      · rw [if_neg h2, if_neg h0]
theorem undo_eq {p o : OpD} {n b : Int} (hp : OpOk p n b) (ho : OpOk o n b) (pp : plainB p = true) (po : plainB o = true) : undoP p o = undoB p o := by
  obtain ⟨p1, p2, p3, p4⟩ := ok_plain hp pp
  obtain ⟨o1, o2, o3, o4⟩ := ok_plain ho po
  unfold undoP undoB
  rw [pp, Bool.true_and]
  by_cases hg : p.gate = inverse o.gate
  · rw [decide_eq_true hg, Bool.true_and, Bool.true_and, Bool.eq_iff_iff, decide_eq_true_eq, hg]
    rw [hg, arity_inv] at p1
    have a18 : o.gate = 18 → p.qs.length = 3 := fun e => by rw [e] at p1; have : arity 18 = 3 := rfl; omega
    have a20 : o.gate = 20 → p.qs.length = 3 := fun e => by rw [e] at p1; have : arity 20 = 3 := rfl; omega
    rcases same_norm (k := o.gate) (a := p.qs) (b := o.qs) (Qs_nodup p4) a18 a20 with h | h
    · exact h.symm
    · omega
  · rw [decide_eq_false hg, Bool.false_and, Bool.false_and]
def ruleN : RuleP := ⟨f_rewrite_nothing, useN⟩
def ruleI : RuleP := ⟨f_rewrite_inverse, useI⟩
def ruleC : RuleP := ⟨f_rewrite_compose, useC⟩
theorem rule_eq {cn mg : Bool} {n b : Int} {l : List OpD} {j : Nat} (ho : OkL n b l) (hj : j < l.length) (hp : plainB (gO l j) = true) :
    useAt cn mg l j = if cn = true ∧ (gO l j).gate = 1 then some (l.eraseIdx j) else
      match (if cn = true then useI l j else none) with
      | some l' => some l'
      | none => if mg = true then useC l j else none := by
  unfold useAt
  rw [if_neg (by rw [hp]; simp)]
  by_cases h1 : cn = true ∧ (gO l j).gate = 1
  · rw [if_pos h1, if_pos h1]
  · rw [if_neg h1, if_neg h1]
    have hlt := partI_lt l j
    by_cases h2 : partI l j < 0
    · rw [if_pos (.inl h2)]
      have e1 : useI l j = none := by unfold useI; rw [if_pos (.inl h2)]
      have e2 : useC l j = none := by unfold useC; rw [if_pos (.inl h2)]
      rw [e1, e2]
      cases cn <;> cases mg <;> rfl
    · have hi : (partI l j).toNat < l.length := by omega
      have oki := ho _ (gO_mem hi)
      have okj := ho _ (gO_mem hj)
      by_cases h3 : plainB (gO l (partI l j).toNat) = false
      · rw [if_pos (.inr h3)]
        have e1 : useI l j = none := by unfold useI; rw [if_pos (.inr (by unfold undoP; rw [h3]; rfl))]
        have e2 : useC l j = none := by unfold useC; rw [if_pos (.inr (.inl h3))]
        rw [e1, e2]
        cases cn <;> cases mg <;> rfl
      · rw [if_neg (by rintro (h | h); exact h2 h; exact h3 h)]
        have h3' : plainB (gO l (partI l j).toNat) = true := by simpa using h3
        have hu := undo_eq oki okj h3' hp
        have e1 : useI l j = if undoB (gO l (partI l j).toNat) (gO l j) = true then some ((l.eraseIdx j).eraseIdx (partI l j).toNat) else none := by
          unfold useI
          rw [hu]
          cases undoB (gO l (partI l j).toNat) (gO l j) with
          | true => rw [if_neg (by rintro (h | h); exact h2 h; cases h), if_pos rfl]
          | false => rw [if_pos (.inr rfl), if_neg (by simp)]
        have e2 : useC l j = if compG (gO l (partI l j).toNat).gate (gO l j).gate ≠ 0 ∧ (gO l (partI l j).toNat).qs = (gO l j).qs then some ((l.eraseIdx j).set (partI l j).toNat { gO l (partI l j).toNat with gate := compG (gO l (partI l j).toNat).gate (gO l j).gate }) else none := by
          unfold useC
          by_cases h4 : compG (gO l (partI l j).toNat).gate (gO l j).gate ≠ 0 ∧ (gO l (partI l j).toNat).qs = (gO l j).qs
          · rw [if_pos h4, if_neg]
            rintro (h | h | h | h)
            · exact h2 h
            · exact h3 h
            · exact h h4.2
            · exact h4.1 h
          · rw [if_neg h4, if_pos]
            by_cases h5 : (gO l (partI l j).toNat).qs = (gO l j).qs
            · exact .inr (.inr (.inr (Decidable.byContradiction fun h6 => h4 ⟨h6, h5⟩)))
            · exact .inr (.inr (.inl h5))
        rw [e1, e2]
        cases cn with
        | true =>
          by_cases h6 : undoB (gO l (partI l j).toNat) (gO l j) = true
          · rw [if_pos ⟨rfl, h6⟩]
            simp only [if_true, h6]
          · rw [if_neg (fun h => h6 h.2)]
            simp only [if_true, if_neg h6]
            cases mg with
            | true => simp only [true_and, if_true]
            | false => simp
        | false =>
          simp only [Bool.false_eq_true, false_and, if_false]
          cases mg with
          | true => simp only [true_and, if_true]
          | false => simp
section
variable (hcomp : CompOk)
theorem hst5 : still ER c_slices_Delete_api_Op_api_Op_r5 = true := by kernel_rfl
theorem hsPa : still ER c_rewrite_partner_r3 = true := by kernel_rfl
theorem hsEq : still ER c_slices_Equal_int_int_r6 = true := by kernel_rfl
theorem rN : RuleO ruleN.f ruleN.p := nothing_ok hst5
theorem rI : RuleO ruleI.f ruleI.p := inverse_ok hst5 (by kernel_rfl) hsPa (by kernel_rfl) hsEq
include hcomp in
theorem rC : RuleO ruleC.f ruleC.p := compose_ok hcomp hst5 (by kernel_rfl) (by kernel_rfl) hsPa hsEq
theorem forCancel : RulesFor [ruleN, ruleI] true false := ⟨fun r hr => by
    simp only [List.mem_cons, List.not_mem_nil, or_false] at hr
    rcases hr with rfl | rfl
    · exact rN
    · exact rI, fun n b l j ho hj hp => by
    rw [rule_eq ho hj hp]
    simp only [tryR, ruleN, ruleI, useN, true_and, if_true]
    by_cases h : (gO l j).gate = 1
    · simp only [if_pos h]
    · simp only [if_neg h]
      cases useI l j <;> simp, by simp⟩
include hcomp in
theorem forMerge : RulesFor [ruleC] false true := ⟨fun r hr => by
    simp only [List.mem_cons, List.not_mem_nil, or_false] at hr
    subst hr
    exact rC hcomp, fun n b l j ho hj hp => by
    rw [rule_eq ho hj hp]
    simp only [tryR, ruleC, Bool.false_eq_true, false_and, if_false, if_true]
    cases useC l j <;> simp, by simp⟩
include hcomp in
theorem forSimplify : RulesFor [ruleN, ruleI, ruleC] true true := ⟨fun r hr => by
    simp only [List.mem_cons, List.not_mem_nil, or_false] at hr
    rcases hr with rfl | rfl | rfl
    · exact rN
    · exact rI
    · exact rC hcomp, fun n b l j ho hj hp => by
    rw [rule_eq ho hj hp]
    simp only [tryR, ruleN, ruleI, ruleC, useN, true_and, if_true]
    by_cases h : (gO l j).gate = 1
    · simp only [if_pos h]
    · simp only [if_neg h]
      cases useI l j <;> cases useC l j <;> simp, by simp⟩
end
theorem UsedO.shape {cn mg : Bool} {c : CircD} {r : AVal} {B : Hp} (h : UsedO cn mg c r B) : ∃ (q b e : Int) (s : AVal) (d : CircD), r = .tup [.agg [aint q, aint b, s], aint e] ∧ s.one = true ∧ CircW (.agg [aint q, aint b, s]) d B ∧ ((¬ CircOk c ∧ e = 80 ∧ d = ⟨0, 0, []⟩) ∨ (CircOk c ∧ e = 0 ∧ d = ⟨c.qubits, c.bits, rulesL cn mg c.ops⟩)) := by
  rcases h with ⟨h, rfl, rfl⟩ | ⟨h, v, rfl, hv⟩
  · exact ⟨0, 0, 80, anil, ⟨0, 0, []⟩, rfl, rfl, ⟨anil, [], [], rfl, .inl ⟨rfl, rfl, rfl⟩, (fun p hp => by cases hp), rfl, by simp, rfl⟩, .inl ⟨h, rfl, rfl⟩⟩
  · have hv0 := hv
    obtain ⟨s, T, Bs, rfl, hW, -⟩ := hv
    exact ⟨c.qubits, c.bits, 0, s, _, rfl, hW.isOne, hv0, .inr ⟨h, rfl, rfl⟩⟩
theorem Cancel_open {v : AVal} {c : CircD} (hv : CircA v c) (hsm : Small c) : CallO ER f_rewrite_Cancel [v] L fun r L' => ∃ B, UsedO true false c r B ∧ L' = B ++ L := by
  refine CallO.to (callO_open rfl n_rewrite_Cancel ?_)
  have hv0 := hv
  obtain ⟨s, rfl, ho⟩ := hv
  have hs1 : s.one = true := by obtain ⟨_, hr, -, -⟩ := ho; exact RowA.isOne hr
  refine bodyO_of (Nat.le_of_ble_eq_true rfl) ?_; generalize ht : argSlots _ 0 .nil = t; have h0 : t.get 0 = some _ := (by rw [← ht]; rfl); clear ht
  repeat (first | intro id | refine goq ?_)
  refine gok ?_
  refine (used_open forCancel .here hv0 hsm).mono ?_
  rintro r L' ⟨B, hB, rfl⟩
  obtain ⟨q, b, e, s2, d, rfl, s21, -, -⟩ := hB.shape
  repeat (first | intro id | refine goq ?_)
  ((first | apply retO_r | apply retO_n); (focus (exact resq)))
  exact ⟨B ++ L, by exact subq, B, hB, rfl⟩
theorem Merge_open (hcomp : CompOk) {v : AVal} {c : CircD} (hv : CircA v c) (hsm : Small c) : CallO ER f_rewrite_Merge [v] L fun r L' => ∃ B, UsedO false true c r B ∧ L' = B ++ L := by
  refine CallO.to (callO_open rfl n_rewrite_Merge ?_)
  have hv0 := hv
  obtain ⟨s, rfl, ho⟩ := hv
  have hs1 : s.one = true := by obtain ⟨_, hr, -, -⟩ := ho; exact RowA.isOne hr
  refine bodyO_of (Nat.le_of_ble_eq_true rfl) ?_; generalize ht : argSlots _ 0 .nil = t; have h0 : t.get 0 = some _ := (by rw [← ht]; rfl); clear ht
  repeat (first | intro id | refine goq ?_)
  refine gok ?_
  refine (used_open (forMerge hcomp) .here hv0 hsm).mono ?_
  rintro r L' ⟨B, hB, rfl⟩
  obtain ⟨q, b, e, s2, d, rfl, s21, -, -⟩ := hB.shape
  repeat (first | intro id | refine goq ?_)
  ((first | apply retO_r | apply retO_n); (focus (exact resq)))
  exact ⟨B ++ L, by exact subq, B, hB, rfl⟩
theorem Simplify_open (hcomp : CompOk) {v : AVal} {c : CircD} (hv : CircA v c) (hsm : Small c) : CallO ER f_rewrite_Simplify [v] L fun r L' => ∃ B, UsedO true true c r B ∧ L' = B ++ L := by
  refine CallO.to (callO_open rfl n_rewrite_Simplify ?_)
  have hv0 := hv
  obtain ⟨s, rfl, ho⟩ := hv
  have hs1 : s.one = true := by obtain ⟨_, hr, -, -⟩ := ho; exact RowA.isOne hr
  refine bodyO_of (Nat.le_of_ble_eq_true rfl) ?_; generalize ht : argSlots _ 0 .nil = t; have h0 : t.get 0 = some _ := (by rw [← ht]; rfl); clear ht
  repeat (first | intro id | refine goq ?_)
  refine gok ?_
  refine (used_open (forSimplify hcomp) .here hv0 hsm).mono ?_
  rintro r L' ⟨B, hB, rfl⟩
  obtain ⟨q, b, e, s2, d, rfl, s21, -, -⟩ := hB.shape
  repeat (first | intro id | refine goq ?_)
  ((first | apply retO_r | apply retO_n); (focus (exact resq)))
  exact ⟨B ++ L, by exact subq, B, hB, rfl⟩
end Go.Proofs.YtmflheoafeenfaaGreat
namespace Go.Proofs.YtmflheoafeenfaaGreat
open Go.Am
set_option maxRecDepth 4000
set_option maxHeartbeats 16000000
variable {L : Hp}
theorem CircW.views {v : AVal} {c : CircD} {B M : Hp} (h : CircW v c B) (hM : ∀ id c, In id c B → In id c M) : ∃ u, CircA u c ∧ ∀ vs us, ViewsO M vs us → ViewsO M (v :: vs) (u :: us) := by
  obtain ⟨s, T, Bs, rfl, hW, hT, he, hl, rfl⟩ := h
  rcases hW with ⟨rfl, rfl, rfl⟩ | ⟨ic, tl, rfl, rfl⟩
  · refine ⟨.agg [aint c.qubits, aint c.bits, anil], ⟨anil, rfl, ?_⟩, fun vs us h => vs_bare rfl h⟩
    rw [← he]
    exact ⟨[], .inl ⟨rfl, rfl, rfl⟩, .nil, by simp [tpO]⟩
  · obtain ⟨us, h1, h2⟩ := hT.ops.view (M := M) 60 fun id c h => hM _ _ (In.app h)
    have hs : seg (tpC T ++ tl) 0 (T.length * 6) = some (tpC T) := by
      unfold seg
      have := tpC_len T
      rw [if_pos (by simp; omega), List.drop_zero, ← this, List.take_left]
    refine ⟨.agg [aint c.qubits, aint c.bits, .rs us T.length none], ⟨_, rfl, us, .inr ⟨none, by rw [← he, tpO_len]⟩, by rw [← he]; exact h2, by rw [← he, tpO_len]; omega⟩, fun vs us' h => vs_view rfl (vo_agg (vl_cons vo_sc (vl_cons vo_sc (vl_cons (vo_sl (hM _ _ (In.appl .here)) hs h1) vl_nil)))) h⟩
theorem OpsS.tail {cs tl : List AVal} {os : List OpD} {k : Nat} {H : Hp} (h : OpsS cs os k H) : OpsS (cs ++ tl) os k H := by
  induction h with
  | done => exact .done
  | more hk hs hq h ih =>
    refine .more hk ?_ hq ih
    unfold seg at hs ⊢
    split at hs
    · rename_i hle
      rw [if_pos (by simp; omega), List.drop_append_of_le_length (by omega), List.take_append_of_le_length (by simp; omega)]
      exact hs
    · cases hs
theorem ownW_l1 {i4 ic : Nat} {n bt : Int} {os : List OpD} (hlt : os.length ≤ 1000000) (hql : ∀ k, k < os.length → (os.getD k default).qs.length < 2 ^ 62) :
    ∀ (d k : Nat) (t : Tr AVal) (cs : List AVal) (H : Hp), d + k = os.length → OpsS cs os k H → t.get 4 = some (.ptr i4 0) → t.get 7 = some (aint k) →
    WpO ER (.loop c_phasorlaw18_own_l1) t ((i4, [aint n, aint bt, .sl ic 0 os.length 6 none]) :: (ic, cs) :: (H ++ L)) (fun ex t' L' => ex = .exit 0 ∧ Keep [3, 5] t t' ∧ Am.Sub L L') := by
  intro d
  induction d with
  | zero =>
    intro k t cs H hk hS h4 h7
    obtain rfl : k = os.length := by omega
    refine wo_loop ?_
    repeat (first | intro id | refine goq ?_)
    exact ⟨rfl, by exact keepq, by exact subq⟩
  | succ d ih =>
    intro k t cs H hk hS h4 h7
    have hkl : k < os.length := by omega
    have hqk := hql k hkl
    cases hS with
    | done => omega
    | @more _ u Bq H' _ hs hown hS' =>
    have hc2 : cs[0 + k * 6 + 2]? = some u := by rw [seg_get hs (by omega)]; rfl
    have hl6 : 0 + k * 6 + 2 < cs.length := (List.getElem?_eq_some_iff.1 hc2).1
    have hS2 : ∀ v, OpsS (cs.set (k * 6 + 1) v) os (k + 1) H' := fun v => hS'.set (by omega)
    refine wo_loop ?_
    repeat (first | intro id | refine goq ?_)
    refine WpO.mono (Q := fun ex t' L' => ex = .exit 2 ∧ Keep [3, 4, 5, 7] t t' ∧ Am.Sub ((i4, [aint n, aint bt, .sl ic 0 os.length 6 none]) :: (ic, cs) :: (H' ++ L)) L') ?_ ?_
    · rcases hown with ⟨rfl, hq0, rfl⟩ | ⟨iq, cap, rfl, rfl⟩
      · refine wo_loop ?_
        repeat (first | intro id | refine goq ?_)
        exact ⟨rfl, by exact keepq, by exact subq⟩
      · refine WpO.weak (WpO.mono (own_l0 (E := ER) (L := H' ++ L) (i4 := i4) (ic := ic) (n := n) (bt := bt) hkl hc2 hqk (os.getD k default).qs.length 0 _ (os.getD k default).qs (by omega) rfl ?_ ?_ ?_) ?_) ?_
        · exact slotq
        · exact slotq
        · exact slotq
        · rintro ex t1 L' ⟨e1, e2, e3⟩
          exact ⟨e1, Keep.trans (by exact keepq) e2, e3⟩
        · exact subq
    · rintro ex t1 L' ⟨rfl, hK, hsub⟩
      have g4 := (hK.ex 4 rfl).trans h4
      have g7 := (hK.ex 7 rfl).trans h7
      have hK2 : Keep [3, 5] t t1 := hK.less rfl
      refine blkO.x (seqO.n (WpO.weak ?_ hsub))
      repeat (first | intro id | refine goq ?_)
      refine WpO.weak (WpO.mono (ih (k + 1) _ (cs.set (k * 6 + 1) (.sc (.int .i64 77))) H' (by omega) (hS2 _) ?_ ?_) ?_) (by exact subq)
      · exact slotq
      · exact slotq
      · rintro ex t' L' ⟨e1, e2, e3⟩
        exact ⟨e1, Keep.trans (by exact keepq) e2, e3⟩
theorem ownW_ok {v w kv : AVal} {c d : CircD} {B : Hp} (hv : CircA v c) (hk : CircA kv c) (hw : CircW w d B) : CallO ER f_phasorlaw18_own [v, w, kv] (B ++ L) fun r L' => r = abool true ∧ L' = L := by
  refine CallO.to (callO_open rfl n_phasorlaw18_own ?_)
  have hv0 := hv
  have hk0 := hk
  obtain ⟨sv, rfl, hvo⟩ := hv
  obtain ⟨sk, rfl, hko⟩ := hk
  have hsv1 : sv.one = true := by obtain ⟨_, hr, -, -⟩ := hvo; exact RowA.isOne hr
  have hsk1 : sk.one = true := by obtain ⟨_, hr, -, -⟩ := hko; exact RowA.isOne hr
  obtain ⟨s, T, Bs, rfl, hW, hT, he, hl, rfl⟩ := hw
  have s1 := hW.isOne
  refine bodyO_of (Nat.le_of_ble_eq_true rfl) ?_; generalize ht : argSlots _ 0 .nil = t; have h0 : t.get 0 = some _ := (by rw [← ht]; rfl); have h1 : t.get 1 = some _ := (by rw [← ht]; rfl); have h2 : t.get 2 = some _ := (by rw [← ht]; rfl); clear ht
  repeat (first | intro id | refine goq ?_)
  rename_i i3 i4
  refine WpO.mono (Q := fun ex t' L' => ex = .exit 0 ∧ t'.get 3 = some (.ptr i3 0) ∧ t'.get 5 = some (.ptr id 0) ∧ Am.Sub ((id, [aint c.qubits, aint c.bits, sk]) :: (i3, [aint c.qubits, aint c.bits, sv]) :: L) L') ?_ ?_
  · rcases hW with ⟨rfl, rfl, rfl⟩ | ⟨ic, tl, rfl, rfl⟩
    · refine wo_loop ?_
      repeat (first | intro id | refine goq ?_)
      exact ⟨rfl, by exact slotq, by exact slotq, by exact subq⟩
    · have hol := hT.ops.lens
      have hfr := (hT.ops.front).tail (tl := tl)
      have hlen : T.length = (tpO T).length := (tpO_len T).symm
      rw [hlen]
      refine WpO.weak (WpO.mono (ownW_l1 (L := (id, [aint c.qubits, aint c.bits, sk]) :: (i3, [aint c.qubits, aint c.bits, sv]) :: L) (i4 := i4) (ic := ic) (n := d.qubits) (bt := d.bits) (os := tpO T) (by omega) hol (tpO T).length 0 _ (tpC T ++ tl) (tpH T) (by omega) hfr ?_ ?_) ?_) ?_
      · exact slotq
      · exact slotq
      · rintro ex t1 L' ⟨rfl, hK, hsub⟩
        refine ⟨rfl, (hK.ex 3 rfl).trans ?_, (hK.ex 5 rfl).trans ?_, hsub⟩
        · exact slotq
        · exact slotq
      · simp only [List.append_assoc]
        exact subq
  · rintro ex t1 L' ⟨rfl, g3, g5, hsub⟩
    refine blkO.x (seqO.n (WpO.weak ?_ hsub))
    repeat (first | intro id | refine goq ?_)
    refine gok ?_
    refine (Same8_ok (E := ER) rfl rfl rfl rfl (by kernel_rfl) (vs_bare hv0.bare (vs_bare hk0.bare vs_nil)) hv0 hk0).mono ?_
    rintro r L' ⟨⟨x, rfl, hx⟩, rfl⟩
    cases x with
    | false => have := hx.2 rfl; cases this
    | true =>
      repeat (first | intro id | refine goq ?_)
      ((first | apply retO_r | apply retO_n); (focus (exact resq)))
      exact ⟨L, by exact subq, rfl, rfl⟩
end Go.Proofs.YtmflheoafeenfaaGreat
namespace Go.Proofs.YtmflheoafeenfaaGreat
open Go.Am
set_option maxRecDepth 4000
set_option maxHeartbeats 16000000
abbrev Cx := Nat × Nat
abbrev ac (z : Cx) : AVal := .sc (.complex .f64 z.1 z.2)
def cmul (x y : Cx) : Cx := (fOp .sub (fOp .mul x.1 y.1) (fOp .mul x.2 y.2), fOp .add (fOp .mul x.1 y.2) (fOp .mul x.2 y.1))
def cadd (x y : Cx) : Cx := (fOp .add x.1 y.1, fOp .add x.2 y.2)
def gC (l : List Cx) (i : Nat) : Cx := l.getD i (0, 0)
def dotT (n : Nat) (a b : List Cx) (i j : Nat) : Nat → Cx
  | 0 => (0, 0)
  | k + 1 => cadd (dotT n a b i j k) (cmul (gC a (n * i + k)) (gC b (n * k + j)))
def timesC (n : Nat) (a b : List Cx) : List Cx := (List.range (n * n)).map fun p => dotT n a b (p / n) (p % n) n
def partT (n : Nat) (a b : List Cx) (p0 k : Nat) : List Cx := (List.range (n * n)).map fun p => if p < p0 then dotT n a b (p / n) (p % n) n else if p = p0 then dotT n a b (p / n) (p % n) k else (0, 0)
theorem partT_len {n p k : Nat} {a b : List Cx} : (partT n a b p k).length = n * n := by simp [partT]
theorem partT_get {n p k q : Nat} {a b : List Cx} (h : q < n * n) : gC (partT n a b p k) q = if q < p then dotT n a b (q / n) (q % n) n else if q = p then dotT n a b (q / n) (q % n) k else (0, 0) := by
  unfold gC partT
  rw [List.getD_eq_getElem?_getD, List.getElem?_map, List.getElem?_range h]
  rfl
theorem partT_zero {n : Nat} {a b : List Cx} : partT n a b 0 0 = List.replicate (n * n) (0, 0) := by
  unfold partT
  refine List.ext_getElem (by simp) fun i h1 h2 => ?_
  simp only [List.getElem_map, List.getElem_range, List.getElem_replicate]
  rw [if_neg (by omega)]
  split
  · rfl
  · rfl
theorem partT_next {n p : Nat} {a b : List Cx} : partT n a b p n = partT n a b (p + 1) 0 := by
  unfold partT
  refine List.map_congr_left fun q _ => ?_
  by_cases h1 : q < p
  · rw [if_pos h1, if_pos (by omega)]
  · rw [if_neg h1]
    by_cases h2 : q = p
    · rw [if_pos h2, if_pos (by omega)]
    · rw [if_neg h2, if_neg (by omega)]
      split <;> rfl
theorem partT_full {n : Nat} {a b : List Cx} : partT n a b (n * n) 0 = timesC n a b := by
  unfold partT timesC
  refine List.map_congr_left fun q hq => ?_
  rw [if_pos (List.mem_range.1 hq)]
theorem pos_lt {n i j : Nat} (hi : i < n) (hj : j < n) : n * i + j < n * n := by
  have : n * i + n ≤ n * n := by
    have := Nat.mul_le_mul_left n (show i + 1 ≤ n by omega)
    rwa [Nat.mul_add, Nat.mul_one] at this
  omega
theorem pos_div {n i j : Nat} (hj : j < n) : (n * i + j) / n = i := by
  rw [Nat.mul_add_div (by omega), Nat.div_eq_of_lt hj, Nat.add_zero]
theorem pos_mod {n i j : Nat} (hj : j < n) : (n * i + j) % n = j := by
  rw [Nat.mul_add_mod, Nat.mod_eq_of_lt hj]
theorem partT_set {n i j k : Nat} {a b : List Cx} (hi : i < n) (hj : j < n) : (partT n a b (n * i + j) k).set (n * i + j) (cadd (gC (partT n a b (n * i + j) k) (n * i + j)) (cmul (gC a (n * i + k)) (gC b (n * k + j)))) = partT n a b (n * i + j) (k + 1) := by
  have hp := pos_lt hi hj
  have hd := pos_div (i := i) hj
  have hm := pos_mod (i := i) hj
  rw [partT_get hp, if_neg (by omega), if_pos rfl, hd, hm]
  refine List.ext_getElem (by simp [partT_len]) fun q h1 h2 => ?_
  rw [List.getElem_set]
  have e1 : ∀ k', (partT n a b (n * i + j) k')[q]'(by rw [partT_len]; rw [partT_len] at h2; exact h2) = if q < n * i + j then dotT n a b (q / n) (q % n) n else if q = n * i + j then dotT n a b (q / n) (q % n) k' else (0, 0) := by
    intro k'
    simp [partT]
  rw [e1 (k + 1), e1 k]
  by_cases e : n * i + j = q
  · subst e
    rw [if_pos rfl, if_neg (by omega), if_pos rfl, hd, hm]
    rfl
  · rw [if_neg e]
    split
    · rfl
    · rw [if_neg (fun h => e h.symm), if_neg (fun h => e h.symm)]
def SlC (s : AVal) (l : List Cx) : Prop := RowA s (l.map ac) l.length
theorem bare_SlC {v : AVal} {l : List Cx} (h : SlC v l) : v.bare = true := bare_Row h (by
  intro c hc
  obtain ⟨x, -, rfl⟩ := List.mem_map.1 hc
  rfl)
theorem sc_cx (l : List Cx) : ∀ a ∈ l.map ac, ∃ v, a = .sc v := by
  intro a ha
  obtain ⟨x, -, rfl⟩ := List.mem_map.1 ha
  exact ⟨_, rfl⟩
theorem getAc {l : List Cx} {i : Nat} (h : i < l.length) : (l.map ac)[i]? = some (ac (gC l i)) := by
  simp [gC, h]
theorem getAcR {l : List Cx} {i : Nat} (h : i < l.length) : ((l.map ac).drop (i * 1))[0]? = some (ac (gC l i)) := by
  rw [Nat.mul_one, List.getElem?_drop, Nat.add_zero]
  exact getAc h
theorem times_l0 (hst : still ER c_gate_times_r11 = true) {n i j i2 i3 i5 im : Nat} {ra rb : AVal} {nb : Int} {la lb : List Cx} {cap : Option Nat} {L : Hp} (hn : n ≤ 64) (ha : SlC ra la) (hb : SlC rb lb) (hla : la.length = n * n) (hlb : lb.length = n * n) (hi : i < n) (hj : j < n) :
    ∀ (d k : Nat) (t : Tr AVal), d + k = n → t.get 2 = some (.ptr i2 0) → t.get 3 = some (.ptr i3 0) → t.get 5 = some (.ptr i5 0) → t.get 6 = some (aint i) → t.get 7 = some (aint j) → t.get 27 = some (aint n) → t.get 28 = some (aint k) →
    WpO ER (.loop c_gate_times_l0) t ((im, (partT n la lb (n * i + j) k).map ac) :: (i5, [aint n, .sl im 0 (n * n) 1 cap]) :: (i3, [aint nb, rb]) :: (i2, [aint n, ra]) :: L) (fun ex t' L' => ex = .exit 4 ∧ Keep [2, 3, 4, 5, 6, 17, 18, 22, 23] t t' ∧ L' = (im, (partT n la lb (n * i + j) n).map ac) :: (i5, [aint n, .sl im 0 (n * n) 1 cap]) :: (i3, [aint nb, rb]) :: (i2, [aint n, ra]) :: L) := by
  unfold SlC at ha hb
  have ha1 := RowA.isOne ha
  have hb1 := RowA.isOne hb
  intro d
  induction d with
  | zero =>
    intro k t hd h2 h3 h5 h6 h7 h27 h28
    obtain rfl : k = n := by omega
    refine wo_loop ?_
    repeat (first | intro id | refine goq ?_)
    exact ⟨rfl, by exact keepq, rfl⟩
  | succ d ih =>
    intro k t hd h2 h3 h5 h6 h7 h27 h28
    have hk : k < n := by omega
    have hp := pos_lt hi hj
    have hp1 := pos_lt hi hk
    have hp2 := pos_lt hk hj
    have hnn : n * n ≤ 4096 := Nat.mul_le_mul hn hn
    have hgm := getAc (l := partT n la lb (n * i + j) k) (i := n * i + j) (by rw [partT_len]; exact hp)
    have hml : ((partT n la lb (n * i + j) k).map ac).length = n * n := by simp [partT_len]
    have hga := getAcR (l := la) (i := n * i + k) (by omega)
    have hgb := getAcR (l := lb) (i := n * k + j) (by omega)
    refine wo_loop ?_
    repeat (first | intro id | refine goq ?_)
    have hs : ((partT n la lb (n * i + j) k).map ac).set (n * i + j) (ac (cadd (gC (partT n la lb (n * i + j) k) (n * i + j)) (cmul (gC la (n * i + k)) (gC lb (n * k + j))))) = (partT n la lb (n * i + j) (k + 1)).map ac := by rw [← partT_set hi hj, List.map_set]
    refine WpO.weak (WpO.mono (ih (k + 1) _ (by omega) ?_ ?_ ?_ ?_ ?_ ?_ ?_) ?_) ?_
    · exact slotq
    · exact slotq
    · exact slotq
    · exact slotq
    · exact slotq
    · exact slotq
    · exact slotq
    · rintro ex t' L' ⟨e1, e2, e3⟩
      exact ⟨e1, Keep.trans (by exact keepq) e2, e3⟩
    · rw [← hs]
      exact Sub.refl _
theorem times_l1 (hst : still ER c_gate_times_r11 = true) {n i i2 i3 i5 im : Nat} {ra rb : AVal} {nb : Int} {la lb : List Cx} {cap : Option Nat} {L : Hp} (hn : n ≤ 64) (ha : SlC ra la) (hb : SlC rb lb) (hla : la.length = n * n) (hlb : lb.length = n * n) (hi : i < n) :
    ∀ (d j : Nat) (t : Tr AVal), d + j = n → t.get 2 = some (.ptr i2 0) → t.get 3 = some (.ptr i3 0) → t.get 5 = some (.ptr i5 0) → t.get 6 = some (aint i) → t.get 22 = some (aint n) → t.get 23 = some (aint j) →
    WpO ER (.loop c_gate_times_l1) t ((im, (partT n la lb (n * i + j) 0).map ac) :: (i5, [aint n, .sl im 0 (n * n) 1 cap]) :: (i3, [aint nb, rb]) :: (i2, [aint n, ra]) :: L) (fun ex t' L' => ex = .exit 2 ∧ Keep [2, 3, 4, 5, 17, 18] t t' ∧ L' = (im, (partT n la lb (n * (i + 1)) 0).map ac) :: (i5, [aint n, .sl im 0 (n * n) 1 cap]) :: (i3, [aint nb, rb]) :: (i2, [aint n, ra]) :: L) := by
  intro d
  induction d with
  | zero =>
    intro j t hd h2 h3 h5 h6 h22 h23
    obtain rfl : j = n := by omega
    refine wo_loop ?_
    repeat (first | intro id | refine goq ?_)
    exact ⟨rfl, by exact keepq, by rw [Nat.mul_add, Nat.mul_one]⟩
  | succ d ih =>
    intro j t hd h2 h3 h5 h6 h22 h23
    have hj : j < n := by omega
    refine wo_loop ?_
    repeat (first | intro id | refine goq ?_)
    refine WpO.mono (times_l0 hst hn ha hb hla hlb hi hj n 0 _ (by omega) ?_ ?_ ?_ ?_ ?_ ?_ ?_) ?_
    · exact slotq
    · exact slotq
    · exact slotq
    · exact slotq
    · exact slotq
    · exact slotq
    · exact slotq
    rintro ex t1 L1 ⟨rfl, hK, rfl⟩
    have g2 : t1.get 2 = some (.ptr i2 0) := (hK.ex 2 rfl).trans (by exact slotq)
    have g3 : t1.get 3 = some (.ptr i3 0) := (hK.ex 3 rfl).trans (by exact slotq)
    have g5 : t1.get 5 = some (.ptr i5 0) := (hK.ex 5 rfl).trans (by exact slotq)
    have g6 : t1.get 6 = some (aint i) := (hK.ex 6 rfl).trans (by exact slotq)
    have g22 : t1.get 22 = some (aint n) := (hK.ex 22 rfl).trans (by exact slotq)
    have g23 : t1.get 23 = some (aint j) := (hK.ex 23 rfl).trans (by exact slotq)
    have hKt : Keep [2, 3, 4, 5, 17, 18] t t1 := Keep.trans (by exact keepq) (hK.less rfl)
    clear hK
    rw [partT_next, Nat.add_assoc]
    refine blkO.x (blkO.n (seqO.n ?_))
    repeat (first | intro id | refine goq ?_)
    refine WpO.mono (ih (j + 1) _ (by omega) ?_ ?_ ?_ ?_ ?_ ?_) ?_
    · exact slotq
    · exact slotq
    · exact slotq
    · exact slotq
    · exact slotq
    · exact slotq
    · rintro ex t' L' ⟨e1, e2, e3⟩
      exact ⟨e1, hKt.trans (Keep.trans (by exact keepq) e2), e3⟩
theorem times_l2 (hst : still ER c_gate_times_r11 = true) {n i2 i3 i5 im : Nat} {ra rb : AVal} {nb : Int} {la lb : List Cx} {cap : Option Nat} {L : Hp} (hn : n ≤ 64) (ha : SlC ra la) (hb : SlC rb lb) (hla : la.length = n * n) (hlb : lb.length = n * n) :
    ∀ (d i : Nat) (t : Tr AVal), d + i = n → t.get 2 = some (.ptr i2 0) → t.get 3 = some (.ptr i3 0) → t.get 5 = some (.ptr i5 0) → t.get 17 = some (aint n) → t.get 18 = some (aint i) →
    WpO ER (.loop c_gate_times_l2) t ((im, (partT n la lb (n * i) 0).map ac) :: (i5, [aint n, .sl im 0 (n * n) 1 cap]) :: (i3, [aint nb, rb]) :: (i2, [aint n, ra]) :: L) (fun ex t' L' => ex = .exit 0 ∧ Keep [4, 5] t t' ∧ L' = (im, (timesC n la lb).map ac) :: (i5, [aint n, .sl im 0 (n * n) 1 cap]) :: (i3, [aint nb, rb]) :: (i2, [aint n, ra]) :: L) := by
  intro d
  induction d with
  | zero =>
    intro i t hd h2 h3 h5 h17 h18
    obtain rfl : i = n := by omega
    rw [partT_full]
    refine wo_loop ?_
    repeat (first | intro id | refine goq ?_)
    exact ⟨rfl, by exact keepq, rfl⟩
  | succ d ih =>
    intro i t hd h2 h3 h5 h17 h18
    have hi : i < n := by omega
    refine wo_loop ?_
    repeat (first | intro id | refine goq ?_)
    refine WpO.mono (times_l1 hst hn ha hb hla hlb hi n 0 _ (by omega) ?_ ?_ ?_ ?_ ?_ ?_) ?_
    · exact slotq
    · exact slotq
    · exact slotq
    · exact slotq
    · exact slotq
    · exact slotq
    rintro ex t1 L1 ⟨rfl, hK, rfl⟩
    have g2 : t1.get 2 = some (.ptr i2 0) := (hK.ex 2 rfl).trans (by exact slotq)
    have g3 : t1.get 3 = some (.ptr i3 0) := (hK.ex 3 rfl).trans (by exact slotq)
    have g5 : t1.get 5 = some (.ptr i5 0) := (hK.ex 5 rfl).trans (by exact slotq)
    have g17 : t1.get 17 = some (aint n) := (hK.ex 17 rfl).trans (by exact slotq)
    have g18 : t1.get 18 = some (aint i) := (hK.ex 18 rfl).trans (by exact slotq)
    have hKt : Keep [4, 5] t t1 := Keep.trans (by exact keepq) (hK.less rfl)
    clear hK
    refine blkO.x (blkO.n (seqO.n ?_))
    repeat (first | intro id | refine goq ?_)
    refine WpO.mono (ih (i + 1) _ (by omega) ?_ ?_ ?_ ?_ ?_) ?_
    · exact slotq
    · exact slotq
    · exact slotq
    · exact slotq
    · exact slotq
    · rintro ex t' L' ⟨e1, e2, e3⟩
      exact ⟨e1, hKt.trans (Keep.trans (by exact keepq) e2), e3⟩
def MatA (v : AVal) (n : Nat) (l : List Cx) : Prop := ∃ s, v = .agg [aint n, s] ∧ SlC s l ∧ l.length = n * n
theorem times_ok (hst : still ER c_gate_times_r11 = true) (hs1 : still ER c_gate_times_r1 = true) {n : Nat} {va vb : AVal} {la lb : List Cx} {L : Hp} (hn : n ≤ 64) (h0 : 0 < n) (ha : MatA va n la) (hb : MatA vb n lb) : CallO ER f_gate_times [va, vb] L fun r L' => MatA r n (timesC n la lb) ∧ L' = L := by
  obtain ⟨ra, rfl, ha, hla⟩ := ha
  obtain ⟨rb, rfl, hb, hlb⟩ := hb
  refine callO_iso1 (R := fun r => MatA r n (timesC n la lb)) rfl n_gate_times (by simp [AVal.bare, bareAll, aint, bare_SlC ha, bare_SlC hb]) ?_
  have ha0 := ha
  have hb0 := hb
  unfold SlC at ha hb
  rw [hla] at ha
  rw [hlb] at hb
  have ha1 := RowA.isOne ha
  have hb1 := RowA.isOne hb
  have hnn : n * n ≤ 4096 := Nat.mul_le_mul hn hn
  have hz : List.replicate (n * n) (AVal.sc (Value.complex .f64 0 0)) = (partT n la lb (n * 0) 0).map ac := by
    rw [Nat.mul_zero, partT_zero, List.map_replicate]
  refine bodyO_of (Nat.le_of_ble_eq_true rfl) ?_; generalize ht : argSlots _ 0 .nil = t; have h0 : t.get 0 = some _ := (by rw [← ht]; rfl); have h1 : t.get 1 = some _ := (by rw [← ht]; rfl); clear ht
  repeat (first | intro id | refine goq ?_)
  rename_i i2 i3 i4 im
  rw [hla, hz]
  refine WpO.weak (WpO.mono (times_l2 (i2 := i2) (i3 := i3) (i5 := id) (im := im) (nb := n) (cap := some (n * n)) (L := [(i4, [aint 0, anil])]) hst hn ha0 hb0 hla hlb n 0 _ (by omega) ?_ ?_ ?_ ?_ ?_) ?_) (by exact subq)
  · exact slotq
  · exact slotq
  · exact slotq
  · exact slotq
  · exact slotq
  rintro ex t1 L1 ⟨rfl, hK, rfl⟩
  have g4 : t1.get 4 = some (.ptr i4 0) := (hK.ex 4 rfl).trans (by exact slotq)
  have g5 : t1.get 5 = some (.ptr id 0) := (hK.ex 5 rfl).trans (by exact slotq)
  clear hK
  refine blkO.x (seqO.n ?_)
  repeat (first | intro id | refine goq ?_)
  ((first | apply retO_r | apply retO_n); (focus (exact resq)))
  have hlt : (timesC n la lb).length = n * n := by simp [timesC]
  refine ⟨.agg [aint n, .rs ((timesC n la lb).map ac) (n * n) (some (n * n))], vo_agg (vl_cons vo_sc (vl_cons (vo_sl .here (by rw [Nat.mul_one]; exact seg_full (by simp [hlt])) (vl_sc (sc_cx _))) vl_nil)), _, rfl, ?_, hlt⟩
  unfold SlC
  rw [hlt]
  exact .inr ⟨_, rfl⟩
def eqC (x y : Cx) : Bool := fCmp .eql x.1 y.1 && fCmp .eql x.2 y.2
def eqCL : List Cx → List Cx → Bool
  | [], [] => true
  | x :: a, y :: b => eqC x y && eqCL a b
  | _, _ => false
theorem eqCL_len {a b : List Cx} (h : eqCL a b = true) : a.length = b.length := by
  induction a generalizing b with
  | nil => cases b with
    | nil => rfl
    | cons y b => cases h
  | cons x a ih => cases b with
    | nil => cases h
    | cons y b =>
      simp only [eqCL, Bool.and_eq_true] at h
      simp [ih h.2]
theorem eqCL_drop {a b : List Cx} {k : Nat} (ha : k < a.length) (hb : k < b.length) : eqCL (a.drop k) (b.drop k) = (eqC (gC a k) (gC b k) && eqCL (a.drop (k + 1)) (b.drop (k + 1))) := by
  rw [List.drop_eq_getElem_cons ha, List.drop_eq_getElem_cons hb, eqCL]
  simp [gC, ha, hb]
theorem equalC_l0 (hst : still ER c_slices_Equal_complex128_complex128_r6 = true) {la lb : List Cx} {va vb : AVal} (ha : SlC va la) (hb : SlC vb lb) (hl : la.length = lb.length) (hlt : la.length ≤ 1000000) : ∀ (d k : Nat) (t : Tr AVal) (L : Hp), d + k = la.length → t.get 0 = some va → t.get 1 = some vb → t.get 12 = some (aint la.length) → t.get 13 = some (aint k) → eqCL la lb = eqCL (la.drop k) (lb.drop k) →
    WpO ER (.loop c_slices_Equal_complex128_complex128_l0) t L (fun ex t' L' => ((ex = .exit 0 ∧ eqCL la lb = true) ∨ (ex = .ret ∧ t'.get 4 = some (abool false) ∧ eqCL la lb = false)) ∧ L' = L) := by
  unfold SlC at ha hb
  have ha1 := RowA.isOne ha
  have hb1 := RowA.isOne hb
  intro d
  induction d with
  | zero =>
    intro k t L hk h0 h1 h12 h13 he
    obtain rfl : k = la.length := by omega
    refine wo_loop ?_
    repeat (first | intro id | refine goq ?_)
    refine ⟨.inl ⟨rfl, ?_⟩, rfl⟩
    rw [he, List.drop_length, hl, List.drop_length]
    rfl
  | succ d ih =>
    intro k t L hk h0 h1 h12 h13 he
    have hka : k < la.length := by omega
    have hkb : k < lb.length := by omega
    have hga := getAcR hka
    have hgb := getAcR hkb
    rw [eqCL_drop hka hkb] at he
    have hz : (!(fCmp .eql (gC la k).1 (gC lb k).1 && fCmp .eql (gC la k).2 (gC lb k).2)) = !eqC (gC la k) (gC lb k) := rfl
    refine wo_loop ?_
    repeat (first | intro id | refine goq ?_)
    rw [hz]
    cases hc : eqC (gC la k) (gC lb k) with
    | true =>
      rw [hc, Bool.true_and] at he
      repeat (first | intro id | refine goq ?_)
      refine WpO.mono (ih (k + 1) _ _ (by omega) ?_ ?_ ?_ ?_ he) ?_
      · exact slotq
      · exact slotq
      · exact slotq
      · exact slotq
      · exact fun ex t' L' h => h
    | false =>
      rw [hc, Bool.false_and] at he
      repeat (first | intro id | refine goq ?_)
      exact ⟨.inr ⟨rfl, by exact slotq, he⟩, rfl⟩
theorem equalC_ok (hst : still ER c_slices_Equal_complex128_complex128_r6 = true) {la lb : List Cx} {a b va vb : AVal} {L : Hp} (hm : ER.mode f_slices_Equal_complex128_complex128 = .iso false) (hw : ViewsO L [a, b] [va, vb]) (ha : SlC va la) (hb : SlC vb lb) (hlt : la.length ≤ 1000000) : CallO ER f_slices_Equal_complex128_complex128 [a, b] L fun r L' => r = abool (eqCL la lb) ∧ L' = L := by
  refine callO_iso0 (R := fun r => r = abool (eqCL la lb)) hm n_slices_Equal_complex128_complex128 hw ?_
  have ha0 := ha
  have hb0 := hb
  unfold SlC at ha hb
  have ha1 := RowA.isOne ha
  have hb1 := RowA.isOne hb
  by_cases hl : la.length = lb.length
  · refine bodyO_of (Nat.le_of_ble_eq_true rfl) ?_; generalize ht : argSlots _ 0 .nil = t; have h0 : t.get 0 = some _ := (by rw [← ht]; rfl); have h1 : t.get 1 = some _ := (by rw [← ht]; rfl); clear ht
    repeat (first | intro id | refine goq ?_)
    refine WpO.mono (equalC_l0 hst ha0 hb0 hl hlt la.length 0 _ _ (by omega) ?_ ?_ ?_ ?_ (by simp)) ?_
    · exact slotq
    · exact slotq
    · exact slotq
    · exact slotq
    rintro ex t1 L1 ⟨⟨rfl, he⟩ | ⟨rfl, g4, he⟩, rfl⟩
    · refine blkO.x (seqO.n ?_)
      rw [he]
      repeat (first | intro id | refine goq ?_)
      ((first | apply retO_r | apply retO_n); (focus (exact resq)))
      exact ⟨rfl, rfl⟩
    · refine blkO.r (seqO.r ?_)
      rw [he]
      ((first | apply retO_r | apply retO_n); (focus (exact resq)))
      exact ⟨rfl, rfl⟩
  · have he : eqCL la lb = false := by
      cases h : eqCL la lb with
      | false => rfl
      | true => exact absurd (eqCL_len h) hl
    rw [he]
    refine bodyO_of (Nat.le_of_ble_eq_true rfl) ?_; generalize ht : argSlots _ 0 .nil = t; have h0 : t.get 0 = some _ := (by rw [← ht]; rfl); have h1 : t.get 1 = some _ := (by rw [← ht]; rfl); clear ht
    repeat (first | intro id | refine goq ?_)
    ((first | apply retO_r | apply retO_n); (focus (exact resq)))
    exact ⟨rfl, rfl⟩
end Go.Proofs.YtmflheoafeenfaaGreat
namespace Go.Proofs.YtmflheoafeenfaaGreat
open Go.Am
set_option maxRecDepth 4000
set_option maxHeartbeats 16000000
abbrev af (x : Nat) : AVal := .sc (.float .f64 x)
def zcells : List Cx → List AVal
  | [] => []
  | z :: l => af z.1 :: af z.2 :: zcells l
theorem zcells_len : ∀ l : List Cx, (zcells l).length = l.length * 2
  | [] => rfl
  | z :: l => by simp only [zcells, List.length_cons, zcells_len l]; omega
theorem zcells_get : ∀ {l : List Cx} {k : Nat}, k < l.length → (zcells l)[k * 2]? = some (af (gC l k).1) ∧ (zcells l)[k * 2 + 1]? = some (af (gC l k).2)
  | [], k, h => by simp at h
  | z :: l, 0, _ => by simp [zcells, gC]
  | z :: l, k + 1, h => by
    have := zcells_get (l := l) (k := k) (by simpa using h)
    have e : (k + 1) * 2 = k * 2 + 2 := by omega
    rw [e]
    simp only [zcells, List.getElem?_cons_succ, gC, List.getD_cons_succ] at this ⊢
    exact this
theorem zcells_set : ∀ {l : List Cx} {k : Nat} (z : Cx), k < l.length → putSeg (zcells l) (k * 2) [af z.1, af z.2] = zcells (l.set k z)
  | [], k, z, h => by simp at h
  | x :: l, 0, z, _ => by simp [zcells, putSeg]
  | x :: l, k + 1, z, h => by
    have := zcells_set (l := l) (k := k) z (by simpa using h)
    unfold putSeg at this ⊢
    have e : (k + 1) * 2 = k * 2 + 2 := by omega
    have e2 : k * 2 + 2 + [af z.1, af z.2].length = (k * 2 + [af z.1, af z.2].length) + 2 := by simp
    rw [e, e2]
    simp only [zcells, List.take_succ_cons, List.drop_succ_cons, List.set_cons_succ, List.cons_append]
    rw [this]
theorem zcells_sc : ∀ (l : List Cx), ∀ a ∈ zcells l, ∃ v, a = .sc v
  | [], a, h => by simp [zcells] at h
  | z :: l, a, h => by
    simp only [zcells, List.mem_cons] at h
    rcases h with rfl | rfl | h
    · exact ⟨_, rfl⟩
    · exact ⟨_, rfl⟩
    · exact zcells_sc l a h
def SlZ (u : AVal) (r : List Cx) : Prop := RowA u (zcells r) r.length
theorem bare_SlZ {u : AVal} {r : List Cx} (h : SlZ u r) : u.bare = true := bare_Row h (by
  intro c hc
  obtain ⟨v, rfl⟩ := zcells_sc r c hc
  rfl)
def gZ (m : List (List Cx)) (r c : Nat) : Cx := gC (m.getD r []) c
/-- A matrix in rows of rows. -/
def MatZ (v : AVal) (n : Nat) (m : List (List Cx)) : Prop := m.length = n ∧ (∀ i, i < n → (m.getD i []).length = n) ∧ ∃ us, RowA v us n ∧ us.length = n ∧ ∀ i, i < n → ∃ u, us[i]? = some u ∧ SlZ u (m.getD i [])
theorem MatZ.bare {v : AVal} {n : Nat} {m : List (List Cx)} (h : MatZ v n m) : v.bare = true := by
  obtain ⟨h1, h2, us, h3, h4, h5⟩ := h
  refine bare_Row h3 fun c hc => ?_
  obtain ⟨i, hi, rfl⟩ := List.getElem_of_mem hc
  obtain ⟨u, h6, h7⟩ := h5 i (by omega)
  rw [List.getElem?_eq_getElem hi] at h6
  cases h6
  exact bare_SlZ h7
def zstep (s x y : Cx) : Cx := (fOp .sub (fOp .add s.1 (fOp .mul x.1 y.1)) (fOp .mul x.2 y.2), fOp .add (fOp .add s.2 (fOp .mul x.1 y.2)) (fOp .mul x.2 y.1))
def dotZ (a b : List (List Cx)) (r c : Nat) : Nat → Cx
  | 0 => (0, 0)
  | k + 1 => zstep (dotZ a b r c k) (gZ a r k) (gZ b k c)
def rowZ (n : Nat) (a b : List (List Cx)) (r c : Nat) : List Cx := (List.range n).map fun q => if q < c then dotZ a b r q n else (0, 0)
def timesZ (n : Nat) (a b : List (List Cx)) : List (List Cx) := (List.range n).map fun r => rowZ n a b r n
theorem rowZ_len {n r c : Nat} {a b : List (List Cx)} : (rowZ n a b r c).length = n := by simp [rowZ]
theorem rowZ_set {n r c : Nat} {a b : List (List Cx)} (h : c < n) : (rowZ n a b r c).set c (dotZ a b r c n) = rowZ n a b r (c + 1) := by
  unfold rowZ
  refine List.ext_getElem (by simp) fun q h1 h2 => ?_
  rw [List.getElem_set]
  simp only [List.getElem_map, List.getElem_range]
  by_cases e : c = q
  · subst e
    rw [if_pos rfl, if_pos (by omega)]
  · rw [if_neg e]
    by_cases e2 : q < c
    · rw [if_pos e2, if_pos (by omega)]
    · rw [if_neg e2, if_neg (by omega)]
theorem rowZ_zero {n r : Nat} {a b : List (List Cx)} : zcells (rowZ n a b r 0) = (List.replicate n [af 0, af 0]).flatten := by
  have : rowZ n a b r 0 = List.replicate n (0, 0) := by
    unfold rowZ
    refine List.ext_getElem (by simp) fun i h1 h2 => by simp
  rw [this]
  clear this
  induction n with
  | zero => rfl
  | succ n ih => rw [List.replicate_succ, zcells, ih, List.replicate_succ, List.flatten_cons]; rfl
theorem getZ0 {l : List Cx} {k : Nat} (h : k < l.length) : ((zcells l).drop (k * 2))[0]? = some (af (gC l k).1) := by rw [List.getElem?_drop]; exact (zcells_get h).1
theorem getZ1 {l : List Cx} {k : Nat} (h : k < l.length) : (((zcells l).drop (k * 2)).drop 1)[0]? = some (af (gC l k).2) := by rw [List.getElem?_drop, List.getElem?_drop]; exact (zcells_get h).2
theorem rtimes_l0 (h11 : still ER c_phasorref06_Times_r11 = true) (h12 : still ER c_phasorref06_Times_r12 = true) {n r c i9 : Nat} {va vb : AVal} {a b : List (List Cx)} {L : Hp} (hn : n ≤ 64) (ha : MatZ va n a) (hb : MatZ vb n b) (hr : r < n) (hc : c < n) :
    ∀ (d k : Nat) (t : Tr AVal), d + k = n → t.get 0 = some va → t.get 1 = some vb → t.get 5 = some (aint n) → t.get 7 = some (aint r) → t.get 8 = some (aint c) → t.get 9 = some (.ptr i9 0) → t.get 10 = some (aint k) →
    WpO ER (.loop c_phasorref06_Times_l0) t ((i9, [af (dotZ a b r c k).1, af (dotZ a b r c k).2]) :: L) (fun ex t' L' => ex = .exit 4 ∧ Keep [0, 1, 4, 5, 6, 7, 8, 9] t t' ∧ L' = (i9, [af (dotZ a b r c n).1, af (dotZ a b r c n).2]) :: L) := by
  obtain ⟨a1, a2, ua, a3, a4, a5⟩ := ha
  obtain ⟨b1, b2, ub, b3, b4, b5⟩ := hb
  have ha1 := RowA.isOne a3
  have hb1 := RowA.isOne b3
  intro d
  induction d with
  | zero =>
    intro k t hd h0 h1 h5 h7 h8 h9 h10
    obtain rfl : k = n := by omega
    refine wo_loop ?_
    repeat (first | intro id | refine goq ?_)
    exact ⟨rfl, by exact keepq, rfl⟩
  | succ d ih =>
    intro k t hd h0 h1 h5 h7 h8 h9 h10
    have hk : k < n := by omega
    obtain ⟨x, hx, hxs⟩ := a5 r hr
    obtain ⟨y, hy, hys⟩ := b5 k hk
    have lx := a2 r hr
    have ly := b2 k hk
    have hxd : (ua.drop (r * 1))[0]? = some x := by rw [Nat.mul_one, List.getElem?_drop]; exact hx
    have hyd : (ub.drop (k * 1))[0]? = some y := by rw [Nat.mul_one, List.getElem?_drop]; exact hy
    unfold SlZ at hxs hys
    have x1 := RowA.isOne hxs
    have y1 := RowA.isOne hys
    have hx0 := getZ0 (l := a.getD r []) (k := k) (by omega)
    have hx1 := getZ1 (l := a.getD r []) (k := k) (by omega)
    have hy0 := getZ0 (l := b.getD k []) (k := c) (by omega)
    have hy1 := getZ1 (l := b.getD k []) (k := c) (by omega)
    have zl1 := zcells_len (a.getD r [])
    have zl2 := zcells_len (b.getD k [])
    have d1 : 2 ≤ ((zcells (a.getD r [])).drop (k * 2)).length := by rw [List.length_drop, zl1]; omega
    have d2 : 2 ≤ ((zcells (b.getD k [])).drop (c * 2)).length := by rw [List.length_drop, zl2]; omega
    refine wo_loop ?_
    repeat (first | intro id | refine goq ?_)
    refine WpO.weak (WpO.mono (ih (k + 1) _ (by omega) ?_ ?_ ?_ ?_ ?_ ?_ ?_) ?_) ?_
    · exact slotq
    · exact slotq
    · exact slotq
    · exact slotq
    · exact slotq
    · exact slotq
    · exact slotq
    · rintro ex t' L' ⟨e1, e2, e3⟩
      exact ⟨e1, Keep.trans (by exact keepq) e2, e3⟩
    · exact Sub.refl _
end Go.Proofs.YtmflheoafeenfaaGreat
