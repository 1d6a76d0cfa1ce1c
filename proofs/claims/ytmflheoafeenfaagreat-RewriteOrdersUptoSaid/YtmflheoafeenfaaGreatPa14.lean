/- Parts of the proof, joined by program: RwP6, RwFR, RwP7, RwP8, AmComp. -/
import Derived.Test.YtmflheoafeenfaaGreatPa13
import Derived.Test.YtmflheoafeenfaaGreatPa9
import Derived.Test.YtmflheoafeenfaaGreatPa1
set_option linter.unusedSimpArgs false
set_option linter.unusedVariables false
namespace Go.Proofs.YtmflheoafeenfaaGreat
open Go.Am
set_option maxRecDepth 4000
set_option maxHeartbeats 16000000
variable {E : Env} {L : Hp}
theorem equalI_l0 (hst : still E c_slices_Equal_int_int_r6 = true) {la lb : List Int} {va vb : AVal} (ha : SlI va la) (hb : SlI vb lb) (hl : la.length = lb.length) (hlt : la.length < 2 ^ 62) : ∀ (d k : Nat) (t : Tr AVal), d + k = la.length → t.get 0 = some va → t.get 1 = some vb → t.get 12 = some (aint la.length) → t.get 13 = some (aint k) →
    WpO E (.loop c_slices_Equal_int_int_l0) t L (fun ex t' _ => (ex = .exit 0 ∧ la.drop k = lb.drop k) ∨ (ex = .ret ∧ t'.get 4 = some (abool false) ∧ la.drop k ≠ lb.drop k)) := by
  have ha1 := RowA.isOne ha
  have hb1 := RowA.isOne hb
  intro d
  induction d with
  | zero =>
    intro k t hk h0 h1 h12 h13
    refine wo_loop ?_
    repeat (first | intro id | refine goq ?_)
    refine .inl ⟨rfl, ?_⟩
    rw [List.drop_of_length_le (by omega), List.drop_of_length_le (by omega)]
  | succ d ih =>
    intro k t hk h0 h1 h12 h13
    refine wo_loop ?_
    have hde := drop_eq 0 hl (show k < la.length by omega)
    by_cases c : la.getD k 0 = lb.getD k 0
    · repeat (first | intro id | refine goq ?_)
      refine WpO.mono (ih (k + 1) _ (by omega) (by exact slotq) (by exact slotq) (by exact slotq) (by exact slotq)) fun ex t' L' hq => ?_
      simp only [c, true_and] at hde
      simp only [ne_eq, hde]
      exact hq
    · repeat (first | intro id | refine goq ?_)
      exact .inr ⟨rfl, by exact slotq, fun he => c (hde.1 he).1⟩
theorem equalI_ok (hF : E.fns = fnsT) (hm : E.mode f_slices_Equal_int_int = .iso false) (hst : still E c_slices_Equal_int_int_r6 = true) {a b va vb : AVal} {la lb : List Int} (hv : ViewsO L [a, b] [va, vb]) (ha : SlI va la) (hb : SlI vb lb) (hlt : la.length < 2 ^ 62) :
    CallO E f_slices_Equal_int_int [a, b] L fun v L' => v = abool (decide (la = lb)) ∧ L' = L := by
  refine callO_iso0 hm (fns_of hF n_slices_Equal_int_int) hv ?_
  have ha1 := RowA.isOne ha
  have hb1 := RowA.isOne hb
  refine bodyO_of (Nat.le_of_ble_eq_true rfl) ?_; generalize ht : argSlots _ 0 .nil = t; have h0 : t.get 0 = some _ := (by rw [← ht]; rfl); have h1 : t.get 1 = some _ := (by rw [← ht]; rfl); clear ht
  by_cases hl : la.length = lb.length
  · repeat (first | intro id | refine goq ?_)
    refine WpO.mono (equalI_l0 hst ha hb hl hlt la.length 0 _ (by omega) (by exact slotq) (by exact slotq) (by exact slotq) (by exact slotq)) fun ex t' L' hq => ?_
    obtain ⟨rfl, hq2⟩ | ⟨rfl, hq2, hq3⟩ := hq
    · simp only [List.drop_zero] at hq2
      repeat (first | intro id | refine goq ?_)
      ((first | apply retO_r | apply retO_n); (focus (exact resq)))
      exact ⟨rfl, by rw [decide_eq_true hq2]; rfl⟩
    · simp only [List.drop_zero] at hq3
      repeat (first | intro id | refine goq ?_)
      ((first | apply retO_r | apply retO_n); (focus (exact resq)))
      exact ⟨rfl, by rw [decide_eq_false hq3]; rfl⟩
  · repeat (first | intro id | refine goq ?_)
    ((first | apply retO_r | apply retO_n); (focus (exact resq)))
    exact ⟨rfl, by rw [decide_eq_false (by rintro rfl; exact hl rfl)]; rfl⟩
theorem Same1_ok (hF : E.fns = fnsT) (hm : E.mode f_circuit_Same_1 = .iso false) (hmi : E.mode f_slices_Equal_int_int = .iso false) (hst : still E c_slices_Equal_int_int_r6 = true) {p q : AVal} {a b : OpD} (hp : SlI p a.qs) (hq : SlI q b.qs) (hlt : a.qs.length < 2 ^ 62) :
    CallO E f_circuit_Same_1 [.agg (opCells p a), .agg (opCells q b)] L fun v L' => (∃ x, v = abool x ∧ (x = true ↔ a = b)) ∧ L' = L := by
  refine callO_iso0 (R := fun v => ∃ x, v = abool x ∧ (x = true ↔ a = b)) hm (fns_of hF n_circuit_Same_1) (vs_bare ?_ (vs_bare ?_ vs_nil)) ?_
  · simp [opCells, AVal.bare, bareAll, aint, bare_SlI hp]
  · simp [opCells, AVal.bare, bareAll, aint, bare_SlI hq]
  have hp1 := RowA.isOne hp
  have hq1 := RowA.isOne hq
  unfold opCells
  obtain ⟨a1, a2, a3, a4, a5, a6⟩ := a
  obtain ⟨b1, b2, b3, b4, b5, b6⟩ := b
  simp only at hp hq hlt ⊢
  simp only [OpD.mk.injEq]
  refine bodyO_of (Nat.le_of_ble_eq_true rfl) ?_; generalize ht : argSlots _ 0 .nil = t; have h0 : t.get 0 = some _ := (by rw [← ht]; rfl); have h1 : t.get 1 = some _ := (by rw [← ht]; rfl); clear ht
  by_cases c1 : a1 = b1
  · by_cases c2 : a2 = b2
    · repeat (first | intro id | refine goq ?_)
      refine gok ?_
      refine (equalI_ok hF hmi hst (vs_bare (bare_SlI hp) (vs_bare (bare_SlI hq) vs_nil)) hp hq hlt).mono ?_
      rintro r L' ⟨rfl, rfl⟩
      by_cases c3 : a3 = b3
      · rw [decide_eq_true c3]
        repeat' (first | intro id | refine goq ?_ | (refine oo_guard (by exact slotq) (fun hc => ?_) (fun hc => ?_) <;> (fail_if_success (exact absurd hc (by decide))) <;> rw [hc] <;> (try simp only [decide_eq_true_eq, decide_eq_false_iff_not, ne_eq, Decidable.not_not] at hc)) | (refine wo_cond_if (by exact slotq) (fun hc => ?_) (fun hc => ?_) <;> (try simp only [decide_eq_true_eq, decide_eq_false_iff_not, ne_eq, Decidable.not_not] at hc)) | ((first | apply retO_r | apply retO_n); (focus (exact resq))))
        all_goals (refine ⟨rfl, _, rfl, ?_⟩; grind)
      · rw [decide_eq_false c3]
        repeat' (first | intro id | refine goq ?_ | (refine oo_guard (by exact slotq) (fun hc => ?_) (fun hc => ?_) <;> (fail_if_success (exact absurd hc (by decide))) <;> rw [hc] <;> (try simp only [decide_eq_true_eq, decide_eq_false_iff_not, ne_eq, Decidable.not_not] at hc)) | (refine wo_cond_if (by exact slotq) (fun hc => ?_) (fun hc => ?_) <;> (try simp only [decide_eq_true_eq, decide_eq_false_iff_not, ne_eq, Decidable.not_not] at hc)) | ((first | apply retO_r | apply retO_n); (focus (exact resq))))
        all_goals (refine ⟨rfl, _, rfl, ?_⟩; grind)
    · repeat' (first | intro id | refine goq ?_ | (refine oo_guard (by exact slotq) (fun hc => ?_) (fun hc => ?_) <;> (fail_if_success (exact absurd hc (by decide))) <;> rw [hc] <;> (try simp only [decide_eq_true_eq, decide_eq_false_iff_not, ne_eq, Decidable.not_not] at hc)) | (refine wo_cond_if (by exact slotq) (fun hc => ?_) (fun hc => ?_) <;> (try simp only [decide_eq_true_eq, decide_eq_false_iff_not, ne_eq, Decidable.not_not] at hc)) | ((first | apply retO_r | apply retO_n); (focus (exact resq))))
      all_goals (refine ⟨rfl, _, rfl, ?_⟩; grind)
  · repeat' (first | intro id | refine goq ?_ | (refine oo_guard (by exact slotq) (fun hc => ?_) (fun hc => ?_) <;> (fail_if_success (exact absurd hc (by decide))) <;> rw [hc] <;> (try simp only [decide_eq_true_eq, decide_eq_false_iff_not, ne_eq, Decidable.not_not] at hc)) | (refine wo_cond_if (by exact slotq) (fun hc => ?_) (fun hc => ?_) <;> (try simp only [decide_eq_true_eq, decide_eq_false_iff_not, ne_eq, Decidable.not_not] at hc)) | ((first | apply retO_r | apply retO_n); (focus (exact resq))))
    all_goals (refine ⟨rfl, _, rfl, ?_⟩; grind)
theorem equalF_l0 (hF : E.fns = fnsT) (hm : E.mode f_circuit_Same_1 = .iso false) (hmi : E.mode f_slices_Equal_int_int = .iso false) (hst : still E c_slices_Equal_int_int_r6 = true) {a b : List OpD} {va vb : AVal} {ca cb : List AVal} (ha : RowA va ca a.length) (hca : OpsC ca a) (hb : RowA vb cb b.length) (hcb : OpsC cb b) (hl : a.length = b.length) (hlt : a.length < 2 ^ 62) :
    ∀ (d k : Nat) (t : Tr AVal) (L : Hp), d + k = a.length → t.get 0 = some va → t.get 1 = some vb → t.get 2 = some (.fn (.func f_circuit_Same_1) [] []) → t.get 15 = some va → t.get 16 = some (aint a.length) → t.get 17 = some (aint k) →
    WpO E (.loop c_slices_EqualFunc_api_Op_api_Op_api_Op_api_Op_l0) t L (fun ex t' _ => (ex = .exit 0 ∧ a.drop k = b.drop k) ∨ (ex = .ret ∧ t'.get 6 = some (abool false) ∧ a.drop k ≠ b.drop k)) := by
  have ha1 := RowA.isOne ha
  have hb1 := RowA.isOne hb
  intro d
  induction d with
  | zero =>
    intro k t L hk h0 h1 h2 h15 h16 h17
    refine wo_loop ?_
    repeat (first | intro id | refine goq ?_)
    refine .inl ⟨rfl, ?_⟩
    rw [List.drop_of_length_le (by omega), List.drop_of_length_le (by omega)]
  | succ d ih =>
    intro k t L hk h0 h1 h2 h15 h16 h17
    refine wo_loop ?_
    have hde := drop_eq default hl (show k < a.length by omega)
    obtain ⟨p, hp, hpl, hp6, hps⟩ := hca.getE (show k < a.length by omega)
    obtain ⟨q, hq, hql, hq6, hqs⟩ := hcb.getE (show k < b.length by omega)
    have hp1 := RowA.isOne hp
    have hq1 := RowA.isOne hq
    generalize a.getD k default = x at *
    generalize b.getD k default = y at *
    have ss := fun (M : Hp) => Same1_ok (L := M) hF hm hmi hst hp hq hpl
    unfold opCells at hps hqs ss
    repeat (first | intro id | refine goq ?_)
    refine gok ?_
    refine (ss _).mono ?_
    rintro r L' ⟨⟨z, rfl, hz⟩, rfl⟩
    cases z with
    | true =>
      have e := hz.1 rfl
      repeat (first | intro id | refine goq ?_)
      refine WpO.mono (ih (k + 1) _ _ (by omega) (by exact slotq) (by exact slotq) (by exact slotq) (by exact slotq) (by exact slotq) (by exact slotq)) fun ex t' L' hq => ?_
      simp only [e, true_and] at hde
      simp only [ne_eq, hde]
      exact hq
    | false =>
      repeat (first | intro id | refine goq ?_)
      refine .inr ⟨rfl, by exact slotq, fun he => ?_⟩
      have := hz.2 (hde.1 he).1
      cases this
theorem equalF_ok (hF : E.fns = fnsT) (hmE : E.mode f_slices_EqualFunc_api_Op_api_Op_api_Op_api_Op = .iso false) (hm : E.mode f_circuit_Same_1 = .iso false) (hmi : E.mode f_slices_Equal_int_int = .iso false) (hst : still E c_slices_Equal_int_int_r6 = true) {a b : List OpD} {va vb : AVal} (ha : OpsA va a) (hb : OpsA vb b) :
    CallO E f_slices_EqualFunc_api_Op_api_Op_api_Op_api_Op [va, vb, .fn (.func f_circuit_Same_1) [] []] L fun v L' => v = abool (decide (a = b)) ∧ L' = L := by
  refine callO_iso0 hmE (fns_of hF n_slices_EqualFunc_api_Op_api_Op_api_Op_api_Op) (vs_bare ha.bare (vs_bare hb.bare (vs_bare rfl vs_nil))) ?_
  obtain ⟨ca, hra, hca, hlt⟩ := ha
  obtain ⟨cb, hrb, hcb, -⟩ := hb
  have ha1 := RowA.isOne hra
  have hb1 := RowA.isOne hrb
  refine bodyO_of (Nat.le_of_ble_eq_true rfl) ?_; generalize ht : argSlots _ 0 .nil = t; have h0 : t.get 0 = some _ := (by rw [← ht]; rfl); have h1 : t.get 1 = some _ := (by rw [← ht]; rfl); have h2 : t.get 2 = some _ := (by rw [← ht]; rfl); clear ht
  by_cases hl : a.length = b.length
  · repeat (first | intro id | refine goq ?_)
    refine WpO.mono (equalF_l0 hF hm hmi hst hra hca hrb hcb hl hlt a.length 0 _ _ (by omega) (by exact slotq) (by exact slotq) (by exact slotq) (by exact slotq) (by exact slotq) (by exact slotq)) fun ex t' L' hq => ?_
    obtain ⟨rfl, hq2⟩ | ⟨rfl, hq2, hq3⟩ := hq
    · simp only [List.drop_zero] at hq2
      repeat (first | intro id | refine goq ?_)
      ((first | apply retO_r | apply retO_n); (focus (exact resq)))
      exact ⟨rfl, by rw [decide_eq_true hq2]; rfl⟩
    · simp only [List.drop_zero] at hq3
      repeat (first | intro id | refine goq ?_)
      ((first | apply retO_r | apply retO_n); (focus (exact resq)))
      exact ⟨rfl, by rw [decide_eq_false hq3]; rfl⟩
  · repeat (first | intro id | refine goq ?_)
    ((first | apply retO_r | apply retO_n); (focus (exact resq)))
    exact ⟨rfl, by rw [decide_eq_false (by rintro rfl; exact hl rfl)]; rfl⟩
theorem CSame_ok (hF : E.fns = fnsT) (hmS : E.mode f_circuit_Same = .iso false) (hmE : E.mode f_slices_EqualFunc_api_Op_api_Op_api_Op_api_Op = .iso false) (hm : E.mode f_circuit_Same_1 = .iso false) (hmi : E.mode f_slices_Equal_int_int = .iso false) (hst : still E c_slices_Equal_int_int_r6 = true) {a b va vb : AVal} {c d : CircD} (hv : ViewsO L [a, b] [va, vb]) (hc : CircA va c) (hd : CircA vb d) :
    CallO E f_circuit_Same [a, b] L fun v L' => (∃ x, v = abool x ∧ (x = true ↔ c = d)) ∧ L' = L := by
  refine callO_iso0 (R := fun v => ∃ x, v = abool x ∧ (x = true ↔ c = d)) hmS (fns_of hF n_circuit_Same) hv ?_
  obtain ⟨sa, rfl, hoa⟩ := hc
  obtain ⟨sb, rfl, hob⟩ := hd
  have ha1 : sa.one = true := by obtain ⟨_, hr, -, -⟩ := hoa; exact RowA.isOne hr
  have hb1 : sb.one = true := by obtain ⟨_, hr, -, -⟩ := hob; exact RowA.isOne hr
  obtain ⟨c1, c2, c3⟩ := c
  obtain ⟨d1, d2, d3⟩ := d
  simp only at *
  simp only [CircD.mk.injEq]
  refine bodyO_of (Nat.le_of_ble_eq_true rfl) ?_; generalize ht : argSlots _ 0 .nil = t; have h0 : t.get 0 = some _ := (by rw [← ht]; rfl); have h1 : t.get 1 = some _ := (by rw [← ht]; rfl); clear ht
  by_cases e1 : c1 = d1
  · by_cases e2 : c2 = d2
    · repeat (first | intro id | refine goq ?_)
      refine gok ?_
      refine (equalF_ok hF hmE hm hmi hst hoa hob).mono ?_
      rintro r L' ⟨rfl, rfl⟩
      repeat (first | intro id | refine goq ?_)
      ((first | apply retO_r | apply retO_n); (focus (exact resq)))
      exact ⟨rfl, _, rfl, by simp [e1, e2]⟩
    · repeat (first | intro id | refine goq ?_)
      ((first | apply retO_r | apply retO_n); (focus (exact resq)))
      exact ⟨rfl, _, rfl, by simp [e2]⟩
  · repeat (first | intro id | refine goq ?_)
    ((first | apply retO_r | apply retO_n); (focus (exact resq)))
    exact ⟨rfl, _, rfl, by simp [e1]⟩
end Go.Proofs.YtmflheoafeenfaaGreat
namespace Go.Proofs.YtmflheoafeenfaaGreat
open Go.Am
set_option maxRecDepth 4000
set_option maxHeartbeats 8000000
variable {E : Env} {L : Hp}
/-! A copied circuit, from the front -/
inductive OpsS (cs : List AVal) (os : List OpD) : Nat → Hp → Prop where
  | done : OpsS cs os os.length []
  | more {k : Nat} {u : AVal} {B H : Hp} (hk : k < os.length) (hs : seg cs (0 + k * 6) 6 = some (opCells u (os.getD k default))) (hq : OwnI u (os.getD k default).qs B) (h : OpsS cs os (k + 1) H) : OpsS cs os k (B ++ H)
theorem OpsS.ext {cs : List AVal} {os : List OpD} {k : Nat} {H B : Hp} {u : AVal} {o : OpD} (hl : cs.length = os.length * 6) (h : OpsS cs os k H) (hq : OwnI u o.qs B) : OpsS (cs ++ opCells u o) (os ++ [o]) k (H ++ B) := by
  induction h with
  | done =>
    have e : (os ++ [o]).getD os.length default = o := by simp
    have := OpsS.more (cs := cs ++ opCells u o) (os := os ++ [o]) (k := os.length) (u := u) (B := B) (H := []) (by simp) (by
      rw [e, seg, if_pos (by simp [hl, opCells]), Nat.zero_add, ← hl, List.drop_left]
      simp [opCells]) (by rw [e]; exact hq) (by have := OpsS.done (cs := cs ++ opCells u o) (os := os ++ [o]); simpa using this)
    simpa using this
  | @more k u' B' H' hk hs hq' h ih =>
    have e : (os ++ [o]).getD k default = os.getD k default := by simp [List.getElem?_append_left hk]
    rw [List.append_assoc]
    refine .more (u := u') (by simp; omega) ?_ (by rw [e]; exact hq') ih
    rw [e]
    unfold seg at hs ⊢
    split at hs
    · rename_i hle
      rw [if_pos (by simp; omega), List.drop_append_of_le_length (by omega), List.take_append_of_le_length (by simp; omega)]
      exact hs
    · cases hs
theorem OpsB.front {cs : List AVal} {os : List OpD} {H : Hp} (h : OpsB cs os H) : OpsS cs os 0 H := by
  induction h with
  | nil => exact .done
  | snoc h hq hb ih => exact ih.ext h.one hq
theorem seg_get {cs r : List AVal} {off n i : Nat} (h : seg cs off n = some r) (hi : i < n) : cs[off + i]? = r[i]? := by
  unfold seg at h
  split at h
  · simp only [Option.some.injEq] at h
    subst h
    rw [List.getElem?_take, if_pos hi, List.getElem?_drop]
  · cases h
theorem OpsB.lens {cs : List AVal} {os : List OpD} {H : Hp} (h : OpsB cs os H) : ∀ k, k < os.length → (os.getD k default).qs.length < 2 ^ 62 := by
  induction h with
  | nil => intro k hk; simp at hk
  | @snoc cs os H B u o h hq hb ih =>
    intro k hk
    rcases Nat.lt_or_ge k os.length with h1 | h1
    · have := ih k h1
      simpa [List.getElem?_append_left h1] using this
    · have : k = os.length := by simp at hk; omega
      subst this
      simpa using hb
theorem OpsS.set {cs : List AVal} {os : List OpD} {k i : Nat} {H : Hp} {v : AVal} (h : OpsS cs os k H) (hi : i < k * 6) : OpsS (cs.set i v) os k H := by
  induction h with
  | done => exact .done
  | @more k u B H hk hs hq h ih =>
    refine .more (u := u) hk ?_ hq (ih (by omega))
    unfold seg at hs ⊢
    rw [List.length_set]
    split at hs
    · rename_i hle
      rw [if_pos hle]
      rw [List.drop_set_of_lt (by omega)]
      exact hs
    · cases hs
theorem CircO.views {v : AVal} {c : CircD} {B M : Hp} (h : CircO v c B) (hM : ∀ id c, In id c B → In id c M) : ∃ u, CircA u c ∧ ∀ vs us, ViewsO M vs us → ViewsO M (v :: vs) (u :: us) := by
  have h0 := h
  obtain ⟨s, cs, Bs, H, rfl, hb, ho, hlt, rfl⟩ := h
  rcases bufInv hb with ⟨rfl, -, e, -⟩ | ⟨id, rfl, -⟩
  · have e3 : c.ops = [] := List.eq_nil_of_length_eq_zero e
    exact ⟨_, ⟨anil, rfl, [], .inl ⟨rfl, e, rfl⟩, by rw [e3]; exact .nil, by omega⟩, fun vs us hv => vs_bare rfl hv⟩
  · obtain ⟨u, h1, h2⟩ := h0.view 60 hM
    exact ⟨u, h2, fun vs us hv => vs_view rfl h1 hv⟩
end Go.Proofs.YtmflheoafeenfaaGreat
namespace Go.Proofs.YtmflheoafeenfaaGreat
open Go.Am
set_option maxRecDepth 4000
set_option maxHeartbeats 16000000
variable {E : Env} {L : Hp}
/-- The loop that writes one operation's qubits over. -/
theorem own_l0 {i4 ic iq m k : Nat} {n bt : Int} {cap : Option Nat} {cs : List AVal} {ql : List Int} (hkm : k < m) (hc2 : cs[0 + k * 6 + 2]? = some (.sl iq 0 ql.length 1 cap)) (hlt : ql.length < 2 ^ 62) :
    ∀ (d j : Nat) (t : Tr AVal) (l : List Int), d + j = ql.length → l.length = ql.length → t.get 4 = some (.ptr i4 0) → t.get 7 = some (aint k) → t.get 8 = some (aint j) →
    WpO E (.loop c_phasorlaw18_own_l0) t ((i4, [aint n, aint bt, .sl ic 0 m 6 none]) :: (ic, cs) :: (iq, l.map aint) :: L) (fun ex t' L' => ex = .exit 2 ∧ Keep [3, 4, 5, 7] t t' ∧ Am.Sub ((i4, [aint n, aint bt, .sl ic 0 m 6 none]) :: (ic, cs) :: L) L') := by
  have hl6 : 0 + k * 6 + 2 < cs.length := (List.getElem?_eq_some_iff.1 hc2).1
  intro d
  induction d with
  | zero =>
    intro j t l hj hl h4 h7 h8
    obtain rfl : j = ql.length := by omega
    refine wo_loop ?_
    repeat (first | intro id | refine goq ?_)
    exact ⟨rfl, by exact keepq, by exact subq⟩
  | succ d ih =>
    intro j t l hj hl h4 h7 h8
    refine wo_loop ?_
    repeat (first | intro id | refine goq ?_)
    refine WpO.mono (ih (j + 1) _ (l.set j (-9)) (by omega) (by simp [hl]) ?_ ?_ ?_) ?_
    · exact slotq
    · exact slotq
    · exact slotq
    · rintro ex t' L' ⟨e1, e2, e3⟩
      exact ⟨e1, Keep.trans (by exact keepq) e2, e3⟩
theorem own_l1 {i4 ic : Nat} {n bt : Int} {os : List OpD} (hlt : os.length ≤ 1000000) (hql : ∀ k, k < os.length → (os.getD k default).qs.length < 2 ^ 62) :
    ∀ (d k : Nat) (t : Tr AVal) (cs : List AVal) (H : Hp), d + k = os.length → cs.length = os.length * 6 → OpsS cs os k H → t.get 4 = some (.ptr i4 0) → t.get 7 = some (aint k) →
    WpO E (.loop c_phasorlaw18_own_l1) t ((i4, [aint n, aint bt, .sl ic 0 os.length 6 none]) :: (ic, cs) :: (H ++ L)) (fun ex t' L' => ex = .exit 0 ∧ Keep [3, 5] t t' ∧ Am.Sub L L') := by
  intro d
  induction d with
  | zero =>
    intro k t cs H hk hcl hS h4 h7
    obtain rfl : k = os.length := by omega
    refine wo_loop ?_
    repeat (first | intro id | refine goq ?_)
    exact ⟨rfl, by exact keepq, by exact subq⟩
  | succ d ih =>
    intro k t cs H hk hcl hS h4 h7
    have hkl : k < os.length := by omega
    have hqk := hql k hkl
    cases hS with
    | done => omega
    | @more _ u Bq H' _ hs hown hS' =>
    have hc2 : cs[0 + k * 6 + 2]? = some u := by rw [seg_get hs (by omega)]; rfl
    have hl6 : 0 + k * 6 + 2 < cs.length := (List.getElem?_eq_some_iff.1 hc2).1
    have hS2 : ∀ v, OpsS (cs.set (k * 6 + 1) v) os (k + 1) H' := fun v => hS'.set (by omega)
    refine wo_loop ?_
    repeat (first | intro id | refine goq ?_)
    refine WpO.mono (Q := fun ex t' L' => ex = .exit 2 ∧ Keep [3, 4, 5, 7] t t' ∧ Am.Sub ((i4, [aint n, aint bt, .sl ic 0 os.length 6 none]) :: (ic, cs) :: (H' ++ L)) L') ?_ ?_
    · rcases hown with ⟨rfl, hq0, rfl⟩ | ⟨iq, cap, rfl, rfl⟩
      · refine wo_loop ?_
        repeat (first | intro id | refine goq ?_)
        exact ⟨rfl, by exact keepq, by exact subq⟩
      · refine WpO.weak (WpO.mono (own_l0 (L := H' ++ L) (i4 := i4) (ic := ic) (n := n) (bt := bt) hkl hc2 hqk (os.getD k default).qs.length 0 _ (os.getD k default).qs (by omega) rfl ?_ ?_ ?_) ?_) ?_
        · exact slotq
        · exact slotq
        · exact slotq
        · rintro ex t1 L' ⟨e1, e2, e3⟩
          exact ⟨e1, Keep.trans (by exact keepq) e2, e3⟩
        · exact subq
    · rintro ex t1 L' ⟨rfl, hK, hsub⟩
      have g4 := (hK.ex 4 rfl).trans h4
      have g7 := (hK.ex 7 rfl).trans h7
      have hK2 : Keep [3, 5] t t1 := hK.less rfl
      refine blkO.x (seqO.n (WpO.weak ?_ hsub))
      repeat (first | intro id | refine goq ?_)
      refine WpO.weak (WpO.mono (ih (k + 1) _ (cs.set (k * 6 + 1) (.sc (.int .i64 77))) H' (by omega) (by simp [hcl]) (hS2 _) ?_ ?_) ?_) (by exact subq)
      · exact slotq
      · exact slotq
      · rintro ex t' L' ⟨e1, e2, e3⟩
        exact ⟨e1, Keep.trans (by exact keepq) e2, e3⟩
theorem own_ok (hF : E.fns = fnsT) (hm : E.mode f_phasorlaw18_own = .open_) (hmS : E.mode f_phasorref08_Same = .iso false) (hmso : E.mode f_phasorref08_SameOp = .iso false) (hmin : E.mode f_phasorref08_ints = .iso false) (hstS : still E c_phasorref08_Same_r5 = true)
    {v w kv : AVal} {c d : CircD} {B : Hp} (hv : CircA v c) (hk : CircA kv c) (hw : CircO w d B) (hd : d.ops.length ≤ 1000000) : CallO E f_phasorlaw18_own [v, w, kv] (B ++ L) fun r L' => r = abool true ∧ L' = L := by
  refine CallO.to (callO_open hm (fns_of hF n_phasorlaw18_own) ?_)
  have hv0 := hv
  have hk0 := hk
  obtain ⟨sv, rfl, hvo⟩ := hv
  obtain ⟨sk, rfl, hko⟩ := hk
  have hsv1 : sv.one = true := by obtain ⟨_, hr, -, -⟩ := hvo; exact RowA.isOne hr
  have hsk1 : sk.one = true := by obtain ⟨_, hr, -, -⟩ := hko; exact RowA.isOne hr
  obtain ⟨s, cs, Bs, H, rfl, hb, ho, hlt, rfl⟩ := hw
  have s1 := hb.isOne
  refine bodyO_of (Nat.le_of_ble_eq_true rfl) ?_; generalize ht : argSlots _ 0 .nil = t; have h0 : t.get 0 = some _ := (by rw [← ht]; rfl); have h1 : t.get 1 = some _ := (by rw [← ht]; rfl); have h2 : t.get 2 = some _ := (by rw [← ht]; rfl); clear ht
  repeat (first | intro id | refine goq ?_)
  rename_i i3 i4
  refine WpO.mono (Q := fun ex t' L' => ex = .exit 0 ∧ t'.get 3 = some (.ptr i3 0) ∧ t'.get 5 = some (.ptr id 0) ∧ Am.Sub ((id, [aint c.qubits, aint c.bits, sk]) :: (i3, [aint c.qubits, aint c.bits, sv]) :: L) L') ?_ ?_
  · rcases bufInv hb with ⟨rfl, hcs0, hn0, rfl⟩ | ⟨ic, rfl, rfl⟩
    · refine wo_loop ?_
      repeat (first | intro id | refine goq ?_)
      exact ⟨rfl, by exact slotq, by exact slotq, by exact subq⟩
    · refine WpO.weak (WpO.mono (own_l1 (L := (id, [aint c.qubits, aint c.bits, sk]) :: (i3, [aint c.qubits, aint c.bits, sv]) :: L) (i4 := i4) (ic := ic) (n := d.qubits) (bt := d.bits) hd ho.lens d.ops.length 0 _ cs H (by omega) ho.one ho.front ?_ ?_) ?_) ?_
      · exact slotq
      · exact slotq
      · rintro ex t1 L' ⟨rfl, hK, hsub⟩
        refine ⟨rfl, (hK.ex 3 rfl).trans ?_, (hK.ex 5 rfl).trans ?_, hsub⟩
        · exact slotq
        · exact slotq
      · simp only [List.append_assoc]
        exact subq
  · rintro ex t1 L' ⟨rfl, g3, g5, hsub⟩
    refine blkO.x (seqO.n (WpO.weak ?_ hsub))
    repeat (first | intro id | refine goq ?_)
    refine gok ?_
    refine (Same8_ok hF hmS hmso hmin hstS (vs_bare hv0.bare (vs_bare hk0.bare vs_nil)) hv0 hk0).mono ?_
    rintro r L' ⟨⟨x, rfl, hx⟩, rfl⟩
    cases x with
    | false => have := hx.2 rfl; cases this
    | true =>
      repeat (first | intro id | refine goq ?_)
      ((first | apply retO_r | apply retO_n); (focus (exact resq)))
      exact ⟨L, by exact subq, rfl, rfl⟩
end Go.Proofs.YtmflheoafeenfaaGreat
namespace Go.Proofs.YtmflheoafeenfaaGreat
open Go.Am
set_option maxRecDepth 4000
set_option maxHeartbeats 16000000
variable {E : Env} {L : Hp}
theorem OrdO.shape {c : CircD} {r : AVal} {B : Hp} (h : OrdO c r B) : ∃ (q b e : Int) (s : AVal) (d : CircD), r = .tup [.agg [aint q, aint b, s], aint e] ∧ s.one = true ∧ CircO (.agg [aint q, aint b, s]) d B ∧ ((¬ CircOk c ∧ e = 80 ∧ d = ⟨0, 0, []⟩) ∨ (CircOk c ∧ e = 0 ∧ d = ⟨c.qubits, c.bits, ordL c.ops⟩)) := by
  rcases h with ⟨h, rfl, rfl⟩ | ⟨h, v, rfl, hv⟩
  · exact ⟨0, 0, 80, anil, ⟨0, 0, []⟩, rfl, rfl, ⟨anil, [], [], [], rfl, .nil, .nil, by simp, rfl⟩, .inl ⟨h, rfl, rfl⟩⟩
  · have hv0 := hv
    obtain ⟨s, cs, Bs, H, rfl, hb, -, -, -⟩ := hv
    exact ⟨c.qubits, c.bits, 0, s, _, rfl, hb.isOne, hv0, .inr ⟨h, rfl, rfl⟩⟩
theorem Reorders_ok (hF : E.fns = fnsT) (hmR : E.mode f_rewrite_Reorders = .iso false) (hmO : E.mode f_rewrite_Order = .open_) (hm : E.mode f_rewrite_Touch = .iso false) (hma : E.mode f_rewrite_asks = .iso false) (hm1 : E.mode f_rewrite_Touch_1 = .iso false) (hm2 : E.mode f_rewrite_Touch_2 = .iso false) (hmc : E.mode f_slices_Contains_int_int = .iso false) (hmi : E.mode f_slices_Index_int_int = .iso false) (hmcf : E.mode f_slices_ContainsFunc_int_int = .iso false) (hmif : E.mode f_slices_IndexFunc_int_int = .iso false) (hcm : E.mode f_rewrite_compare = .iso false) (hcst : still E c_rewrite_compare_r1 = true) (hcmo : E.mode f_cmp_Or_int = .iso false) (hcms : E.mode f_slices_Compare_int_int = .iso false) (hcmc : E.mode f_cmp_Compare_int = .iso false) (hcmn : E.mode f_cmp_isNaN_int = .iso false) (hcmc1 : E.mode f_cmp_Compare_api_OpKind = .iso false) (hcmn1 : E.mode f_cmp_isNaN_api_OpKind = .iso false) (hcmc2 : E.mode f_cmp_Compare_api_GateKind = .iso false) (hcmn2 : E.mode f_cmp_isNaN_api_GateKind = .iso false) (hst14 : still E c_rewrite_Order_r14 = true) (hst24 : still E c_rewrite_Order_r24 = true) (hst27 : still E c_rewrite_Order_r27 = true) (hst31 : still E c_rewrite_Order_r31 = true) (hcC : E.mode f_circuit_Check = .iso false) (hmm : E.mode f_circuit_may = .iso false) (hmg : E.mode f_gate_Check = .iso false) (hmA : E.mode f_gate_Arity = .iso false) (hmo : E.mode f_gate_of = .iso false) (hmt : E.mode f_gate_table = .iso false) (hmcp : E.mode f_circuit_Copy = .open_) (hmcl : E.mode f_slices_Clone_int_int = .open_)
    (hmS : E.mode f_circuit_Same = .iso false) (hmE : E.mode f_slices_EqualFunc_api_Op_api_Op_api_Op_api_Op = .iso false) (hmS1 : E.mode f_circuit_Same_1 = .iso false) (hmEi : E.mode f_slices_Equal_int_int = .iso false) (hstE : still E c_slices_Equal_int_int_r6 = true)
    {v w : AVal} {c d : CircD} (hv : CircA v c) (hw : CircA w d) (hsc : Small c) (hsd : Small d) : CallO E f_rewrite_Reorders [v, w] L fun r L' => ReoR c d r ∧ L' = L := by
  refine callO_iso0 (R := ReoR c d) hmR (fns_of hF n_rewrite_Reorders) (vs_bare hv.bare (vs_bare hw.bare vs_nil)) ?_
  have hv0 := hv
  have hw0 := hw
  obtain ⟨sv, rfl, hvo⟩ := hv
  obtain ⟨sw, rfl, hwo⟩ := hw
  have hsv1 : sv.one = true := by obtain ⟨_, hr, -, -⟩ := hvo; exact RowA.isOne hr
  have hsw1 : sw.one = true := by obtain ⟨_, hr, -, -⟩ := hwo; exact RowA.isOne hr
  refine bodyO_of (Nat.le_of_ble_eq_true rfl) ?_; generalize ht : argSlots _ 0 .nil = t; have h0 : t.get 0 = some _ := (by rw [← ht]; rfl); have h1 : t.get 1 = some _ := (by rw [← ht]; rfl); clear ht
  repeat (first | intro id | refine goq ?_)
  refine gok ?_
  refine (Order_open hF hmO hm hma hm1 hm2 hmc hmi hmcf hmif hcm hcst hcmo hcms hcmc hcmn hcmc1 hcmn1 hcmc2 hcmn2 hst14 hst24 hst27 hst31 hcC hmm hmg hmA hmo hmt hmcp hmcl hv0 hsc).mono ?_
  rintro r L' ⟨B1, hB1, rfl⟩
  obtain ⟨q1, b1, e1, s1, d1, rfl, s11, hC1, h1⟩ := hB1.shape
  repeat (first | intro id | refine goq ?_)
  rcases h1 with ⟨h1, rfl, rfl⟩ | ⟨h1, rfl, rfl⟩
  · repeat (first | intro id | refine goq ?_)
    ((first | apply retO_r | apply retO_n); (focus (exact resq)))
    exact ⟨rfl, .inl ⟨fun h => h1 h.1, rfl⟩⟩
  · repeat (first | intro id | refine goq ?_)
    refine gok ?_
    refine (Order_open hF hmO hm hma hm1 hm2 hmc hmi hmcf hmif hcm hcst hcmo hcms hcmc hcmn hcmc1 hcmn1 hcmc2 hcmn2 hst14 hst24 hst27 hst31 hcC hmm hmg hmA hmo hmt hmcp hmcl hw0 hsd).mono ?_
    rintro r L' ⟨B2, hB2, rfl⟩
    obtain ⟨q2, b2, e2, s2, d2, rfl, s21, hC2, h2⟩ := hB2.shape
    repeat (first | intro id | refine goq ?_)
    rcases h2 with ⟨h2, rfl, rfl⟩ | ⟨h2, rfl, rfl⟩
    · repeat (first | intro id | refine goq ?_)
      ((first | apply retO_r | apply retO_n); (focus (exact resq)))
      exact ⟨rfl, .inl ⟨fun h => h2 h.2, rfl⟩⟩
    · repeat (first | intro id | refine goq ?_)
      refine gok ?_
      have key : ∀ M : Hp, (∀ id c, In id c B1 → In id c M) → (∀ id c, In id c B2 → In id c M) → CallO E f_circuit_Same [.agg [aint q1, aint b1, s1], .agg [aint q2, aint b2, s2]] M fun v L' => (∃ x, v = abool x ∧ (x = true ↔ (⟨c.qubits, c.bits, ordL c.ops⟩ : CircD) = ⟨d.qubits, d.bits, ordL d.ops⟩)) ∧ L' = M := fun M hM1 hM2 => by
        obtain ⟨u1, k1, v1⟩ := hC1.views hM1
        obtain ⟨u2, k2, v2⟩ := hC2.views hM2
        exact CSame_ok hF hmS hmE hmS1 hmEi hstE (v1 _ _ (v2 _ _ vs_nil)) k1 k2
      refine (key _ ?_ ?_).mono ?_
      · intro id c hi
        first | exact .next (hi.appl) | exact .next (.next (hi.appl)) | exact .next (.app (.next (hi.appl))) | exact .next (.app (.next (.next hi.appl))) | skip
        repeat (first | exact hi.appl | exact hi | apply In.next | apply In.app)
      · intro id c hi
        first | exact .next (hi.appl) | skip
        repeat (first | exact hi.appl | exact hi | apply In.next | apply In.app)
      · rintro r L' ⟨⟨x, rfl, hx⟩, rfl⟩
        repeat (first | intro id | refine goq ?_)
        ((first | apply retO_r | apply retO_n); (focus (exact resq)))
        exact ⟨rfl, .inr ⟨h1, h2, x, rfl, hx⟩⟩
theorem ReoR.same {c d : CircD} {u w : AVal} (h : ReoR c d u) (k : ReoR c d w) : w = u ∧ ∃ x e, u = .tup [abool x, aint e] := by
  rcases h with ⟨h1, rfl⟩ | ⟨h1, h2, x, rfl, h3⟩
  · rcases k with ⟨k1, rfl⟩ | ⟨k1, k2, y, rfl, k3⟩
    · exact ⟨rfl, _, _, rfl⟩
    · exact (h1 ⟨k1, k2⟩).elim
  · rcases k with ⟨k1, rfl⟩ | ⟨k1, k2, y, rfl, k3⟩
    · exact (k1 ⟨h1, h2⟩).elim
    · have : x = y := by
        have := h3.trans k3.symm
        cases x <;> cases y <;> simp_all
      subst this
      exact ⟨rfl, _, _, rfl⟩
theorem num18_ok (hF : E.fns = fnsT) (hm : E.mode f_phasorlaw18_num = .iso false) (n : Int) : CallO E f_phasorlaw18_num [aint n] L fun v L' => v = aint n ∧ L' = L := by
  refine callO_iso0 hm (fns_of hF n_phasorlaw18_num) (vs_bare rfl vs_nil) ?_
  refine bodyO_of (Nat.le_of_ble_eq_true rfl) ?_; generalize ht : argSlots _ 0 .nil = t; have h0 : t.get 0 = some _ := (by rw [← ht]; rfl); clear ht
  repeat (first | intro id | refine goq ?_)
  ((first | apply retO_r | apply retO_n); (focus (exact resq)))
  exact ⟨rfl, rfl⟩
end Go.Proofs.YtmflheoafeenfaaGreat
namespace Go.Am
section
variable (P : Program)

def szOf (t : TypeId) : Option Nat := (P.info? t).map (·.size)
def bytesOf_ (t : TypeId) : Option Nat := (P.info? t).map (·.bytes)
def aggOf (t : TypeId) : Option Bool :=
  match P.underlying t with
  | some (.struct _) => some true
  | some (.array _ _) => some true
  | some _ => some false
  | none => none
def zeroOf (t : TypeId) : Option (List AVal) :=
  match (P.info? t).bind (·.zero) with
  | some z => scAll z.cells.toList
  | none => none

def compArg : Operand → Option Arg
  | .tmp t => some (.t t)
  | .const v => (ofConst v).map .k
  | .func f => some (.k (.fn (.func f) [] []))
  | .global _ => none
def compArgs : List Operand → Option (List Arg)
  | [] => some []
  | x :: r => match compArg x, compArgs r with
    | some a, some as => some (a :: as)
    | _, _ => none
def compOpt : Option Operand → Option (Option Arg)
  | none => some none
  | some x => (compArg x).map some
/-- Parts, by where they go. -/
def compParts (place : Nat → Option (Nat × Nat)) : List (Nat × Operand) → Option (List (Nat × Nat × Arg))
  | [] => some []
  | (i, x) :: r => match place i, compArg x, compParts place r with
    | some (o, n), some a, some as => some ((o, n, a) :: as)
    | _, _, _ => none
def fieldPlaces : List Field → Option (List (Nat × Nat))
  | [] => some []
  | f :: r => match szOf P f.type, fieldPlaces r with
    | some n, some l => some ((f.offset, n) :: l)
    | _, _ => none

def leavesFs (lv : TypeId → Option (List LK)) : List Field → Nat → Option (List LK)
  | [], _ => some []
  | f :: r, off =>
    if f.name = "_" then none
    else match lv f.type, szOf P f.type with
      | some l, some n => if f.offset = off ∧ n = l.length then match leavesFs lv r (off + l.length) with
          | some k => some (l ++ k)
          | none => none
        else none
      | _, _ => none
/-- The leaves of a type, where '==' asks them one by one. -/
def leavesOf : Nat → TypeId → Option (List LK)
  | 0, _ => none
  | d + 1, t => match P.underlying t with
    | some .bool => some [.bool]
    | some (.int _) => some [.int]
    | some .string => some [.string]
    | some (.struct fs) => if P.stoodInHeld t then none else leavesFs P (leavesOf d) fs.toList 0
    | some (.array n e) => match leavesOf d e, szOf P e, aggOf P e with
      | some r, some z, some g => if z = r.length ∧ (g = false → z = 1) then some (List.flatten (List.replicate n r)) else none
      | _, _, _ => none
    | _ => none

def compOp (o : Oper) : Option AOp :=
  match o.op with
  | .move x => (compArg x).map .mov
  | .assign x => (compArg x).map .mov
  | .pick c a b => match compArg c, compArg a, compArg b with
    | some c, some a, some b => some (.pick c a b)
    | _, _, _ => none
  | .alloc t => (zeroOf P t).map .alloc
  | .box _ x => (compArg x).map .box
  | .build t parts => match zeroOf P t, P.underlying t with
    | some z, some (.struct fs) => match fieldPlaces P fs.toList with
      | some pl => (compParts (fun i => pl[i]?) parts.toList).map (.build z)
      | none => none
    | some z, some (.array _ e) => match szOf P e with
      | some n => (compParts (fun i => some (i * n, n)) parts.toList).map (.build z)
      | none => none
    | _, _ => none
  | .buildSlice t len parts => match P.underlying t with
    | some (.slice e) => match szOf P e, zeroOf P e with
      | some n, some z => if 0 < n ∧ z.length = n ∧ len * n ≤ 16777216 then (compParts (fun i => some (i * n, n)) parts.toList).map (.buildSlice n len (List.flatten (List.replicate len z))) else none
      | _, _ => none
    | _ => none
  | .load t x => match aggOf P t, szOf P t, compArg x with
    | some a, some n, some x => some (.load a (if a then n else 1) x)
    | _, _, _ => none
  | .store t a v => match szOf P t, compArg a, compArg v with
    | some n, some a, some v => some (.store n a v)
    | _, _, _ => none
  | .nilCheck x => (compArg x).map .nilCheck
  | .binOp op t x y _ => match compArg x, compArg y with
    | some x, some y => match P.underlying t with
      | some (.int _) => some (.bin op x y)
      | some (.float _) => some (.bin op x y)
      | some (.complex _) => some (.bin op x y)
      | some .string => some (.bin op x y)
      | some .bool => match op with
        | .eql => some (.eqBool false x y)
        | .neq => some (.eqBool true x y)
        | _ => none
      | some (.pointer _) => match op with
        | .eql => some (.eqNil .ptr false x y)
        | .neq => some (.eqNil .ptr true x y)
        | _ => none
      | some (.slice _) => match op with
        | .eql => some (.eqNil .slice false x y)
        | .neq => some (.eqNil .slice true x y)
        | _ => none
      | some (.func _ _ _) => match op with
        | .eql => some (.eqNil .func false x y)
        | .neq => some (.eqNil .func true x y)
        | _ => none
      | some (.map _ _) => match op with
        | .eql => some (.eqNil .map false x y)
        | .neq => some (.eqNil .map true x y)
        | _ => none
      | some (.struct _) => if P.eqGuardType P.depth t then none else match op, leavesOf P 20 t with
        | .eql, some l => some (.eqAgg false l x y)
        | .neq, some l => some (.eqAgg true l x y)
        | _, _ => none
      | some (.array _ _) => if P.eqGuardType P.depth t then none else match op, leavesOf P 20 t with
        | .eql, some l => some (.eqAgg false l x y)
        | .neq, some l => some (.eqAgg true l x y)
        | _, _ => none
      | _ => none
    | _, _ => none
  | .unOp op _ x => (compArg x).map (.un op)
  | .convert s d x => match compArg x, P.underlying s, P.underlying d with
    | some x, some (.int _), some (.int k) => some (.conv (.int k) x)
    | some x, some .string, some .string => some (.conv .same x)
    | some x, some (.int _), some (.float k) => some (.conv (.float k) x)
    | some x, some (.float _), some (.float k) => some (.conv (.float k) x)
    | _, _, _ => none
  | .makeFunc f a b => match compArgs a.toList, compArgs b.toList with
    | some a, some b => some (.makeFunc f a b)
    | _, _ => none
  | .makeSlice t l c => match P.underlying t with
    | some (.slice e) => match szOf P e, bytesOf_ P e, zeroOf P e, compArg l, compArg c with
      | some n, some b, some z, some l, some c => if 0 < n ∧ z.length = n then some (.makeSlice n b z l c) else none
      | _, _, _, _, _ => none
    | _ => none
  | .slice t x lo hi mx => match P.underlying t, compArg x, compOpt lo, compOpt hi, compOpt mx with
    | some (.slice e), some x, some lo, some hi, some mx => match szOf P e with
      | some n => if 0 < n then (match lo, hi, mx with
        | some lo, some hi, none => some (.sliceB n x lo hi)
        | _, _, _ => some (.slice n x lo hi mx)) else none
      | none => none
    | some .string, some x, some lo, some hi, some none => some (.sliceStr x lo hi)
    | _, _, _, _, _ => none
  | .fieldAddr t x i => match P.underlying t, compArg x with
    | some (.struct fs), some x => match fs[i]? with
      | some f => match szOf P f.type with
        | some n => if 0 < n then some (.fieldAddr f.offset x) else none
        | none => none
      | none => none
    | _, _ => none
  | .field t x i => match P.underlying t, compArg x with
    | some (.struct fs), some x => match fs[i]? with
      | some f => match aggOf P f.type, szOf P f.type with
        | some a, some n => some (.field a f.offset (if a then n else 1) x)
        | _, _ => none
      | none => none
    | _, _ => none
  | .indexAddr t x i => match compArg x, compArg i with
    | some x, some i => match P.underlying t with
      | some (.array n e) => match szOf P e with
        | some z => if 0 < z then some (.indexAddr (some n) z x i) else none
        | none => none
      | some (.slice e) => match szOf P e with
        | some z => if 0 < z then some (.indexAddr none z x i) else none
        | none => none
      | _ => none
    | _, _ => none
  | .index t x i => match compArg x, compArg i with
    | some x, some i => match P.underlying t with
      | some (.array n e) => match aggOf P e, szOf P e with
        | some a, some z => if a = false → z = 1 then some (.index a n z x i) else none
        | _, _ => none
      | some .string => some (.indexStr x i)
      | _ => none
    | _, _ => none
  | .extract x i => (compArg x).map fun x => .extract x i
  | .call c => match c.callee with
    | .value f => match compArg f, compArgs c.args.toList with
      | some f, some as => some (.call f as)
      | _, _ => none
    | .invoke _ _ => none
    | .builtin b => match b, compArgs c.args.toList, c.argTypes.toList with
      | .len, some [x], [t] => match P.underlying t with
        | some .string => some (.lenStr x)
        | some (.slice _) => some (.len x)
        | some (.array n _) => some (.lenC n)
        | _ => none
      | .cap, some [x], [t] => match P.underlying t with
        | some (.slice _) => some (.cap x)
        | _ => none
      | .append, some [a, x], [t, u] => match P.underlying t, P.underlying u with
        | some (.slice e), some (.slice _) => match szOf P e, bytesOf_ P e, zeroOf P e with
          | some n, some b, some z => if 0 < n ∧ 0 < b ∧ z.length = n then some (.append n b a x) else none
          | _, _, _ => none
        | some (.slice e), some (.int _) => match szOf P e, bytesOf_ P e, zeroOf P e with
          | some n, some b, some z => if 0 < n ∧ 0 < b ∧ z.length = n then some (.appendZeros n b z a x) else none
          | _, _, _ => none
        | _, _ => none
      | .copy, some [a, x], t :: _ => match P.underlying t with
        | some (.slice e) => match szOf P e with
          | some n => if 0 < n then some (.copy n a x) else none
          | none => none
        | _ => none
      | .clear, some [x], [t] => match P.underlying t with
        | some (.slice e) => match szOf P e, zeroOf P e with
          | some n, some z => if 0 < n ∧ z.length = n then some (.clear n z x) else none
          | _, _ => none
        | _ => none
      | .real, some [x], _ => some (.real false x)
      | .imag, some [x], _ => some (.real true x)
      | .complex, some [x, y], _ => some (.cplx x y)
      | .max, some xs, _ => some (.minmax true xs)
      | .min, some xs, _ => some (.minmax false xs)
      | _, _, _ => none
  | .makeInterface _ _ => some (.lenStr (.k (.sc (.bool false))))
  | .panic _ => some (.lenStr (.k (.sc (.bool false))))
  | _ => none

def dstOk (n : Nat) : Option Nat → Bool
  | some d => decide (d < n)
  | none => true
def compAO (ntmps : Nat) (ops : Array Oper) (before : Array Nat) (i : Nat) (o : Oper) : Option AO :=
  match compOp P o with
  | none => none
  | some op =>
    if dstOk ntmps o.dst = true then
      some { dst := o.dst, op := op, guard := o.guard.map fun g => ((ops[g.1]?).bind (·.dst), g.2), after := before.getD i 0 }
    else none
def compOs (ntmps : Nat) (ops : Array Oper) (before : Array Nat) : Nat → List Oper → Option (List AO)
  | _, [] => some []
  | i, o :: r => match compAO P ntmps ops before i o, compOs ntmps ops before (i + 1) r with
    | some a, some as => some (a :: as)
    | _, _ => none

/-- Each bit of what is told to come ahead is an edge's, or comes through one. -/
def okAfter (ops : Array Oper) (bf : Array Nat) : Bool :=
  ops.toList.zipIdx.all fun x => (List.range ops.size).all fun k => !(bf.getD x.2 0).testBit k || x.1.after.any fun e => Region.binds .any e && (e.on == k || (bf.getD e.on 0).testBit k)
def okEdges (ops : Array Oper) : Bool := ops.toList.zipIdx.all fun x => x.1.after.all fun e => !Region.binds .any e || decide (e.on < x.2)

def comp (ntmps : Nat) : Code → Option AC
  | .skip => some .skip
  | .region _ ops d =>
    match d with
    | true => if okEdges ops ∧ okAfter ops (Region.before ops) then (compOs P ntmps ops (Region.before ops) 0 ops.toList).map fun l => .reg l true else none
    | false => (compOs P ntmps ops #[] 0 ops.toList).map fun l => .reg l false
  | .seq a b => match comp ntmps a, comp ntmps b with
    | some a, some b => some (.seq a b)
    | _, _ => none
  | .cond c a b => match compArg c, comp ntmps a, comp ntmps b with
    | some c, some a, some b => some (.cond c a b)
    | _, _, _ => none
  | .block id c => (comp ntmps c).map (.blk id)
  | .loop c => (comp ntmps c).map .loop
  | .exit id => some (.exit id)
  | .scope c => (comp ntmps c).map .scope
  | .label _ => some .skip
  | .ret => some .ret
  | _ => none

def compRes : List ResultVar → Option (List AR)
  | [] => some []
  | .tmp t :: r => (compRes r).map (.tmp t :: ·)
  | .cell a t :: r => match aggOf P t, szOf P t, compRes r with
    | some g, some n, some l => some (.cell g (if g then n else 1) a :: l)
    | _, _, _ => none

def compFn (f : Func) : Option AFn :=
  match f.body with
  | none => none
  | some c => match comp P f.ntmps c, compRes P f.results.toList with
    | some c, some r => some { code := c, ntmps := f.ntmps, results := r }
    | _, _ => none
end
end Go.Am
