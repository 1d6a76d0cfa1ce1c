/- Parts of the proof, joined by program: RwR3, RwP1, RwP2, RwO2, RwO3, CiCG, CiCH. -/
import Derived.Test.YtmflheoafeenfaaGreatPa9
set_option linter.unusedSimpArgs false
set_option linter.unusedVariables false
namespace Go.Proofs.YtmflheoafeenfaaGreat
open Go.Am
set_option maxRecDepth 4000
set_option maxHeartbeats 8000000
variable {E : Env} {L : Hp}
def partTo (l : List OpD) (o : OpD) : Nat → Int
  | 0 => -1
  | k + 1 => if touchB (l.getD k default) o = true then (k : Int) else partTo l o k
def partI (l : List OpD) (j : Nat) : Int := partTo l (l.getD j default) j
theorem partTo_lt {l : List OpD} {o : OpD} : ∀ {k : Nat}, partTo l o k < k ∧ -1 ≤ partTo l o k
  | 0 => by simp [partTo]
  | k + 1 => by
    unfold partTo
    have := partTo_lt (l := l) (o := o) (k := k)
    split <;> omega
theorem rpartner_l0 (hF : E.fns = fnsT) (hmT : E.mode f_phasorref18_Touch = .iso false) (hmt : E.mode f_phasorref18_takes = .iso false) (hms : E.mode f_phasorref18_sets = .iso false) (hst : still E c_phasorref18_partner_r3 = true)
    {v : AVal} {cs : List AVal} {l : List OpD} {j : Nat} (hv : RowA v cs l.length) (hcs : OpsC cs l) (hj : j < l.length) (hlt : l.length < 2 ^ 62) :
    ∀ (k : Nat) (t : Tr AVal), k ≤ j → t.get 0 = some v → t.get 1 = some (aint j) → t.get 5 = some (aint ((k : Int) - 1)) → partI l j = partTo l (l.getD j default) k →
    WpO E (.loop c_phasorref18_partner_l0) t L (fun ex t' L' => ((ex = .exit 0 ∧ partI l j = -1) ∨ (ex = .ret ∧ t'.get 4 = some (aint (partI l j)))) ∧ L' = L) := by
  have hv1 := RowA.isOne hv
  intro k
  induction k with
  | zero =>
    intro t hk h0 h1 h5 hp
    refine wo_loop ?_
    repeat (first | intro id | refine goq ?_)
    exact ⟨.inl ⟨rfl, hp⟩, rfl⟩
  | succ k ih =>
    intro t hk h0 h1 h5 hp
    have e : (((k + 1 : Nat) : Int) - 1) = (k : Int) := by omega
    rw [e] at h5
    obtain ⟨q, hq, hqb, hlt6, hseg⟩ := hcs.getE (show k < l.length by omega)
    obtain ⟨p, hp', hpb, plt6, pseg⟩ := hcs.getE hj
    have hq1 := RowA.isOne hq
    have hp1 := RowA.isOne hp'
    have tt := rTouch_ok (L := L) hF hmT hmt hms hq hp' hqb hpb (vs_bare (bare_opV hq) (vs_bare (bare_opV hp') vs_nil))
    unfold opV opCells at tt
    unfold opCells at hseg pseg
    unfold partTo at hp
    refine wo_loop ?_
    repeat (first | intro id | refine goq ?_)
    refine gok ?_
    refine tt.mono ?_
    rintro r L' ⟨rfl, rfl⟩
    cases ht : touchB (l.getD k default) (l.getD j default) with
    | true =>
      rw [if_pos ht] at hp
      repeat (first | intro id | refine goq ?_)
      exact ⟨.inr ⟨rfl, by rw [hp]; exact slotq⟩, rfl⟩
    | false =>
      rw [if_neg (by rw [ht]; simp)] at hp
      repeat (first | intro id | refine goq ?_)
      refine ih _ (by omega) ?_ ?_ ?_ hp
      · exact slotq
      · exact slotq
      · exact slotq
theorem rpartner_ok (hF : E.fns = fnsT) (hm : E.mode f_phasorref18_partner = .iso false) (hmT : E.mode f_phasorref18_Touch = .iso false) (hmt : E.mode f_phasorref18_takes = .iso false) (hms : E.mode f_phasorref18_sets = .iso false) (hst : still E c_phasorref18_partner_r3 = true)
    {s v : AVal} {l : List OpD} {j : Nat} (hw : ViewsO L [s, aint j] [v, aint j]) (hv : OpsA v l) (hj : j < l.length) :
    CallO E f_phasorref18_partner [s, aint j] L fun r L' => r = aint (partI l j) ∧ L' = L := by
  refine ai_ex (callO_iso0 (R := fun r => ∃ x, r = aint x ∧ x = partI l j) hm (fns_of hF n_phasorref18_partner) hw ?_)
  obtain ⟨cs, hr, hcs, hlt⟩ := hv
  have hv1 := RowA.isOne hr
  refine bodyO_of (Nat.le_of_ble_eq_true rfl) ?_; generalize ht : argSlots _ 0 .nil = t; have h0 : t.get 0 = some _ := (by rw [← ht]; rfl); have h1 : t.get 1 = some _ := (by rw [← ht]; rfl); clear ht
  repeat (first | intro id | refine goq ?_)
  refine WpO.mono (rpartner_l0 hF hmT hmt hms hst hr hcs hj hlt j _ (Nat.le_refl _) ?_ ?_ ?_ rfl) ?_
  · exact slotq
  · exact slotq
  · exact slotq
  rintro ex t1 L' ⟨⟨rfl, hp⟩ | ⟨rfl, h4⟩, rfl⟩
  · repeat (first | intro id | refine goq ?_)
    ((first | apply retO_r | apply retO_n); (focus (exact resq)))
    exact ⟨rfl, _, rfl, hp.symm⟩
  · repeat (first | intro id | refine goq ?_)
    ((first | apply retO_r | apply retO_n); (focus (exact resq)))
    exact ⟨rfl, _, rfl, rfl⟩
end Go.Proofs.YtmflheoafeenfaaGreat
namespace Go.Proofs.YtmflheoafeenfaaGreat
open Go.Am
set_option maxRecDepth 4000
set_option maxHeartbeats 8000000
variable {E : Env} {L : Hp}
theorem Touch1_ok (hF : E.fns = fnsT) (hm : E.mode f_rewrite_Touch_1 = .iso false) (hmc : E.mode f_slices_Contains_int_int = .iso false) (hmi : E.mode f_slices_Index_int_int = .iso false) {p : AVal} {b : OpD} {x : Int} (hp : SlI p b.qs) (hpl : b.qs.length < 2 ^ 62) :
    CallO E f_rewrite_Touch_1 ([aint x] ++ [.ro (opCells p b)]) L fun r L' => r = abool (b.qs.contains x) ∧ L' = L := by
  have hp1 := RowA.isOne hp
  refine callO_iso0 (R := fun r => r = abool (b.qs.contains x)) hm (fns_of hF n_rewrite_Touch_1) (vs_bare rfl (vs_bare (by simp [opCells, AVal.bare, bareAll, aint, bare_SlI hp]) vs_nil)) ?_
  unfold opCells
  refine bodyO_of (Nat.le_of_ble_eq_true rfl) ?_; generalize ht : argSlots _ 0 .nil = t; have h0 : t.get 0 = some _ := (by rw [← ht]; rfl); have h1 : t.get 1 = some _ := (by rw [← ht]; rfl); clear ht
  repeat (first | intro id | refine goq ?_)
  refine gok ?_
  refine (contains_ok hF hmc hmi (vs_bare (bare_SlI hp) (vs_bare rfl vs_nil)) hp hpl).mono ?_
  rintro r L' ⟨rfl, rfl⟩
  repeat (first | intro id | refine goq ?_)
  ((first | apply retO_r | apply retO_n); (focus (exact resq)))
  refine ⟨rfl, ?_⟩
  have : decide (x ∈ b.qs) = b.qs.contains x := by rw [Bool.eq_iff_iff]; simp
  rw [← this]
  rfl
theorem Touch_ok (hF : E.fns = fnsT) (hm : E.mode f_rewrite_Touch = .iso false) (hma : E.mode f_rewrite_asks = .iso false) (hm1 : E.mode f_rewrite_Touch_1 = .iso false) (hm2 : E.mode f_rewrite_Touch_2 = .iso false) (hmc : E.mode f_slices_Contains_int_int = .iso false) (hmi : E.mode f_slices_Index_int_int = .iso false) (hmcf : E.mode f_slices_ContainsFunc_int_int = .iso false) (hmif : E.mode f_slices_IndexFunc_int_int = .iso false)
    {q p : AVal} {a b : OpD} {args : List AVal} (hq : SlI q a.qs) (hp : SlI p b.qs) (hql : a.qs.length < 2 ^ 62) (hpl : b.qs.length < 2 ^ 62) (hv : ViewsO L args [opV q a, opV p b]) :
    CallO E f_rewrite_Touch args L fun r L' => r = abool (touchB a b) ∧ L' = L := by
  refine ab_ex (callO_iso0 (R := fun r => ∃ x, r = abool x ∧ x = touchB a b) hm (fns_of hF n_rewrite_Touch) hv ?_)
  have hq1 := RowA.isOne hq
  have hp1 := RowA.isOne hp
  have vab : ∀ M, ViewsO M [opV q a, opV p b] [opV q a, opV p b] := fun M => vs_bare (bare_opV hq) (vs_bare (bare_opV hp) vs_nil)
  have vba : ∀ M, ViewsO M [opV p b, opV q a] [opV p b, opV q a] := fun M => vs_bare (bare_opV hp) (vs_bare (bare_opV hq) vs_nil)
  have ta := fun M => asks_ok (L := M) hF hma hq (vs_bare (bare_opV hq) vs_nil)
  have tb := fun M => asks_ok (L := M) hF hma hp (vs_bare (bare_opV hp) vs_nil)
  have sab := fun M => sets2_ok (L := M) hF hm2 hq hp (vab M)
  have sba := fun M => sets2_ok (L := M) hF hm2 hp hq (vba M)
  have cf : ∀ (M : Hp) (i : Nat), In i (opCells p b) M → CallO E f_slices_ContainsFunc_int_int [q, .fn (.func f_rewrite_Touch_1) [] [.ptr i 0]] M fun r L' => r = abool (meetB a b) ∧ L' = M := fun M i hi =>
    containsP_ok (p := fun x => b.qs.contains x) hF hmcf hmif (vs_bare (bare_SlI hq) (vs_view rfl (vo_fn vl_nil (vl_cons (vo_ptr hi (by simp) (vl_cons vo_sc (vl_cons vo_sc (vl_cons (vo_bareI hp) (vl_cons vo_sc (vl_cons vo_sc (vl_cons vo_sc vl_nil))))))) vl_nil)) vs_nil)) (by simp [opCells, AVal.bare, bareAll, aint, bare_SlI hp]) hq hql (fun j hj => Touch1_ok hF hm1 hmc hmi hp hpl)
  unfold opV at ta tb sab sba ⊢
  unfold opCells at ta tb sab sba cf ⊢
  refine bodyO_of (Nat.le_of_ble_eq_true rfl) ?_; generalize ht : argSlots _ 0 .nil = t; have h0 : t.get 0 = some _ := (by rw [← ht]; rfl); have h1 : t.get 1 = some _ := (by rw [← ht]; rfl); clear ht
  repeat (first | intro id | refine goq ?_)
  refine gok ?_
  refine (ta _).mono ?_
  rintro v L' ⟨rfl, rfl⟩
  cases e1 : takesB a with
  | false =>
    have e2 : True := trivial
    repeat (first | intro id | refine goq ?_)
    refine gok ?_
    refine (cf _ _ (by exact inq)).mono ?_
    rintro v L' ⟨rfl, rfl⟩
    cases e3 : meetB a b with
    | true =>
      repeat (first | intro id | refine goq ?_)
      ((first | apply retO_r | apply retO_n); (focus (exact resq)))
      exact ⟨rfl, true, rfl, by simp [touchB, e3]⟩
    | false =>
      repeat (first | intro id | refine goq ?_)
      refine gok ?_
      refine (sab _).mono ?_
      rintro v L' ⟨rfl, rfl⟩
      cases e4 : setsB a b with
      | true =>
        repeat (first | intro id | refine goq ?_)
        ((first | apply retO_r | apply retO_n); (focus (exact resq)))
        exact ⟨rfl, true, rfl, by simp [touchB, e4]⟩
      | false =>
        repeat (first | intro id | refine goq ?_)
        refine gok ?_
        refine (sba _).mono ?_
        rintro v L' ⟨rfl, rfl⟩
        repeat (first | intro id | refine goq ?_)
        ((first | apply retO_r | apply retO_n); (focus (exact resq)))
        exact ⟨rfl, _, rfl, by simp [touchB, e1, e2, e3, e4]⟩
  | true =>
    repeat (first | intro id | refine goq ?_)
    refine gok ?_
    refine (tb _).mono ?_
    rintro v L' ⟨rfl, rfl⟩
    cases e2 : takesB b with
    | true =>
      repeat (first | intro id | refine goq ?_)
      ((first | apply retO_r | apply retO_n); (focus (exact resq)))
      exact ⟨rfl, true, rfl, by simp [touchB, e1, e2]⟩
    | false =>
      repeat (first | intro id | refine goq ?_)
      refine gok ?_
      refine (cf _ _ (by exact inq)).mono ?_
      rintro v L' ⟨rfl, rfl⟩
      cases e3 : meetB a b with
      | true =>
        repeat (first | intro id | refine goq ?_)
        ((first | apply retO_r | apply retO_n); (focus (exact resq)))
        exact ⟨rfl, true, rfl, by simp [touchB, e3]⟩
      | false =>
        repeat (first | intro id | refine goq ?_)
        refine gok ?_
        refine (sab _).mono ?_
        rintro v L' ⟨rfl, rfl⟩
        cases e4 : setsB a b with
        | true =>
          repeat (first | intro id | refine goq ?_)
          ((first | apply retO_r | apply retO_n); (focus (exact resq)))
          exact ⟨rfl, true, rfl, by simp [touchB, e4]⟩
        | false =>
          repeat (first | intro id | refine goq ?_)
          refine gok ?_
          refine (sba _).mono ?_
          rintro v L' ⟨rfl, rfl⟩
          repeat (first | intro id | refine goq ?_)
          ((first | apply retO_r | apply retO_n); (focus (exact resq)))
          exact ⟨rfl, _, rfl, by simp [touchB, e1, e2, e3, e4]⟩
end Go.Proofs.YtmflheoafeenfaaGreat
namespace Go.Proofs.YtmflheoafeenfaaGreat
open Go.Am
set_option maxRecDepth 4000
set_option maxHeartbeats 8000000
variable {E : Env} {L : Hp}
end Go.Proofs.YtmflheoafeenfaaGreat
namespace Go.Proofs.YtmflheoafeenfaaGreat
open Go.Am
set_option maxRecDepth 4000
def sgm (i j : Nat) : Nat := if j = i then i + 1 else if j = i + 1 then i else j
structure Swp (l l' : List OpD) (i : Nat) : Prop where
  len : l'.length = l.length
  lt : i + 1 < l.length
  h1 : ∀ j, j ≠ i → j ≠ i + 1 → l'.getD j default = l.getD j default
  h2 : l'.getD i default = l.getD (i + 1) default
  h3 : l'.getD (i + 1) default = l.getD i default
  ht : touchB (l.getD i default) (l.getD (i + 1) default) = false
theorem Swp.get {l l' : List OpD} {i : Nat} (h : Swp l l' i) (j : Nat) : l'.getD (sgm i j) default = l.getD j default := by
  unfold sgm
  split
  · rename_i e; subst e; exact h.h3
  · split
    · rename_i e; subst e; exact h.h2
    · exact h.h1 j (by assumption) (by assumption)
theorem Swp.free {l l' : List OpD} {i : Nat} (h : Swp l l' i) {j : Nat} (hj : j < l.length) : freeB l' (sgm i j) = true ↔ freeB l j = true := by
  have hlt := h.lt
  have hsj : sgm i j < l'.length := by rw [h.len]; unfold sgm; split; omega; split <;> omega
  rw [freeB_iff hsj, freeB_iff hj, h.get j]
  constructor
  · intro k m hm
    by_cases hx : j = i + 1 ∧ m = i
    · obtain ⟨rfl, rfl⟩ := hx
      exact h.ht
    · have := k (sgm i m) (by unfold sgm; (repeat' split) <;> omega)
      rw [h.get m] at this
      exact this
  · intro k m hm
    by_cases hx : j = i ∧ m = i
    · obtain ⟨rfl, rfl⟩ := hx
      rw [h.h2, touchB_comm]
      exact h.ht
    · have e : m = sgm i (sgm i m) := by unfold sgm; (repeat' split) <;> omega
      rw [e, h.get]
      refine k _ ?_
      unfold sgm at hm ⊢
      (repeat' (split at hm)) <;> (repeat' split) <;> omega
end Go.Proofs.YtmflheoafeenfaaGreat
namespace Go.Proofs.YtmflheoafeenfaaGreat
open Go.Am
set_option maxRecDepth 4000
def gO (l : List OpD) (j : Nat) : OpD := l.getD j default
def aliveL (n : Nat) (τ : List Nat) : List Nat := (List.range n).filter fun j => !τ.contains j
theorem mem_alive {n j : Nat} {τ : List Nat} : j ∈ aliveL n τ ↔ j < n ∧ j ∉ τ := by simp [aliveL]
def cntW (l : List OpD) (τ : List Nat) (j k : Nat) : Nat := ((aliveL k τ).filter fun i => touchB (gO l i) (gO l j)).length
/-- Of each operation: how many that touch it, ahead of it, are still there; -1: it is gone. -/
def W (l : List OpD) (τ : List Nat) (j : Nat) : Int := if τ.contains j then -1 else (cntW l τ j j : Int)
theorem cntW_zero {l : List OpD} {τ : List Nat} {j k : Nat} : cntW l τ j k = 0 ↔ ∀ i, i < k → i ∉ τ → touchB (gO l i) (gO l j) = false := by
  unfold cntW
  rw [List.length_eq_zero_iff, List.filter_eq_nil_iff]
  constructor
  · intro h i h1 h2
    simpa using h i (mem_alive.2 ⟨h1, h2⟩)
  · intro h i hi
    have := h i (mem_alive.1 hi).1 (mem_alive.1 hi).2
    simp [this]
theorem W_zero {l : List OpD} {τ : List Nat} {j : Nat} : W l τ j = 0 ↔ j ∉ τ ∧ ∀ i, i < j → i ∉ τ → touchB (gO l i) (gO l j) = false := by
  unfold W
  by_cases h : j ∈ τ
  · rw [if_pos (by simpa using h)]
    simp [h]
  · rw [if_neg (by simpa using h), ← cntW_zero]
    simp only [h, not_false_eq_true, true_and]
    omega
/-- What is gone was free when it went. -/
def Gone (l : List OpD) (τ : List Nat) : Prop := ∀ j, j ∈ τ → ∀ i, i < j → i ∉ τ → touchB (gO l i) (gO l j) = false
theorem Gone.cons {l : List OpD} {τ : List Nat} {b : Nat} (h : Gone l τ) (hb : W l τ b = 0) : Gone l (b :: τ) := by
  intro j hj i hi hn
  simp only [List.mem_cons, not_or] at hj hn
  rcases hj with rfl | hj
  · exact (W_zero.1 hb).2 i hi hn.2
  · exact h j hj i hi hn.2
theorem eraseIdx_map' {α β : Type} (f : α → β) : ∀ (l : List α) (k : Nat), (l.map f).eraseIdx k = (l.eraseIdx k).map f
  | [], k => by simp
  | x :: l, 0 => by simp
  | x :: l, k + 1 => by simp [eraseIdx_map' f l k]
end Go.Proofs.YtmflheoafeenfaaGreat
namespace Go.Proofs.YtmflheoafeenfaaGreat
open Go.Am
set_option maxRecDepth 4000
set_option maxHeartbeats 4000000
variable {E : Env} {L : Hp}
/-- The table of kinds. -/
def tableC : List AVal := match body { fns := fun _ => none, mode := fun _ => .open_, known := fun _ _ _ => none } 100 c_gate_table [] ⟨.nil, 0, 0⟩ with
  | some (.agg cs, _) => cs
  | _ => []
def tableM : Mem := match body { fns := fun _ => none, mode := fun _ => .open_, known := fun _ _ _ => none } 100 c_gate_table [] ⟨.nil, 0, 0⟩ with
  | some (_, m) => m
  | _ => ⟨.nil, 0, 0⟩
theorem table_run (E : Env) : ∃ m, body E 100 c_gate_table [] ⟨.nil, 0, 0⟩ = some (.agg tableC, m) := ⟨tableM, by kernel_rfl⟩
theorem tableC_len : tableC.length = 84 := by kernel_rfl
theorem tableC_flat : (AVal.agg tableC).flat = true := by kernel_rfl
theorem table_ok (hF : E.fns = fnsT) (hm : E.mode f_gate_table = .iso false) : CallO E f_gate_table [] L fun v L' => v = .agg tableC ∧ L' = L := by
  obtain ⟨m', h⟩ := table_run E
  refine ⟨fun m ho => (call_iso0 (R := fun v => v = .agg tableC) (vs := []) hm (fns_of hF n_gate_table) rfl ⟨100, _, m', h, tableC_flat, rfl⟩).mono ?_⟩
  rintro v m1 ⟨h1, rfl⟩
  exact ⟨L, ho, h1, rfl⟩
def isInt : Option AVal → Int → Bool
  | some (.sc (.int .i64 a)), n => a == n
  | _, _ => false
theorem isInt_eq {v : Option AVal} {n : Int} (h : isInt v n = true) : v = some (aint n) := by
  unfold isInt at h
  split at h
  · rename_i a
    have : a = n := by simpa using h
    rw [← this]; rfl
  · cases h
def rowC (k : Nat) : List AVal := if k < 1 ∨ 20 < k then [.sc (.string ⟨#[]⟩), aint 0, aint 0, aint 0] else (tableC.drop (k * 4)).take 4
def inverse (k : Int) : Int := if k < 1 ∨ 20 < k then 0 else if k = 5 ∨ k = 7 ∨ k = 9 ∨ k = 15 then k + 1 else if k = 6 ∨ k = 8 ∨ k = 10 ∨ k = 16 then k - 1 else k
theorem table_all : (List.range 21).all (fun k => k == 0 || (isInt ((rowC k)[1]?) (arity k) && isInt ((rowC k)[3]?) (inverse k))) = true := by kernel_rfl
/-- A kind's row, or none. -/
def RowK (k : Int) (r : List AVal) : Prop := r.length = 4 ∧ r[1]? = some (aint (arity k)) ∧ r[3]? = some (aint (inverse k))
theorem of_ok (hF : E.fns = fnsT) (hm : E.mode f_gate_of = .iso false) (hmt : E.mode f_gate_table = .iso false) {k : Int} : CallO E f_gate_of [aint k] L fun v L' => (∃ r, v = .agg r ∧ RowK k r) ∧ L' = L := by
  refine callO_iso0 (R := fun v => ∃ r, v = .agg r ∧ RowK k r) hm (fns_of hF n_gate_of) (vs_bare rfl vs_nil) ?_
  by_cases h1 : k < 1
  · refine bodyO_of (Nat.le_of_ble_eq_true rfl) ?_; generalize ht : argSlots _ 0 .nil = t; have h0 : t.get 0 = some _ := (by rw [← ht]; rfl); clear ht
    repeat (first | intro id | refine goq ?_)
    ((first | apply retO_r | apply retO_n); (focus (exact resq)))
    exact ⟨rfl, _, rfl, rfl, by simp [arity, h1, aint], by simp [inverse, h1, aint]⟩
  by_cases h2 : 20 < k
  · refine bodyO_of (Nat.le_of_ble_eq_true rfl) ?_; generalize ht : argSlots _ 0 .nil = t; have h0 : t.get 0 = some _ := (by rw [← ht]; rfl); clear ht
    repeat (first | intro id | refine goq ?_)
    ((first | apply retO_r | apply retO_n); (focus (exact resq)))
    exact ⟨rfl, _, rfl, rfl, by simp [arity, h2, aint], by simp [inverse, h2, aint]⟩
  obtain ⟨j, rfl⟩ : ∃ j : Nat, k = j := ⟨k.toNat, by omega⟩
  have hj := List.all_eq_true.1 table_all j (List.mem_range.2 (by omega))
  have h0 : (j == 0) = false := by simp; omega
  rw [h0, Bool.false_or, Bool.and_eq_true] at hj
  have e1 := isInt_eq hj.1
  have e2 := isInt_eq hj.2
  have hs : seg tableC (j * 4) 4 = some (rowC j) := by
    rw [seg, if_pos (by rw [tableC_len]; omega), rowC, if_neg (by omega)]
  have hl : (rowC j).length = 4 := by rw [rowC, if_neg (by omega)]; simp [tableC_len]; omega
  obtain ⟨a, b, c, d, hr⟩ : ∃ a b c d, rowC j = [a, b, c, d] := by
    match hq : rowC j, hl with
    | [a, b, c, d], _ => exact ⟨a, b, c, d, rfl⟩
  have hone : ∀ (i : Nat) (x : AVal), (rowC j)[i]? = some x → x.one = true := by
    intro i x hx
    have hm := List.mem_of_getElem? hx
    rw [rowC, if_neg (by omega)] at hm
    have hm2 := List.mem_of_mem_drop (List.mem_of_mem_take hm)
    have : tableC.all AVal.one = true := by kernel_rfl
    exact List.all_eq_true.1 this x hm2
  have hflat : (AVal.agg (rowC j)).flat = true := by
    have : tableC.all AVal.flat = true := by kernel_rfl
    have h4 : ∀ x ∈ rowC j, x.flat = true := by
      intro x hm
      rw [rowC, if_neg (by omega)] at hm
      exact List.all_eq_true.1 this x (List.mem_of_mem_drop (List.mem_of_mem_take hm))
    rw [hr] at h4 ⊢
    simp [AVal.flat, flatAll, h4]
  rw [hr] at hs e1 e2 hflat hone
  have o1 : a.one = true := hone 0 a rfl
  have o2 : b.one = true := hone 1 b rfl
  have o3 : c.one = true := hone 2 c rfl
  have o4 : d.one = true := hone 3 d rfl
  refine bodyO_of (Nat.le_of_ble_eq_true rfl) ?_; generalize ht : argSlots _ 0 .nil = t; have h0 : t.get 0 = some _ := (by rw [← ht]; rfl); clear ht
  repeat (first | intro id | refine goq ?_)
  refine gok ?_
  refine (table_ok hF hmt).mono ?_
  rintro v L' ⟨rfl, rfl⟩
  repeat (first | intro id | refine goq ?_)
  ((first | apply retO_r | apply retO_n); (focus (exact resq)))
  exact ⟨hflat, _, rfl, rfl, e1, e2⟩
theorem Arity_ok (hF : E.fns = fnsT) (hm : E.mode f_gate_Arity = .iso false) (hmo : E.mode f_gate_of = .iso false) (hmt : E.mode f_gate_table = .iso false) {k : Int} : CallO E f_gate_Arity [aint k] L fun v L' => v = aint (arity k) ∧ L' = L := by
  refine callO_iso0 hm (fns_of hF n_gate_Arity) (vs_bare rfl vs_nil) ?_
  refine bodyO_of (Nat.le_of_ble_eq_true rfl) ?_; generalize ht : argSlots _ 0 .nil = t; have h0 : t.get 0 = some _ := (by rw [← ht]; rfl); clear ht
  repeat (first | intro id | refine goq ?_)
  refine gok ?_
  refine (of_ok hF hmo hmt).mono ?_
  rintro v L' ⟨⟨r, rfl, -, hr, -⟩, rfl⟩
  repeat (first | intro id | refine goq ?_)
  ((first | apply retO_r | apply retO_n); (focus (exact resq)))
  exact ⟨rfl, rfl⟩
theorem Is_ok (hF : E.fns = fnsT) (hm : E.mode f_phasorref06_Is = .iso false) {k : Int} : CallO E f_phasorref06_Is [aint k] L fun v L' => v = abool (decide (arity k ≠ 0)) ∧ L' = L := by
  refine callO_iso0 hm (fns_of hF n_phasorref06_Is) (vs_bare rfl vs_nil) ?_
  refine bodyO_of (Nat.le_of_ble_eq_true rfl) ?_; generalize ht : argSlots _ 0 .nil = t; have h0 : t.get 0 = some _ := (by rw [← ht]; rfl); clear ht
  unfold arity
  repeat' (first | intro id | refine goq ?_ | (refine oo_guard (by exact slotq) (fun hc => ?_) (fun hc => ?_) <;> (fail_if_success (exact absurd hc (by decide))) <;> rw [hc] <;> (try simp only [decide_eq_true_eq, decide_eq_false_iff_not, ne_eq, Decidable.not_not] at hc)) | (refine wo_cond_if (by exact slotq) (fun hc => ?_) (fun hc => ?_) <;> (try simp only [decide_eq_true_eq, decide_eq_false_iff_not, ne_eq, Decidable.not_not] at hc)) | ((first | apply retO_r | apply retO_n); (focus (exact resq))))
  all_goals (refine ⟨rfl, ?_⟩; simp only [resultV, abool]; congr; simp; omega)
theorem refArity_ok (hF : E.fns = fnsT) (hm : E.mode f_phasorref06_Arity = .iso false) (hmi : E.mode f_phasorref06_Is = .iso false) {k : Int} : CallO E f_phasorref06_Arity [aint k] L fun v L' => v = aint (arity k) ∧ L' = L := by
  refine callO_iso0 hm (fns_of hF n_phasorref06_Arity) (vs_bare rfl vs_nil) ?_
  refine bodyO_of (Nat.le_of_ble_eq_true rfl) ?_; generalize ht : argSlots _ 0 .nil = t; have h0 : t.get 0 = some _ := (by rw [← ht]; rfl); clear ht
  repeat (first | intro id | refine goq ?_)
  refine gok ?_
  refine (Is_ok hF hmi).mono ?_
  rintro v L' ⟨rfl, rfl⟩
  have : arity k = if k < 1 ∨ 20 < k then 0 else if k ≤ 10 then 1 else if k ≤ 17 then 2 else 3 := rfl
  by_cases h : arity k = 0
  · rw [decide_eq_false (by simpa using h)]
    repeat (first | intro id | refine goq ?_)
    ((first | apply retO_r | apply retO_n); (focus (exact resq)))
    exact ⟨rfl, by rw [h]; rfl⟩
  · rw [decide_eq_true h]
    repeat' (first | intro id | refine goq ?_ | (refine oo_guard (by exact slotq) (fun hc => ?_) (fun hc => ?_) <;> (fail_if_success (exact absurd hc (by decide))) <;> rw [hc] <;> (try simp only [decide_eq_true_eq, decide_eq_false_iff_not, ne_eq, Decidable.not_not] at hc)) | (refine wo_cond_if (by exact slotq) (fun hc => ?_) (fun hc => ?_) <;> (try simp only [decide_eq_true_eq, decide_eq_false_iff_not, ne_eq, Decidable.not_not] at hc)) | ((first | apply retO_r | apply retO_n); (focus (exact resq))))
    all_goals (refine ⟨rfl, ?_⟩; simp only [resultV]; congr; split at this <;> omega)
end Go.Proofs.YtmflheoafeenfaaGreat
namespace Go.Proofs.YtmflheoafeenfaaGreat
open Go.Am
set_option maxRecDepth 4000
set_option maxHeartbeats 4000000
variable {E : Env} {L : Hp}
theorem Qs_snoc {n : Int} {l : List Int} {k : Nat} (h : ∀ i, i < k → okAt n l i) (hk : okAt n l k) : ∀ i, i < k + 1 → okAt n l i := by
  intro i hi
  by_cases e : i = k
  · subst e; exact hk
  · exact h i (by omega)
theorem gcheck_loop (hF : E.fns = fnsT) (hmc : E.mode f_slices_Contains_int_int = .iso false) (hmi : E.mode f_slices_Index_int_int = .iso false) {v : AVal} {qs : List Int} {n : Int} (hq : SlI v qs) (hlt : qs.length < 2 ^ 62) :
    ∀ (d k : Nat) (t : Tr AVal), d + k = qs.length → t.get 1 = some v → t.get 2 = some (aint n) → t.get 17 = some v → t.get 18 = some (aint qs.length) → t.get 19 = some (aint k) → (∀ i, i < k → okAt n qs i) →
    WpO E (.loop c_gate_Check_l0) t L (fun ex t' L' => (ex = .exit 0 ∧ Qs n qs) ∨ (ex = .ret ∧ t'.get 6 = some (aint 61) ∧ ¬ Qs n qs)) := by
  intro d
  induction d with
  | zero =>
    intro k t hk h1 h2 h17 h18 h19 hok
    obtain rfl : k = qs.length := by omega
    refine wo_loop ?_
    repeat (first | intro id | refine goq ?_)
    exact .inl ⟨rfl, hok⟩
  | succ d ih =>
    intro k t hk h1 h2 h17 h18 h19 hok
    have hkl : k < qs.length := by omega
    have hat := okAt_iff (n := n) hkl
    have hbad : ¬ okAt n qs k → ¬ Qs n qs := fun h hh => h (hh k hkl)
    refine wo_loop ?_
    by_cases c1 : qs.getD k 0 < 0
    · repeat (first | intro id | refine goq ?_)
      exact .inr ⟨rfl, by exact slotq, hbad fun h => by have := hat.1 h; omega⟩
    by_cases c2 : n ≤ qs.getD k 0
    · repeat (first | intro id | refine goq ?_)
      exact .inr ⟨rfl, by exact slotq, hbad fun h => by have := hat.1 h; omega⟩
    repeat (first | intro id | refine goq ?_)
    refine gok ?_
    have hh := hiI_is hq (Nat.le_of_lt hkl)
    refine (contains_ok hF hmc hmi (vs_bare (bare_SlI hh) (vs_bare rfl vs_nil)) hh (by rw [List.length_take]; omega)).mono ?_
    rintro r L' ⟨rfl, rfl⟩
    by_cases c3 : qs.getD k 0 ∈ qs.take k
    · rw [decide_eq_true c3]
      repeat (first | intro id | refine goq ?_)
      exact .inr ⟨rfl, by exact slotq, hbad fun h => (hat.1 h).2.2 c3⟩
    · rw [decide_eq_false c3]
      repeat (first | intro id | refine goq ?_)
      exact ih (k + 1) _ (by omega) (by exact slotq) (by exact slotq) (by exact slotq) (by exact slotq) (by exact slotq) (Qs_snoc hok (hat.2 ⟨by omega, by omega, c3⟩))
theorem gCheck_ok (hF : E.fns = fnsT) (hm : E.mode f_gate_Check = .iso false) (hma : E.mode f_gate_Arity = .iso false) (hmo : E.mode f_gate_of = .iso false) (hmt : E.mode f_gate_table = .iso false) (hmc : E.mode f_slices_Contains_int_int = .iso false) (hmi : E.mode f_slices_Index_int_int = .iso false)
    {k n : Int} {v : AVal} {qs : List Int} (hq : SlI v qs) (hlt : qs.length < 2 ^ 62) : CallO E f_gate_Check [aint k, v, aint n] L fun r L' => (∃ e, r = aint e ∧ gateE k qs n e) ∧ L' = L := by
  refine callO_iso0 (R := fun r => ∃ e, r = aint e ∧ gateE k qs n e) hm (fns_of hF n_gate_Check) (vs_bare rfl (vs_bare (bare_SlI hq) (vs_bare rfl vs_nil))) ?_
  have hq1 := RowA.isOne hq
  refine bodyO_of (Nat.le_of_ble_eq_true rfl) ?_; generalize ht : argSlots _ 0 .nil = t; have h0 : t.get 0 = some _ := (by rw [← ht]; rfl); have h1 : t.get 1 = some _ := (by rw [← ht]; rfl); have h2 : t.get 2 = some _ := (by rw [← ht]; rfl); clear ht
  repeat (first | intro id | refine goq ?_)
  refine gok ?_
  refine (Arity_ok hF hma hmo hmt).mono ?_
  rintro r L' ⟨rfl, rfl⟩
  by_cases h0 : arity k = 0
  · repeat (first | intro id | refine goq ?_)
    ((first | apply retO_r | apply retO_n); (focus (exact resq)))
    exact ⟨rfl, 60, rfl, .inr (.inl ⟨rfl, h0⟩)⟩
  repeat (first | intro id | refine goq ?_)
  refine gok ?_
  refine (Arity_ok hF hma hmo hmt).mono ?_
  rintro r L' ⟨rfl, rfl⟩
  by_cases h1 : (qs.length : Int) = arity k
  · repeat (first | intro id | refine goq ?_)
    refine WpO.mono (gcheck_loop hF hmc hmi hq hlt qs.length 0 _ (by omega) (by exact slotq) (by exact slotq) (by exact slotq) (by exact slotq) (by exact slotq) (fun i hi => by omega)) ?_
    rintro ex t' L' (⟨rfl, hQ⟩ | ⟨rfl, g6, hQ⟩)
    · repeat (first | intro id | refine goq ?_)
      ((first | apply retO_r | apply retO_n); (focus (exact resq)))
      exact ⟨rfl, 0, rfl, .inl ⟨rfl, h0, h1, hQ⟩⟩
    · repeat (first | intro id | refine goq ?_)
      ((first | apply retO_r | apply retO_n); (focus (exact resq)))
      exact ⟨rfl, 61, rfl, .inr (.inr ⟨rfl, h0, fun h => hQ h.2⟩)⟩
  · repeat (first | intro id | refine goq ?_)
    ((first | apply retO_r | apply retO_n); (focus (exact resq)))
    exact ⟨rfl, 61, rfl, .inr (.inr ⟨rfl, h0, fun h => h1 h.1⟩)⟩

/-! The document's way -/
theorem rcheck_l0 {v : AVal} {qs : List Int} {n : Int} (hq : SlI v qs) {i : Nat} (hi : i < qs.length) (hlt : qs.length < 2 ^ 62) :
    ∀ (d k : Nat) (t : Tr AVal), d + k = i → t.get 1 = some v → t.get 7 = some (aint i) → t.get 8 = some (aint k) → (∀ j, j < k → qs.getD j 0 ≠ qs.getD i 0) →
    WpO E (.loop c_phasorref06_Check_l0) t L (fun ex t' L' => (ex = .exit 2 ∧ L' = L ∧ Keep [1, 2, 7] t t' ∧ (∀ j, j < i → qs.getD j 0 ≠ qs.getD i 0)) ∨ (ex = .ret ∧ t'.get 6 = some (aint 61) ∧ ¬ (∀ j, j < i → qs.getD j 0 ≠ qs.getD i 0))) := by
  intro d
  induction d with
  | zero =>
    intro k t hk h1 h7 h8 hok
    obtain rfl : k = i := by omega
    refine wo_loop ?_
    repeat (first | intro id | refine goq ?_)
    exact .inl ⟨rfl, rfl, by exact keepq, hok⟩
  | succ d ih =>
    intro k t hk h1 h7 h8 hok
    refine wo_loop ?_
    by_cases c : qs.getD k 0 = qs.getD i 0
    · have c' := c.symm
      repeat (first | intro id | refine goq ?_)
      exact .inr ⟨rfl, by exact slotq, fun h => h k (by omega) c⟩
    · repeat (first | intro id | refine goq ?_)
      refine WpO.mono (ih (k + 1) _ (by omega) (by exact slotq) (by exact slotq) (by exact slotq) ?_) ?_
      · intro j hj
        by_cases e : j = k
        · subst e; exact c
        · exact hok j (by omega)
      · rintro ex t' L' (⟨e1, e0, e2, e3⟩ | h)
        · exact .inl ⟨e1, e0, Keep.trans (by exact keepq) e2, e3⟩
        · exact .inr h
theorem rcheck_l1 {v : AVal} {qs : List Int} {n : Int} (hq : SlI v qs) (hlt : qs.length < 2 ^ 62) :
    ∀ (d k : Nat) (t : Tr AVal), d + k = qs.length → t.get 1 = some v → t.get 2 = some (aint n) → t.get 7 = some (aint k) → (∀ i, i < k → okAt n qs i) →
    WpO E (.loop c_phasorref06_Check_l1) t L (fun ex t' L' => (ex = .exit 0 ∧ Qs n qs) ∨ (ex = .ret ∧ t'.get 6 = some (aint 61) ∧ ¬ Qs n qs)) := by
  intro d
  induction d with
  | zero =>
    intro k t hk h1 h2 h7 hok
    obtain rfl : k = qs.length := by omega
    refine wo_loop ?_
    repeat (first | intro id | refine goq ?_)
    exact .inl ⟨rfl, hok⟩
  | succ d ih =>
    intro k t hk h1 h2 h7 hok
    have hkl : k < qs.length := by omega
    have hbad : ¬ okAt n qs k → ¬ Qs n qs := fun h hh => h (hh k hkl)
    refine wo_loop ?_
    by_cases c1 : qs.getD k 0 < 0
    · repeat (first | intro id | refine goq ?_)
      exact .inr ⟨rfl, by exact slotq, hbad fun h => by have := h.1; omega⟩
    by_cases c2 : n ≤ qs.getD k 0
    · repeat (first | intro id | refine goq ?_)
      exact .inr ⟨rfl, by exact slotq, hbad fun h => by have := h.2.1; omega⟩
    repeat (first | intro id | refine goq ?_)
    refine WpO.mono (rcheck_l0 (n := n) hq hkl hlt k 0 _ (by omega) ?_ ?_ ?_ (fun j hj => by omega)) ?_
    · exact slotq
    · exact slotq
    · exact slotq
    rintro ex t' L' (⟨rfl, rfl, hK, hno⟩ | ⟨rfl, g6, hno⟩)
    · have g1 : t'.get 1 = some v := (hK.ex 1 rfl).trans (by exact slotq)
      have g2 : t'.get 2 = some (aint n) := (hK.ex 2 rfl).trans (by exact slotq)
      have g7 : t'.get 7 = some (aint k) := (hK.ex 7 rfl).trans (by exact slotq)
      repeat (first | intro id | refine goq ?_)
      exact ih (k + 1) _ (by omega) (by exact slotq) (by exact slotq) (by exact slotq) (Qs_snoc hok ⟨by omega, by omega, hno⟩)
    · repeat (first | intro id | refine goq ?_)
      exact .inr ⟨rfl, by exact slotq, hbad fun h => hno h.2.2⟩
theorem rCheck_ok (hF : E.fns = fnsT) (hm : E.mode f_phasorref06_Check = .iso false) (hma : E.mode f_phasorref06_Arity = .iso false) (hmi : E.mode f_phasorref06_Is = .iso false)
    {k n : Int} {v : AVal} {qs : List Int} (hq : SlI v qs) (hlt : qs.length < 2 ^ 62) : CallO E f_phasorref06_Check [aint k, v, aint n] L fun r L' => (∃ e, r = aint e ∧ gateE k qs n e) ∧ L' = L := by
  refine callO_iso0 (R := fun r => ∃ e, r = aint e ∧ gateE k qs n e) hm (fns_of hF n_phasorref06_Check) (vs_bare rfl (vs_bare (bare_SlI hq) (vs_bare rfl vs_nil))) ?_
  have hq1 := RowA.isOne hq
  refine bodyO_of (Nat.le_of_ble_eq_true rfl) ?_; generalize ht : argSlots _ 0 .nil = t; have h0 : t.get 0 = some _ := (by rw [← ht]; rfl); have h1 : t.get 1 = some _ := (by rw [← ht]; rfl); have h2 : t.get 2 = some _ := (by rw [← ht]; rfl); clear ht
  repeat (first | intro id | refine goq ?_)
  refine gok ?_
  refine (Is_ok hF hmi).mono ?_
  rintro r L' ⟨rfl, rfl⟩
  by_cases h0 : arity k = 0
  · rw [decide_eq_false (by simpa using h0)]
    repeat (first | intro id | refine goq ?_)
    ((first | apply retO_r | apply retO_n); (focus (exact resq)))
    exact ⟨rfl, 60, rfl, .inr (.inl ⟨rfl, h0⟩)⟩
  rw [decide_eq_true h0]
  repeat (first | intro id | refine goq ?_)
  refine gok ?_
  refine (refArity_ok hF hma hmi).mono ?_
  rintro r L' ⟨rfl, rfl⟩
  by_cases h1 : (qs.length : Int) = arity k
  · repeat (first | intro id | refine goq ?_)
    refine WpO.mono (rcheck_l1 hq hlt qs.length 0 _ (by omega) (by exact slotq) (by exact slotq) (by exact slotq) (fun i hi => by omega)) ?_
    rintro ex t' L' (⟨rfl, hQ⟩ | ⟨rfl, g6, hQ⟩)
    · repeat (first | intro id | refine goq ?_)
      ((first | apply retO_r | apply retO_n); (focus (exact resq)))
      exact ⟨rfl, 0, rfl, .inl ⟨rfl, h0, h1, hQ⟩⟩
    · repeat (first | intro id | refine goq ?_)
      ((first | apply retO_r | apply retO_n); (focus (exact resq)))
      exact ⟨rfl, 61, rfl, .inr (.inr ⟨rfl, h0, fun h => hQ h.2⟩)⟩
  · repeat (first | intro id | refine goq ?_)
    ((first | apply retO_r | apply retO_n); (focus (exact resq)))
    exact ⟨rfl, 61, rfl, .inr (.inr ⟨rfl, h0, fun h => h1 h.1⟩)⟩
/-! Unlike numbers -/
theorem unlike_l0 {v : AVal} {qs : List Int} {n : Int} (hq : SlI v qs) {i : Nat} (hi : i < qs.length) (hlt : qs.length < 2 ^ 62) :
    ∀ (d k : Nat) (t : Tr AVal), d + k = i → t.get 0 = some v → t.get 5 = some (aint i) → t.get 6 = some (aint k) → (∀ j, j < k → qs.getD j 0 ≠ qs.getD i 0) →
    WpO E (.loop c_phasorref08_unlike_l0) t L (fun ex t' L' => (ex = .exit 2 ∧ L' = L ∧ Keep [0, 1, 5] t t' ∧ (∀ j, j < i → qs.getD j 0 ≠ qs.getD i 0)) ∨ (ex = .ret ∧ t'.get 4 = some (abool false) ∧ ¬ (∀ j, j < i → qs.getD j 0 ≠ qs.getD i 0))) := by
  intro d
  induction d with
  | zero =>
    intro k t hk h0 h5 h6 hok
    obtain rfl : k = i := by omega
    refine wo_loop ?_
    repeat (first | intro id | refine goq ?_)
    exact .inl ⟨rfl, rfl, by exact keepq, hok⟩
  | succ d ih =>
    intro k t hk h0 h5 h6 hok
    refine wo_loop ?_
    by_cases c : qs.getD k 0 = qs.getD i 0
    · repeat (first | intro id | refine goq ?_)
      exact .inr ⟨rfl, by exact slotq, fun h => h k (by omega) c⟩
    · repeat (first | intro id | refine goq ?_)
      refine WpO.mono (ih (k + 1) _ (by omega) (by exact slotq) (by exact slotq) (by exact slotq) ?_) ?_
      · intro j hj
        by_cases e : j = k
        · subst e; exact c
        · exact hok j (by omega)
      · rintro ex t' L' (⟨e1, e0, e2, e3⟩ | h)
        · exact .inl ⟨e1, e0, Keep.trans (by exact keepq) e2, e3⟩
        · exact .inr h
theorem unlike_l1 {v : AVal} {qs : List Int} {n : Int} (hq : SlI v qs) (hlt : qs.length < 2 ^ 62) :
    ∀ (d k : Nat) (t : Tr AVal), d + k = qs.length → t.get 0 = some v → t.get 1 = some (aint n) → t.get 5 = some (aint k) → (∀ i, i < k → okAt n qs i) →
    WpO E (.loop c_phasorref08_unlike_l1) t L (fun ex t' L' => (ex = .exit 0 ∧ Qs n qs) ∨ (ex = .ret ∧ t'.get 4 = some (abool false) ∧ ¬ Qs n qs)) := by
  intro d
  induction d with
  | zero =>
    intro k t hk h0 h1 h5 hok
    obtain rfl : k = qs.length := by omega
    refine wo_loop ?_
    repeat (first | intro id | refine goq ?_)
    exact .inl ⟨rfl, hok⟩
  | succ d ih =>
    intro k t hk h0 h1 h5 hok
    have hkl : k < qs.length := by omega
    have hbad : ¬ okAt n qs k → ¬ Qs n qs := fun h hh => h (hh k hkl)
    refine wo_loop ?_
    by_cases c1 : qs.getD k 0 < 0
    · repeat (first | intro id | refine goq ?_)
      exact .inr ⟨rfl, by exact slotq, hbad fun h => by have := h.1; omega⟩
    by_cases c2 : n ≤ qs.getD k 0
    · repeat (first | intro id | refine goq ?_)
      exact .inr ⟨rfl, by exact slotq, hbad fun h => by have := h.2.1; omega⟩
    repeat (first | intro id | refine goq ?_)
    refine WpO.mono (unlike_l0 (n := n) hq hkl hlt k 0 _ (by omega) ?_ ?_ ?_ (fun j hj => by omega)) ?_
    · exact slotq
    · exact slotq
    · exact slotq
    rintro ex t' L' (⟨rfl, rfl, hK, hno⟩ | ⟨rfl, g4, hno⟩)
    · have g0 : t'.get 0 = some v := (hK.ex 0 rfl).trans (by exact slotq)
      have g1 : t'.get 1 = some (aint n) := (hK.ex 1 rfl).trans (by exact slotq)
      have g5 : t'.get 5 = some (aint k) := (hK.ex 5 rfl).trans (by exact slotq)
      repeat (first | intro id | refine goq ?_)
      exact ih (k + 1) _ (by omega) (by exact slotq) (by exact slotq) (by exact slotq) (Qs_snoc hok ⟨by omega, by omega, hno⟩)
    · repeat (first | intro id | refine goq ?_)
      exact .inr ⟨rfl, by exact slotq, hbad fun h => hno h.2.2⟩
theorem unlike_ok (hF : E.fns = fnsT) (hm : E.mode f_phasorref08_unlike = .iso false) {n : Int} {v : AVal} {qs : List Int} (hq : SlI v qs) (hlt : qs.length < 2 ^ 62) : CallO E f_phasorref08_unlike [v, aint n] L fun r L' => (∃ b, r = abool b ∧ (b = true ↔ Qs n qs)) ∧ L' = L := by
  refine callO_iso0 (R := fun r => ∃ b, r = abool b ∧ (b = true ↔ Qs n qs)) hm (fns_of hF n_phasorref08_unlike) (vs_bare (bare_SlI hq) (vs_bare rfl vs_nil)) ?_
  have hq1 := RowA.isOne hq
  refine bodyO_of (Nat.le_of_ble_eq_true rfl) ?_; generalize ht : argSlots _ 0 .nil = t; have h0 : t.get 0 = some _ := (by rw [← ht]; rfl); have h1 : t.get 1 = some _ := (by rw [← ht]; rfl); clear ht
  repeat (first | intro id | refine goq ?_)
  refine WpO.mono (unlike_l1 hq hlt qs.length 0 _ (by omega) (by exact slotq) (by exact slotq) (by exact slotq) (fun i hi => by omega)) ?_
  rintro ex t' L' (⟨rfl, hQ⟩ | ⟨rfl, g4, hQ⟩)
  · repeat (first | intro id | refine goq ?_)
    ((first | apply retO_r | apply retO_n); (focus (exact resq)))
    exact ⟨rfl, true, rfl, by simp [hQ]⟩
  · repeat (first | intro id | refine goq ?_)
    ((first | apply retO_r | apply retO_n); (focus (exact resq)))
    exact ⟨rfl, false, rfl, by simp [hQ]⟩
end Go.Proofs.YtmflheoafeenfaaGreat
