/- Parts of the proof, joined by program: RtC1, RtC9, CiCD, CiCG, CiCH. -/
import Derived.Test.YtfaphhcloanhnaaPa8
set_option linter.unusedSimpArgs false
set_option linter.unusedVariables false
namespace Go.Proofs.Ytfaphhcloanhnaa
open Go.Am
set_option maxRecDepth 4000
set_option maxHeartbeats 4000000
variable {E : Env} {L : Hp}

theorem num_ok (hF : E.fns = fnsT) (hm : E.mode f_phasorlaw20_num = .iso false) (n : Int) : CallO E f_phasorlaw20_num [aint n] L fun v L' => v = aint n ∧ L' = L := by
  refine callO_iso0 hm (fns_of hF n_phasorlaw20_num) (vs_bare rfl vs_nil) ?_
  refine bodyO_of (Nat.le_of_ble_eq_true rfl) ?_; generalize ht : argSlots _ 0 .nil = t; have h0 : t.get 0 = some _ := (by rw [← ht]; rfl); clear ht
  repeat (first | intro id | refine goc ?_)
  ((first | apply retO_r | apply retO_n); (focus (exact resq)))
  exact ⟨rfl, rfl⟩

theorem drop_eq {α : Type} (z : α) {la lb : List α} {k : Nat} (hl : la.length = lb.length) (hk : k < la.length) : la.drop k = lb.drop k ↔ la.getD k z = lb.getD k z ∧ la.drop (k + 1) = lb.drop (k + 1) := by
  have hk' : k < lb.length := by omega
  have e1 := List.drop_eq_getElem_cons hk
  have e2 := List.drop_eq_getElem_cons hk'
  constructor
  · intro h
    rw [e1, e2] at h
    obtain ⟨h1, h2⟩ := List.cons.inj h
    exact ⟨by simpa [hk, hk'] using h1, h2⟩
  · rintro ⟨h1, h2⟩
    rw [e1, e2]
    simp only [List.cons.injEq]
    exact ⟨by simpa [hk, hk'] using h1, h2⟩

theorem ints_loop (la lb : List Int) (va vb : AVal) (ha : SlI va la) (hb : SlI vb lb) (hl : la.length = lb.length) (hlt : la.length < 2 ^ 62) : ∀ (d k : Nat) (t : Tr AVal), d + k = la.length → t.get 0 = some va → t.get 1 = some vb → t.get 5 = some (aint k) →
    WpO E (.loop c_phasorlaw20_ints_l0) t L (fun ex t' _ => (ex = .exit 0 ∧ la.drop k = lb.drop k) ∨ (ex = .ret ∧ t'.get 4 = some (abool false) ∧ la.drop k ≠ lb.drop k)) := by
  intro d
  induction d with
  | zero =>
    intro k t hk h0 h1 h5
    refine wo_loop ?_
    repeat (first | intro id | refine goc ?_)
    refine wo_cond_if (by exact slotq) (fun hc => ?_) (fun hc => ?_) <;> (try simp only [decide_eq_true_eq, decide_eq_false_iff_not, ne_eq, Decidable.not_not] at hc)
    · omega
    · repeat (first | intro id | refine goc ?_)
      refine .inl ⟨rfl, ?_⟩
      rw [List.drop_of_length_le (by omega), List.drop_of_length_le (by omega)]
  | succ d ih =>
    intro k t hk h0 h1 h5
    refine wo_loop ?_
    have hde := drop_eq 0 hl (show k < la.length by omega)
    repeat (first | intro id | refine goc ?_)
    refine wo_cond_if (by exact slotq) (fun hc => ?_) (fun hc => ?_) <;> (try simp only [decide_eq_true_eq, decide_eq_false_iff_not, ne_eq, Decidable.not_not] at hc)
    · repeat (first | intro id | refine goc ?_)
      refine wo_cond_if (by exact slotq) (fun hc => ?_) (fun hc => ?_) <;> (try simp only [decide_eq_true_eq, decide_eq_false_iff_not, ne_eq, Decidable.not_not] at hc)
      · repeat (first | intro id | refine goc ?_)
        exact .inr ⟨rfl, by simp [Tr.get_set, abool], fun he => hc (hde.1 he).1⟩
      · repeat (first | intro id | refine goc ?_)
        refine (ih (k + 1) _ (by omega) (by exact slotq) (by exact slotq) (by exact slotq)).mono fun ex t' L' hq => ?_
        rw [hc] at hde
        simp only [true_and] at hde
        simp only [ne_eq, hde]
        exact hq
    · omega

theorem ints_ok (hF : E.fns = fnsT) (hm : E.mode f_phasorlaw20_ints = .iso false) {a b va vb : AVal} {la lb : List Int} (hv : ViewsO L [a, b] [va, vb]) (ha : SlI va la) (hb : SlI vb lb) (hlt : la.length < 2 ^ 62) :
    CallO E f_phasorlaw20_ints [a, b] L fun v L' => v = abool (decide (la = lb)) ∧ L' = L := by
  refine callO_iso0 hm (fns_of hF n_phasorlaw20_ints) hv ?_
  refine bodyO_of (Nat.le_of_ble_eq_true rfl) ?_; generalize ht : argSlots _ 0 .nil = t; have h0 : t.get 0 = some _ := (by rw [← ht]; rfl); have h1 : t.get 1 = some _ := (by rw [← ht]; rfl); clear ht
  repeat (first | intro id | refine goc ?_)
  refine wo_cond_if (by exact slotq) (fun hc => ?_) (fun hc => ?_) <;> (try simp only [decide_eq_true_eq, decide_eq_false_iff_not, ne_eq, Decidable.not_not] at hc)
  · repeat (first | intro id | refine goc ?_)
    ((first | apply retO_r | apply retO_n); (focus (exact resq)))
    refine ⟨rfl, ?_⟩
    have : la ≠ lb := by rintro rfl; exact hc rfl
    simp [this, resultV, abool]
  · have hl : la.length = lb.length := by omega
    repeat (first | intro id | refine goc ?_)
    refine (ints_loop la lb va vb ha hb hl hlt la.length 0 _ (by omega) (by exact slotq) (by exact slotq) (by exact slotq)).mono fun ex t' L' hq => ?_
    obtain ⟨rfl, hq2⟩ | ⟨rfl, hq2, hq3⟩ := hq
    · simp only [List.drop_zero] at hq2
      repeat (first | intro id | refine goc ?_)
      ((first | apply retO_r | apply retO_n); (focus (exact resq)))
      exact ⟨rfl, by simp [hq2, resultV, abool]⟩
    · simp only [List.drop_zero] at hq3
      repeat (first | intro id | refine goc ?_)
      ((first | apply retO_r | apply retO_n); (focus (exact resq)))
      exact ⟨rfl, by simp [hq3, resultV, abool]⟩

/-! Maps compared -/
end Go.Proofs.Ytfaphhcloanhnaa
namespace Go.Proofs.Ytfaphhcloanhnaa
open Go.Am
set_option maxRecDepth 4000
set_option maxHeartbeats 4000000
variable {E : Env} {L : Hp}
/-- Where x lies first. -/
structure IdxI (l : List Int) (x i : Int) : Prop where
  lo : i = -1 ∨ 0 ≤ i
  no : i < 0 → ∀ j, j < l.length → l.getD j 0 ≠ x
  yes : 0 ≤ i → i.toNat < l.length ∧ l.getD i.toNat 0 = x ∧ ∀ j, j < i.toNat → l.getD j 0 ≠ x
theorem IdxI.mem {l : List Int} {x i : Int} (h : IdxI l x i) : 0 ≤ i ↔ x ∈ l := by
  constructor
  · intro h0
    obtain ⟨h1, h2, _⟩ := h.yes h0
    rw [← h2, List.getD_eq_getElem?_getD, List.getElem?_eq_getElem h1]
    exact List.getElem_mem h1
  · intro hm
    obtain ⟨j, hj, e⟩ := List.getElem_of_mem hm
    rcases h.lo with h1 | h1
    · refine absurd ?_ (h.no (by omega) j hj)
      rw [List.getD_eq_getElem?_getD, List.getElem?_eq_getElem hj]
      exact e
    · exact h1
theorem index_loop {x : Int} {v : AVal} {l : List Int} (hv : SlI v l) (hlt : l.length < 2 ^ 62) : ∀ (d k : Nat) (t : Tr AVal), d + k = l.length → t.get 0 = some v → t.get 1 = some (aint x) → t.get 7 = some (aint l.length) → t.get 8 = some (aint k) → (∀ j, j < k → l.getD j 0 ≠ x) →
    WpO E (.loop c_slices_Index_int_int_l0) t L (fun ex t' L' => L' = L ∧ ((ex = .exit 0 ∧ ∀ j, j < l.length → l.getD j 0 ≠ x) ∨ (ex = .ret ∧ ∃ i, t'.get 4 = some (aint i) ∧ IdxI l x i))) := by
  intro d
  induction d with
  | zero =>
    intro k t hk h0 h1 h7 h8 hno
    refine wo_loop ?_
    repeat (first | intro id | refine goq ?_)
    exact ⟨rfl, .inl ⟨rfl, fun j hj => hno j (by omega)⟩⟩
  | succ d ih =>
    intro k t hk h0 h1 h7 h8 hno
    refine wo_loop ?_
    repeat (first | intro id | refine goq ?_)
    refine wo_cond_if (by exact slotq) (fun hc => ?_) (fun hc => ?_) <;> (try simp only [decide_eq_true_eq, decide_eq_false_iff_not, ne_eq, Decidable.not_not] at hc)
    · repeat (first | intro id | refine goq ?_)
      exact ⟨rfl, .inr ⟨rfl, k, by exact slotq, .inr (by omega), fun h => by omega, fun _ => ⟨by omega, hc.symm, fun j hj => hno j (by omega)⟩⟩⟩
    · repeat (first | intro id | refine goq ?_)
      refine ih (k + 1) _ ?_ ?_ ?_ ?_ ?_ ?_
      · omega
      · exact slotq
      · exact slotq
      · exact slotq
      · exact slotq
      · intro j hj
        by_cases e : j = k
        · subst e; exact fun h => hc h.symm
        · exact hno j (by omega)
theorem index_ok (hF : E.fns = fnsT) (hm : E.mode f_slices_Index_int_int = .iso false) {a v : AVal} {l : List Int} {x : Int} (hw : ViewsO L [a] [v]) (hv : SlI v l) (hlt : l.length < 2 ^ 62) :
    CallO E f_slices_Index_int_int [a, aint x] L fun r L' => (∃ i, r = aint i ∧ IdxI l x i) ∧ L' = L := by
  refine callO_iso0 (R := fun r => ∃ i, r = aint i ∧ IdxI l x i) (vs := [v, aint x]) hm (fns_of hF n_slices_Index_int_int) ⟨fun m hm => ?_⟩ ?_
  · have := hw.ex m hm
    simp only [viewAll] at this ⊢
    split at this
    · rename_i h1 h2
      simp only [Option.some.injEq, List.cons.injEq] at this
      rename_i q1 q2
      cases h2
      rw [h1]
      simp only [this.1]
      rfl
    · simp at this
  refine bodyO_of (Nat.le_of_ble_eq_true rfl) ?_; generalize ht : argSlots _ 0 .nil = t; have h0 : t.get 0 = some _ := (by rw [← ht]; rfl); have h1 : t.get 1 = some _ := (by rw [← ht]; rfl); clear ht
  repeat (first | intro id | refine goq ?_)
  refine WpO.mono (index_loop (x := x) hv hlt l.length 0 _ (by omega) ?_ ?_ ?_ ?_ (fun j hj => by omega)) ?_
  · exact slotq
  · exact slotq
  · exact slotq
  · exact slotq
  rintro ex t1 L' ⟨rfl, ⟨rfl, hno⟩ | ⟨rfl, i, h4, hi⟩⟩
  · repeat (first | intro id | refine goq ?_)
    ((first | apply retO_r | apply retO_n); (focus (exact resq)))
    exact ⟨rfl, -1, rfl, .inl rfl, fun _ => hno, fun h => by omega⟩
  ·
    repeat (first | intro id | refine goq ?_)
    ((first | apply retO_r | apply retO_n); (focus (exact resq)))
    exact ⟨rfl, i, rfl, hi⟩
theorem contains_ok (hF : E.fns = fnsT) (hm : E.mode f_slices_Contains_int_int = .iso false) (hmi : E.mode f_slices_Index_int_int = .iso false) {a v : AVal} {l : List Int} {x : Int} (hw : ViewsO L [a, aint x] [v, aint x]) (hv : SlI v l) (hlt : l.length < 2 ^ 62) :
    CallO E f_slices_Contains_int_int [a, aint x] L fun r L' => r = abool (decide (x ∈ l)) ∧ L' = L := by
  refine callO_iso0 hm (fns_of hF n_slices_Contains_int_int) hw ?_
  refine bodyO_of (Nat.le_of_ble_eq_true rfl) ?_; generalize ht : argSlots _ 0 .nil = t; have h0 : t.get 0 = some _ := (by rw [← ht]; rfl); have h1 : t.get 1 = some _ := (by rw [← ht]; rfl); clear ht
  repeat (first | intro id | refine goq ?_)
  refine gok ?_
  refine (index_ok hF hmi (vs_bare (bare_SlI hv) vs_nil) hv hlt).mono ?_
  rintro r L' ⟨⟨i, rfl, hi⟩, rfl⟩
  repeat (first | intro id | refine goq ?_)
  ((first | apply retO_r | apply retO_n); (focus (exact resq)))
  refine ⟨rfl, ?_⟩
  have e : decide (0 ≤ i) = decide (x ∈ l) := by
    by_cases hx : x ∈ l
    · rw [decide_eq_true hx, decide_eq_true (hi.mem.2 hx)]
    · rw [decide_eq_false hx, decide_eq_false fun h => hx (hi.mem.1 h)]
  rw [← e]
  rfl
end Go.Proofs.Ytfaphhcloanhnaa
namespace Go.Proofs.Ytfaphhcloanhnaa
open Go.Am
set_option maxRecDepth 4000
structure OpD where
  kind : Int
  gate : Int
  qs : List Int
  bit : Int
  ifc : Int
  whn : Int
  deriving DecidableEq, Inhabited
structure CircD where
  qubits : Int
  bits : Int
  ops : List OpD
  deriving DecidableEq, Inhabited
def opCells (q : AVal) (o : OpD) : List AVal := [aint o.kind, aint o.gate, q, aint o.bit, aint o.ifc, aint o.whn]
/-- The cells of a row of operations. -/
inductive OpsC : List AVal → List OpD → Prop where
  | nil : OpsC [] []
  | cons {q : AVal} {o : OpD} {cs : List AVal} {os : List OpD} (hq : SlI q o.qs) (hb : o.qs.length < 2 ^ 62) (h : OpsC cs os) : OpsC (opCells q o ++ cs) (o :: os)
def OpsA (v : AVal) (os : List OpD) : Prop := ∃ cs, RowA v cs os.length ∧ OpsC cs os ∧ os.length < 2 ^ 62
def CircA (v : AVal) (c : CircD) : Prop := ∃ s, v = .agg [aint c.qubits, aint c.bits, s] ∧ OpsA s c.ops
theorem OpsC.length {cs : List AVal} {os : List OpD} (h : OpsC cs os) : cs.length = os.length * 6 := by
  induction h with
  | nil => rfl
  | cons hq hb h ih => simp only [opCells, List.cons_append, List.nil_append, List.length_cons, ih]; omega
/-- One operation out of a row. -/
structure OpAt (cs : List AVal) (k : Nat) (q : AVal) (o : OpD) : Prop where
  hq : SlI q o.qs
  b : o.qs.length < 2 ^ 62
  lt : k * 6 < cs.length
  seg : seg (cs.drop (k * 6)) 0 6 = some (opCells q o)
  f0 : (cs.drop (k * 6))[0]? = some (aint o.kind)
  f1 : ((cs.drop (k * 6)).drop 1)[0]? = some (aint o.gate)
  f2 : ((cs.drop (k * 6)).drop 2)[0]? = some q
  f3 : ((cs.drop (k * 6)).drop 3)[0]? = some (aint o.bit)
  f4 : ((cs.drop (k * 6)).drop 4)[0]? = some (aint o.ifc)
  f5 : ((cs.drop (k * 6)).drop 5)[0]? = some (aint o.whn)
  l6 : 6 ≤ (cs.drop (k * 6)).length
theorem OpsC.at {cs : List AVal} {os : List OpD} (h : OpsC cs os) : ∀ {k : Nat}, k < os.length → ∃ q, OpAt cs k q (os.getD k default) := by
  induction h with
  | nil => intro k hk; simp at hk
  | @cons q o cs os hq hb h ih =>
    intro k hk
    cases k with
    | zero =>
      refine ⟨q, ?_⟩
      have hl : (opCells q o ++ cs).length = cs.length + 6 := by simp [opCells]
      constructor <;> simp_all [opCells, Am.seg]
    | succ k =>
      obtain ⟨q', h1⟩ := ih (k := k) (by simpa using hk)
      have e : (opCells q o ++ cs).drop ((k + 1) * 6) = cs.drop (k * 6) := by
        have : (k + 1) * 6 = (opCells q o).length + k * 6 := by simp [opCells]; omega
        rw [this, List.drop_append, Nat.add_sub_cancel_left, List.drop_of_length_le (by omega), List.nil_append]
      refine ⟨q', ?_⟩
      have e2 : (o :: os).getD (k + 1) default = os.getD k default := by simp
      rw [e2]
      have hl : (opCells q o ++ cs).length = cs.length + 6 := by simp [opCells]
      exact ⟨h1.hq, h1.b, by rw [hl]; have := h1.lt; omega, by rw [e]; exact h1.seg, by rw [e]; exact h1.f0, by rw [e]; exact h1.f1, by rw [e]; exact h1.f2, by rw [e]; exact h1.f3, by rw [e]; exact h1.f4, by rw [e]; exact h1.f5, by rw [e]; exact h1.l6⟩
theorem OpsC.getE {cs : List AVal} {os : List OpD} {k : Nat} (h : OpsC cs os) (hk : k < os.length) : ∃ q, SlI q (os.getD k default).qs ∧ (os.getD k default).qs.length < 2 ^ 62 ∧ k * 6 < cs.length ∧ Am.seg (cs.drop (k * 6)) 0 6 = some (opCells q (os.getD k default)) := by
  obtain ⟨q, ha⟩ := h.at hk
  exact ⟨q, ha.hq, ha.b, ha.lt, ha.seg⟩
theorem OpsC.bare {cs : List AVal} {os : List OpD} (h : OpsC cs os) : ∀ c ∈ cs, c.bare = true := by
  induction h with
  | nil => intro c hc; simp at hc
  | @cons q o cs os hq hb h ih =>
    intro c hc
    simp only [opCells, List.cons_append, List.nil_append, List.mem_cons] at hc
    rcases hc with rfl | rfl | rfl | rfl | rfl | rfl | hc
    · rfl
    · rfl
    · exact bare_SlI hq
    · rfl
    · rfl
    · rfl
    · exact ih c hc
theorem OpsA.bare {v : AVal} {os : List OpD} (h : OpsA v os) : v.bare = true := by
  obtain ⟨cs, h1, h2, -⟩ := h
  exact bare_Row h1 h2.bare
theorem CircA.bare {v : AVal} {c : CircD} (h : CircA v c) : v.bare = true := by
  obtain ⟨s, rfl, h⟩ := h
  simp [AVal.bare, bareAll, aint, h.bare]

/-! What may be -/
def okAt (n : Int) (l : List Int) (i : Nat) : Prop := 0 ≤ l.getD i 0 ∧ l.getD i 0 < n ∧ ∀ j, j < i → l.getD j 0 ≠ l.getD i 0
def Qs (n : Int) (l : List Int) : Prop := ∀ i, i < l.length → okAt n l i
def arity (k : Int) : Int := if k < 1 ∨ 20 < k then 0 else if k ≤ 10 then 1 else if k ≤ 17 then 2 else 3
/-- Which error: no kind, wires that may not be, none. -/
def gateE (k : Int) (l : List Int) (n e : Int) : Prop := (e = 0 ∧ arity k ≠ 0 ∧ (l.length : Int) = arity k ∧ Qs n l) ∨ (e = 60 ∧ arity k = 0) ∨ (e = 61 ∧ arity k ≠ 0 ∧ ¬((l.length : Int) = arity k ∧ Qs n l))
def condOk (o : OpD) (b : Int) : Prop := (o.ifc = -1 ∧ o.whn = 0) ∨ (0 ≤ o.ifc ∧ o.ifc < b ∧ (o.whn = 0 ∨ o.whn = 1))
def OpOk (o : OpD) (n b : Int) : Prop :=
  (o.kind = 1 ∧ arity o.gate ≠ 0 ∧ (o.qs.length : Int) = arity o.gate ∧ Qs n o.qs ∧ o.bit = 0 ∧ condOk o b) ∨
  (o.kind = 2 ∧ o.gate = 0 ∧ o.ifc = -1 ∧ o.whn = 0 ∧ o.qs.length = 1 ∧ Qs n o.qs ∧ 0 ≤ o.bit ∧ o.bit < b) ∨
  (o.kind = 3 ∧ o.gate = 0 ∧ o.ifc = -1 ∧ o.whn = 0 ∧ o.qs.length = 1 ∧ Qs n o.qs ∧ o.bit = 0) ∨
  (o.kind = 4 ∧ o.gate = 0 ∧ o.ifc = -1 ∧ o.whn = 0 ∧ o.qs.length ≠ 0 ∧ Qs n o.qs ∧ o.bit = 0)
structure CircOk (c : CircD) : Prop where
  q0 : 0 ≤ c.qubits
  q1 : c.qubits ≤ 64
  b0 : 0 ≤ c.bits
  b1 : c.bits ≤ 64
  len : c.ops.length ≤ 4096
  ok : ∀ k, k < c.ops.length → OpOk (c.ops.getD k default) c.qubits c.bits
theorem mem_take_iff {l : List Int} {x : Int} {k : Nat} (hk : k ≤ l.length) : x ∈ l.take k ↔ ∃ j, j < k ∧ l.getD j 0 = x := by
  rw [List.mem_take_iff_getElem]
  constructor
  · rintro ⟨j, hj, e⟩
    exact ⟨j, by omega, by simp [List.getD_eq_getElem?_getD, List.getElem?_eq_getElem (show j < l.length by omega), e]⟩
  · rintro ⟨j, hj, e⟩
    exact ⟨j, by omega, by simpa [List.getD_eq_getElem?_getD, List.getElem?_eq_getElem (show j < l.length by omega)] using e⟩
theorem okAt_iff {n : Int} {l : List Int} {k : Nat} (hk : k < l.length) : okAt n l k ↔ 0 ≤ l.getD k 0 ∧ l.getD k 0 < n ∧ l.getD k 0 ∉ l.take k := by
  unfold okAt
  rw [mem_take_iff (by omega)]
  constructor
  · rintro ⟨h1, h2, h3⟩
    exact ⟨h1, h2, fun ⟨j, hj, e⟩ => h3 j hj e⟩
  · rintro ⟨h1, h2, h3⟩
    exact ⟨h1, h2, fun j hj e => h3 ⟨j, hj, e⟩⟩
end Go.Proofs.Ytfaphhcloanhnaa
namespace Go.Proofs.Ytfaphhcloanhnaa
open Go.Am
set_option maxRecDepth 4000
set_option maxHeartbeats 4000000
variable {E : Env} {L : Hp}
/-- The table of kinds. -/
def tableC : List AVal := match body { fns := fun _ => none, mode := fun _ => .open_, known := fun _ _ _ => none } 100 c_gate_table [] ⟨.nil, 0, 0⟩ with
  | some (.agg cs, _) => cs
  | _ => []
def tableM : Mem := match body { fns := fun _ => none, mode := fun _ => .open_, known := fun _ _ _ => none } 100 c_gate_table [] ⟨.nil, 0, 0⟩ with
  | some (_, m) => m
  | _ => ⟨.nil, 0, 0⟩
theorem table_run (E : Env) : ∃ m, body E 100 c_gate_table [] ⟨.nil, 0, 0⟩ = some (.agg tableC, m) := ⟨tableM, by kernel_rfl⟩
theorem tableC_len : tableC.length = 84 := by kernel_rfl
theorem tableC_flat : (AVal.agg tableC).flat = true := by kernel_rfl
theorem table_ok (hF : E.fns = fnsT) (hm : E.mode f_gate_table = .iso false) : CallO E f_gate_table [] L fun v L' => v = .agg tableC ∧ L' = L := by
  obtain ⟨m', h⟩ := table_run E
  refine ⟨fun m ho => (call_iso0 (R := fun v => v = .agg tableC) (vs := []) hm (fns_of hF n_gate_table) rfl ⟨100, _, m', h, tableC_flat, rfl⟩).mono ?_⟩
  rintro v m1 ⟨h1, rfl⟩
  exact ⟨L, ho, h1, rfl⟩
def isInt : Option AVal → Int → Bool
  | some (.sc (.int .i64 a)), n => a == n
  | _, _ => false
theorem isInt_eq {v : Option AVal} {n : Int} (h : isInt v n = true) : v = some (aint n) := by
  unfold isInt at h
  split at h
  · rename_i a
    have : a = n := by simpa using h
    rw [← this]; rfl
  · cases h
def rowC (k : Nat) : List AVal := if k < 1 ∨ 20 < k then [.sc (.string ⟨#[]⟩), aint 0, aint 0, aint 0] else (tableC.drop (k * 4)).take 4
def inverse (k : Int) : Int := if k < 1 ∨ 20 < k then 0 else if k = 5 ∨ k = 7 ∨ k = 9 ∨ k = 15 then k + 1 else if k = 6 ∨ k = 8 ∨ k = 10 ∨ k = 16 then k - 1 else k
theorem table_all : (List.range 21).all (fun k => k == 0 || (isInt ((rowC k)[1]?) (arity k) && isInt ((rowC k)[3]?) (inverse k))) = true := by kernel_rfl
/-- A kind's row, or none. -/
def RowK (k : Int) (r : List AVal) : Prop := r.length = 4 ∧ r[1]? = some (aint (arity k)) ∧ r[3]? = some (aint (inverse k))
theorem of_ok (hF : E.fns = fnsT) (hm : E.mode f_gate_of = .iso false) (hmt : E.mode f_gate_table = .iso false) {k : Int} : CallO E f_gate_of [aint k] L fun v L' => (∃ r, v = .agg r ∧ RowK k r) ∧ L' = L := by
  refine callO_iso0 (R := fun v => ∃ r, v = .agg r ∧ RowK k r) hm (fns_of hF n_gate_of) (vs_bare rfl vs_nil) ?_
  by_cases h1 : k < 1
  · refine bodyO_of (Nat.le_of_ble_eq_true rfl) ?_; generalize ht : argSlots _ 0 .nil = t; have h0 : t.get 0 = some _ := (by rw [← ht]; rfl); clear ht
    repeat (first | intro id | refine goq ?_)
    ((first | apply retO_r | apply retO_n); (focus (exact resq)))
    exact ⟨rfl, _, rfl, rfl, by simp [arity, h1, aint], by simp [inverse, h1, aint]⟩
  by_cases h2 : 20 < k
  · refine bodyO_of (Nat.le_of_ble_eq_true rfl) ?_; generalize ht : argSlots _ 0 .nil = t; have h0 : t.get 0 = some _ := (by rw [← ht]; rfl); clear ht
    repeat (first | intro id | refine goq ?_)
    ((first | apply retO_r | apply retO_n); (focus (exact resq)))
    exact ⟨rfl, _, rfl, rfl, by simp [arity, h2, aint], by simp [inverse, h2, aint]⟩
  obtain ⟨j, rfl⟩ : ∃ j : Nat, k = j := ⟨k.toNat, by omega⟩
  have hj := List.all_eq_true.1 table_all j (List.mem_range.2 (by omega))
  have h0 : (j == 0) = false := by simp; omega
  rw [h0, Bool.false_or, Bool.and_eq_true] at hj
  have e1 := isInt_eq hj.1
  have e2 := isInt_eq hj.2
  have hs : seg tableC (j * 4) 4 = some (rowC j) := by
    rw [seg, if_pos (by rw [tableC_len]; omega), rowC, if_neg (by omega)]
  have hl : (rowC j).length = 4 := by rw [rowC, if_neg (by omega)]; simp [tableC_len]; omega
  obtain ⟨a, b, c, d, hr⟩ : ∃ a b c d, rowC j = [a, b, c, d] := by
    match hq : rowC j, hl with
    | [a, b, c, d], _ => exact ⟨a, b, c, d, rfl⟩
  have hone : ∀ (i : Nat) (x : AVal), (rowC j)[i]? = some x → x.one = true := by
    intro i x hx
    have hm := List.mem_of_getElem? hx
    rw [rowC, if_neg (by omega)] at hm
    have hm2 := List.mem_of_mem_drop (List.mem_of_mem_take hm)
    have : tableC.all AVal.one = true := by kernel_rfl
    exact List.all_eq_true.1 this x hm2
  have hflat : (AVal.agg (rowC j)).flat = true := by
    have : tableC.all AVal.flat = true := by kernel_rfl
    have h4 : ∀ x ∈ rowC j, x.flat = true := by
      intro x hm
      rw [rowC, if_neg (by omega)] at hm
      exact List.all_eq_true.1 this x (List.mem_of_mem_drop (List.mem_of_mem_take hm))
    rw [hr] at h4 ⊢
    simp [AVal.flat, flatAll, h4]
  rw [hr] at hs e1 e2 hflat hone
  have o1 : a.one = true := hone 0 a rfl
  have o2 : b.one = true := hone 1 b rfl
  have o3 : c.one = true := hone 2 c rfl
  have o4 : d.one = true := hone 3 d rfl
  refine bodyO_of (Nat.le_of_ble_eq_true rfl) ?_; generalize ht : argSlots _ 0 .nil = t; have h0 : t.get 0 = some _ := (by rw [← ht]; rfl); clear ht
  repeat (first | intro id | refine goq ?_)
  refine gok ?_
  refine (table_ok hF hmt).mono ?_
  rintro v L' ⟨rfl, rfl⟩
  repeat (first | intro id | refine goq ?_)
  ((first | apply retO_r | apply retO_n); (focus (exact resq)))
  exact ⟨hflat, _, rfl, rfl, e1, e2⟩
theorem Arity_ok (hF : E.fns = fnsT) (hm : E.mode f_gate_Arity = .iso false) (hmo : E.mode f_gate_of = .iso false) (hmt : E.mode f_gate_table = .iso false) {k : Int} : CallO E f_gate_Arity [aint k] L fun v L' => v = aint (arity k) ∧ L' = L := by
  refine callO_iso0 hm (fns_of hF n_gate_Arity) (vs_bare rfl vs_nil) ?_
  refine bodyO_of (Nat.le_of_ble_eq_true rfl) ?_; generalize ht : argSlots _ 0 .nil = t; have h0 : t.get 0 = some _ := (by rw [← ht]; rfl); clear ht
  repeat (first | intro id | refine goq ?_)
  refine gok ?_
  refine (of_ok hF hmo hmt).mono ?_
  rintro v L' ⟨⟨r, rfl, -, hr, -⟩, rfl⟩
  repeat (first | intro id | refine goq ?_)
  ((first | apply retO_r | apply retO_n); (focus (exact resq)))
  exact ⟨rfl, rfl⟩
theorem Is_ok (hF : E.fns = fnsT) (hm : E.mode f_phasorref06_Is = .iso false) {k : Int} : CallO E f_phasorref06_Is [aint k] L fun v L' => v = abool (decide (arity k ≠ 0)) ∧ L' = L := by
  refine callO_iso0 hm (fns_of hF n_phasorref06_Is) (vs_bare rfl vs_nil) ?_
  refine bodyO_of (Nat.le_of_ble_eq_true rfl) ?_; generalize ht : argSlots _ 0 .nil = t; have h0 : t.get 0 = some _ := (by rw [← ht]; rfl); clear ht
  unfold arity
  repeat' (first | intro id | refine goq ?_ | (refine oo_guard (by exact slotq) (fun hc => ?_) (fun hc => ?_) <;> (fail_if_success (exact absurd hc (by decide))) <;> rw [hc] <;> (try simp only [decide_eq_true_eq, decide_eq_false_iff_not, ne_eq, Decidable.not_not] at hc)) | (refine wo_cond_if (by exact slotq) (fun hc => ?_) (fun hc => ?_) <;> (try simp only [decide_eq_true_eq, decide_eq_false_iff_not, ne_eq, Decidable.not_not] at hc)) | ((first | apply retO_r | apply retO_n); (focus (exact resq))))
  all_goals (refine ⟨rfl, ?_⟩; simp only [resultV, abool]; congr; simp; omega)
theorem refArity_ok (hF : E.fns = fnsT) (hm : E.mode f_phasorref06_Arity = .iso false) (hmi : E.mode f_phasorref06_Is = .iso false) {k : Int} : CallO E f_phasorref06_Arity [aint k] L fun v L' => v = aint (arity k) ∧ L' = L := by
  refine callO_iso0 hm (fns_of hF n_phasorref06_Arity) (vs_bare rfl vs_nil) ?_
  refine bodyO_of (Nat.le_of_ble_eq_true rfl) ?_; generalize ht : argSlots _ 0 .nil = t; have h0 : t.get 0 = some _ := (by rw [← ht]; rfl); clear ht
  repeat (first | intro id | refine goq ?_)
  refine gok ?_
  refine (Is_ok hF hmi).mono ?_
  rintro v L' ⟨rfl, rfl⟩
  have : arity k = if k < 1 ∨ 20 < k then 0 else if k ≤ 10 then 1 else if k ≤ 17 then 2 else 3 := rfl
  by_cases h : arity k = 0
  · rw [decide_eq_false (by simpa using h)]
    repeat (first | intro id | refine goq ?_)
    ((first | apply retO_r | apply retO_n); (focus (exact resq)))
    exact ⟨rfl, by rw [h]; rfl⟩
  · rw [decide_eq_true h]
    repeat' (first | intro id | refine goq ?_ | (refine oo_guard (by exact slotq) (fun hc => ?_) (fun hc => ?_) <;> (fail_if_success (exact absurd hc (by decide))) <;> rw [hc] <;> (try simp only [decide_eq_true_eq, decide_eq_false_iff_not, ne_eq, Decidable.not_not] at hc)) | (refine wo_cond_if (by exact slotq) (fun hc => ?_) (fun hc => ?_) <;> (try simp only [decide_eq_true_eq, decide_eq_false_iff_not, ne_eq, Decidable.not_not] at hc)) | ((first | apply retO_r | apply retO_n); (focus (exact resq))))
    all_goals (refine ⟨rfl, ?_⟩; simp only [resultV]; congr; split at this <;> omega)
end Go.Proofs.Ytfaphhcloanhnaa
namespace Go.Proofs.Ytfaphhcloanhnaa
open Go.Am
set_option maxRecDepth 4000
set_option maxHeartbeats 4000000
variable {E : Env} {L : Hp}
theorem Qs_snoc {n : Int} {l : List Int} {k : Nat} (h : ∀ i, i < k → okAt n l i) (hk : okAt n l k) : ∀ i, i < k + 1 → okAt n l i := by
  intro i hi
  by_cases e : i = k
  · subst e; exact hk
  · exact h i (by omega)
theorem gcheck_loop (hF : E.fns = fnsT) (hmc : E.mode f_slices_Contains_int_int = .iso false) (hmi : E.mode f_slices_Index_int_int = .iso false) {v : AVal} {qs : List Int} {n : Int} (hq : SlI v qs) (hlt : qs.length < 2 ^ 62) :
    ∀ (d k : Nat) (t : Tr AVal), d + k = qs.length → t.get 1 = some v → t.get 2 = some (aint n) → t.get 17 = some v → t.get 18 = some (aint qs.length) → t.get 19 = some (aint k) → (∀ i, i < k → okAt n qs i) →
    WpO E (.loop c_gate_Check_l0) t L (fun ex t' L' => (ex = .exit 0 ∧ Qs n qs) ∨ (ex = .ret ∧ t'.get 6 = some (aint 61) ∧ ¬ Qs n qs)) := by
  intro d
  induction d with
  | zero =>
    intro k t hk h1 h2 h17 h18 h19 hok
    obtain rfl : k = qs.length := by omega
    refine wo_loop ?_
    repeat (first | intro id | refine goq ?_)
    exact .inl ⟨rfl, hok⟩
  | succ d ih =>
    intro k t hk h1 h2 h17 h18 h19 hok
    have hkl : k < qs.length := by omega
    have hat := okAt_iff (n := n) hkl
    have hbad : ¬ okAt n qs k → ¬ Qs n qs := fun h hh => h (hh k hkl)
    refine wo_loop ?_
    by_cases c1 : qs.getD k 0 < 0
    · repeat (first | intro id | refine goq ?_)
      exact .inr ⟨rfl, by exact slotq, hbad fun h => by have := hat.1 h; omega⟩
    by_cases c2 : n ≤ qs.getD k 0
    · repeat (first | intro id | refine goq ?_)
      exact .inr ⟨rfl, by exact slotq, hbad fun h => by have := hat.1 h; omega⟩
    repeat (first | intro id | refine goq ?_)
    refine gok ?_
    have hh := hiI_is hq (Nat.le_of_lt hkl)
    refine (contains_ok hF hmc hmi (vs_bare (bare_SlI hh) (vs_bare rfl vs_nil)) hh (by rw [List.length_take]; omega)).mono ?_
    rintro r L' ⟨rfl, rfl⟩
    by_cases c3 : qs.getD k 0 ∈ qs.take k
    · rw [decide_eq_true c3]
      repeat (first | intro id | refine goq ?_)
      exact .inr ⟨rfl, by exact slotq, hbad fun h => (hat.1 h).2.2 c3⟩
    · rw [decide_eq_false c3]
      repeat (first | intro id | refine goq ?_)
      exact ih (k + 1) _ (by omega) (by exact slotq) (by exact slotq) (by exact slotq) (by exact slotq) (by exact slotq) (Qs_snoc hok (hat.2 ⟨by omega, by omega, c3⟩))
theorem gCheck_ok (hF : E.fns = fnsT) (hm : E.mode f_gate_Check = .iso false) (hma : E.mode f_gate_Arity = .iso false) (hmo : E.mode f_gate_of = .iso false) (hmt : E.mode f_gate_table = .iso false) (hmc : E.mode f_slices_Contains_int_int = .iso false) (hmi : E.mode f_slices_Index_int_int = .iso false)
    {k n : Int} {v : AVal} {qs : List Int} (hq : SlI v qs) (hlt : qs.length < 2 ^ 62) : CallO E f_gate_Check [aint k, v, aint n] L fun r L' => (∃ e, r = aint e ∧ gateE k qs n e) ∧ L' = L := by
  refine callO_iso0 (R := fun r => ∃ e, r = aint e ∧ gateE k qs n e) hm (fns_of hF n_gate_Check) (vs_bare rfl (vs_bare (bare_SlI hq) (vs_bare rfl vs_nil))) ?_
  have hq1 := RowA.isOne hq
  refine bodyO_of (Nat.le_of_ble_eq_true rfl) ?_; generalize ht : argSlots _ 0 .nil = t; have h0 : t.get 0 = some _ := (by rw [← ht]; rfl); have h1 : t.get 1 = some _ := (by rw [← ht]; rfl); have h2 : t.get 2 = some _ := (by rw [← ht]; rfl); clear ht
  repeat (first | intro id | refine goq ?_)
  refine gok ?_
  refine (Arity_ok hF hma hmo hmt).mono ?_
  rintro r L' ⟨rfl, rfl⟩
  by_cases h0 : arity k = 0
  · repeat (first | intro id | refine goq ?_)
    ((first | apply retO_r | apply retO_n); (focus (exact resq)))
    exact ⟨rfl, 60, rfl, .inr (.inl ⟨rfl, h0⟩)⟩
  repeat (first | intro id | refine goq ?_)
  refine gok ?_
  refine (Arity_ok hF hma hmo hmt).mono ?_
  rintro r L' ⟨rfl, rfl⟩
  by_cases h1 : (qs.length : Int) = arity k
  · repeat (first | intro id | refine goq ?_)
    refine WpO.mono (gcheck_loop hF hmc hmi hq hlt qs.length 0 _ (by omega) (by exact slotq) (by exact slotq) (by exact slotq) (by exact slotq) (by exact slotq) (fun i hi => by omega)) ?_
    rintro ex t' L' (⟨rfl, hQ⟩ | ⟨rfl, g6, hQ⟩)
    · repeat (first | intro id | refine goq ?_)
      ((first | apply retO_r | apply retO_n); (focus (exact resq)))
      exact ⟨rfl, 0, rfl, .inl ⟨rfl, h0, h1, hQ⟩⟩
    · repeat (first | intro id | refine goq ?_)
      ((first | apply retO_r | apply retO_n); (focus (exact resq)))
      exact ⟨rfl, 61, rfl, .inr (.inr ⟨rfl, h0, fun h => hQ h.2⟩)⟩
  · repeat (first | intro id | refine goq ?_)
    ((first | apply retO_r | apply retO_n); (focus (exact resq)))
    exact ⟨rfl, 61, rfl, .inr (.inr ⟨rfl, h0, fun h => h1 h.1⟩)⟩

/-! The document's way -/
theorem rcheck_l0 {v : AVal} {qs : List Int} {n : Int} (hq : SlI v qs) {i : Nat} (hi : i < qs.length) (hlt : qs.length < 2 ^ 62) :
    ∀ (d k : Nat) (t : Tr AVal), d + k = i → t.get 1 = some v → t.get 7 = some (aint i) → t.get 8 = some (aint k) → (∀ j, j < k → qs.getD j 0 ≠ qs.getD i 0) →
    WpO E (.loop c_phasorref06_Check_l0) t L (fun ex t' L' => (ex = .exit 2 ∧ L' = L ∧ Keep [1, 2, 7] t t' ∧ (∀ j, j < i → qs.getD j 0 ≠ qs.getD i 0)) ∨ (ex = .ret ∧ t'.get 6 = some (aint 61) ∧ ¬ (∀ j, j < i → qs.getD j 0 ≠ qs.getD i 0))) := by
  intro d
  induction d with
  | zero =>
    intro k t hk h1 h7 h8 hok
    obtain rfl : k = i := by omega
    refine wo_loop ?_
    repeat (first | intro id | refine goq ?_)
    exact .inl ⟨rfl, rfl, by exact keepq, hok⟩
  | succ d ih =>
    intro k t hk h1 h7 h8 hok
    refine wo_loop ?_
    by_cases c : qs.getD k 0 = qs.getD i 0
    · have c' := c.symm
      repeat (first | intro id | refine goq ?_)
      exact .inr ⟨rfl, by exact slotq, fun h => h k (by omega) c⟩
    · repeat (first | intro id | refine goq ?_)
      refine WpO.mono (ih (k + 1) _ (by omega) (by exact slotq) (by exact slotq) (by exact slotq) ?_) ?_
      · intro j hj
        by_cases e : j = k
        · subst e; exact c
        · exact hok j (by omega)
      · rintro ex t' L' (⟨e1, e0, e2, e3⟩ | h)
        · exact .inl ⟨e1, e0, Keep.trans (by exact keepq) e2, e3⟩
        · exact .inr h
theorem rcheck_l1 {v : AVal} {qs : List Int} {n : Int} (hq : SlI v qs) (hlt : qs.length < 2 ^ 62) :
    ∀ (d k : Nat) (t : Tr AVal), d + k = qs.length → t.get 1 = some v → t.get 2 = some (aint n) → t.get 7 = some (aint k) → (∀ i, i < k → okAt n qs i) →
    WpO E (.loop c_phasorref06_Check_l1) t L (fun ex t' L' => (ex = .exit 0 ∧ Qs n qs) ∨ (ex = .ret ∧ t'.get 6 = some (aint 61) ∧ ¬ Qs n qs)) := by
  intro d
  induction d with
  | zero =>
    intro k t hk h1 h2 h7 hok
    obtain rfl : k = qs.length := by omega
    refine wo_loop ?_
    repeat (first | intro id | refine goq ?_)
    exact .inl ⟨rfl, hok⟩
  | succ d ih =>
    intro k t hk h1 h2 h7 hok
    have hkl : k < qs.length := by omega
    have hbad : ¬ okAt n qs k → ¬ Qs n qs := fun h hh => h (hh k hkl)
    refine wo_loop ?_
    by_cases c1 : qs.getD k 0 < 0
    · repeat (first | intro id | refine goq ?_)
      exact .inr ⟨rfl, by exact slotq, hbad fun h => by have := h.1; omega⟩
    by_cases c2 : n ≤ qs.getD k 0
    · repeat (first | intro id | refine goq ?_)
      exact .inr ⟨rfl, by exact slotq, hbad fun h => by have := h.2.1; omega⟩
    repeat (first | intro id | refine goq ?_)
    refine WpO.mono (rcheck_l0 (n := n) hq hkl hlt k 0 _ (by omega) ?_ ?_ ?_ (fun j hj => by omega)) ?_
    · exact slotq
    · exact slotq
    · exact slotq
    rintro ex t' L' (⟨rfl, rfl, hK, hno⟩ | ⟨rfl, g6, hno⟩)
    · have g1 : t'.get 1 = some v := (hK.ex 1 rfl).trans (by exact slotq)
      have g2 : t'.get 2 = some (aint n) := (hK.ex 2 rfl).trans (by exact slotq)
      have g7 : t'.get 7 = some (aint k) := (hK.ex 7 rfl).trans (by exact slotq)
      repeat (first | intro id | refine goq ?_)
      exact ih (k + 1) _ (by omega) (by exact slotq) (by exact slotq) (by exact slotq) (Qs_snoc hok ⟨by omega, by omega, hno⟩)
    · repeat (first | intro id | refine goq ?_)
      exact .inr ⟨rfl, by exact slotq, hbad fun h => hno h.2.2⟩
theorem rCheck_ok (hF : E.fns = fnsT) (hm : E.mode f_phasorref06_Check = .iso false) (hma : E.mode f_phasorref06_Arity = .iso false) (hmi : E.mode f_phasorref06_Is = .iso false)
    {k n : Int} {v : AVal} {qs : List Int} (hq : SlI v qs) (hlt : qs.length < 2 ^ 62) : CallO E f_phasorref06_Check [aint k, v, aint n] L fun r L' => (∃ e, r = aint e ∧ gateE k qs n e) ∧ L' = L := by
  refine callO_iso0 (R := fun r => ∃ e, r = aint e ∧ gateE k qs n e) hm (fns_of hF n_phasorref06_Check) (vs_bare rfl (vs_bare (bare_SlI hq) (vs_bare rfl vs_nil))) ?_
  have hq1 := RowA.isOne hq
  refine bodyO_of (Nat.le_of_ble_eq_true rfl) ?_; generalize ht : argSlots _ 0 .nil = t; have h0 : t.get 0 = some _ := (by rw [← ht]; rfl); have h1 : t.get 1 = some _ := (by rw [← ht]; rfl); have h2 : t.get 2 = some _ := (by rw [← ht]; rfl); clear ht
  repeat (first | intro id | refine goq ?_)
  refine gok ?_
  refine (Is_ok hF hmi).mono ?_
  rintro r L' ⟨rfl, rfl⟩
  by_cases h0 : arity k = 0
  · rw [decide_eq_false (by simpa using h0)]
    repeat (first | intro id | refine goq ?_)
    ((first | apply retO_r | apply retO_n); (focus (exact resq)))
    exact ⟨rfl, 60, rfl, .inr (.inl ⟨rfl, h0⟩)⟩
  rw [decide_eq_true h0]
  repeat (first | intro id | refine goq ?_)
  refine gok ?_
  refine (refArity_ok hF hma hmi).mono ?_
  rintro r L' ⟨rfl, rfl⟩
  by_cases h1 : (qs.length : Int) = arity k
  · repeat (first | intro id | refine goq ?_)
    refine WpO.mono (rcheck_l1 hq hlt qs.length 0 _ (by omega) (by exact slotq) (by exact slotq) (by exact slotq) (fun i hi => by omega)) ?_
    rintro ex t' L' (⟨rfl, hQ⟩ | ⟨rfl, g6, hQ⟩)
    · repeat (first | intro id | refine goq ?_)
      ((first | apply retO_r | apply retO_n); (focus (exact resq)))
      exact ⟨rfl, 0, rfl, .inl ⟨rfl, h0, h1, hQ⟩⟩
    · repeat (first | intro id | refine goq ?_)
      ((first | apply retO_r | apply retO_n); (focus (exact resq)))
      exact ⟨rfl, 61, rfl, .inr (.inr ⟨rfl, h0, fun h => hQ h.2⟩)⟩
  · repeat (first | intro id | refine goq ?_)
    ((first | apply retO_r | apply retO_n); (focus (exact resq)))
    exact ⟨rfl, 61, rfl, .inr (.inr ⟨rfl, h0, fun h => h1 h.1⟩)⟩
/-! Unlike numbers -/
theorem unlike_l0 {v : AVal} {qs : List Int} {n : Int} (hq : SlI v qs) {i : Nat} (hi : i < qs.length) (hlt : qs.length < 2 ^ 62) :
    ∀ (d k : Nat) (t : Tr AVal), d + k = i → t.get 0 = some v → t.get 5 = some (aint i) → t.get 6 = some (aint k) → (∀ j, j < k → qs.getD j 0 ≠ qs.getD i 0) →
    WpO E (.loop c_phasorref08_unlike_l0) t L (fun ex t' L' => (ex = .exit 2 ∧ L' = L ∧ Keep [0, 1, 5] t t' ∧ (∀ j, j < i → qs.getD j 0 ≠ qs.getD i 0)) ∨ (ex = .ret ∧ t'.get 4 = some (abool false) ∧ ¬ (∀ j, j < i → qs.getD j 0 ≠ qs.getD i 0))) := by
  intro d
  induction d with
  | zero =>
    intro k t hk h0 h5 h6 hok
    obtain rfl : k = i := by omega
    refine wo_loop ?_
    repeat (first | intro id | refine goq ?_)
    exact .inl ⟨rfl, rfl, by exact keepq, hok⟩
  | succ d ih =>
    intro k t hk h0 h5 h6 hok
    refine wo_loop ?_
    by_cases c : qs.getD k 0 = qs.getD i 0
    · repeat (first | intro id | refine goq ?_)
      exact .inr ⟨rfl, by exact slotq, fun h => h k (by omega) c⟩
    · repeat (first | intro id | refine goq ?_)
      refine WpO.mono (ih (k + 1) _ (by omega) (by exact slotq) (by exact slotq) (by exact slotq) ?_) ?_
      · intro j hj
        by_cases e : j = k
        · subst e; exact c
        · exact hok j (by omega)
      · rintro ex t' L' (⟨e1, e0, e2, e3⟩ | h)
        · exact .inl ⟨e1, e0, Keep.trans (by exact keepq) e2, e3⟩
        · exact .inr h
theorem unlike_l1 {v : AVal} {qs : List Int} {n : Int} (hq : SlI v qs) (hlt : qs.length < 2 ^ 62) :
    ∀ (d k : Nat) (t : Tr AVal), d + k = qs.length → t.get 0 = some v → t.get 1 = some (aint n) → t.get 5 = some (aint k) → (∀ i, i < k → okAt n qs i) →
    WpO E (.loop c_phasorref08_unlike_l1) t L (fun ex t' L' => (ex = .exit 0 ∧ Qs n qs) ∨ (ex = .ret ∧ t'.get 4 = some (abool false) ∧ ¬ Qs n qs)) := by
  intro d
  induction d with
  | zero =>
    intro k t hk h0 h1 h5 hok
    obtain rfl : k = qs.length := by omega
    refine wo_loop ?_
    repeat (first | intro id | refine goq ?_)
    exact .inl ⟨rfl, hok⟩
  | succ d ih =>
    intro k t hk h0 h1 h5 hok
    have hkl : k < qs.length := by omega
    have hbad : ¬ okAt n qs k → ¬ Qs n qs := fun h hh => h (hh k hkl)
    refine wo_loop ?_
    by_cases c1 : qs.getD k 0 < 0
    · repeat (first | intro id | refine goq ?_)
      exact .inr ⟨rfl, by exact slotq, hbad fun h => by have := h.1; omega⟩
    by_cases c2 : n ≤ qs.getD k 0
    · repeat (first | intro id | refine goq ?_)
      exact .inr ⟨rfl, by exact slotq, hbad fun h => by have := h.2.1; omega⟩
    repeat (first | intro id | refine goq ?_)
    refine WpO.mono (unlike_l0 (n := n) hq hkl hlt k 0 _ (by omega) ?_ ?_ ?_ (fun j hj => by omega)) ?_
    · exact slotq
    · exact slotq
    · exact slotq
    rintro ex t' L' (⟨rfl, rfl, hK, hno⟩ | ⟨rfl, g4, hno⟩)
    · have g0 : t'.get 0 = some v := (hK.ex 0 rfl).trans (by exact slotq)
      have g1 : t'.get 1 = some (aint n) := (hK.ex 1 rfl).trans (by exact slotq)
      have g5 : t'.get 5 = some (aint k) := (hK.ex 5 rfl).trans (by exact slotq)
      repeat (first | intro id | refine goq ?_)
      exact ih (k + 1) _ (by omega) (by exact slotq) (by exact slotq) (by exact slotq) (Qs_snoc hok ⟨by omega, by omega, hno⟩)
    · repeat (first | intro id | refine goq ?_)
      exact .inr ⟨rfl, by exact slotq, hbad fun h => hno h.2.2⟩
theorem unlike_ok (hF : E.fns = fnsT) (hm : E.mode f_phasorref08_unlike = .iso false) {n : Int} {v : AVal} {qs : List Int} (hq : SlI v qs) (hlt : qs.length < 2 ^ 62) : CallO E f_phasorref08_unlike [v, aint n] L fun r L' => (∃ b, r = abool b ∧ (b = true ↔ Qs n qs)) ∧ L' = L := by
  refine callO_iso0 (R := fun r => ∃ b, r = abool b ∧ (b = true ↔ Qs n qs)) hm (fns_of hF n_phasorref08_unlike) (vs_bare (bare_SlI hq) (vs_bare rfl vs_nil)) ?_
  have hq1 := RowA.isOne hq
  refine bodyO_of (Nat.le_of_ble_eq_true rfl) ?_; generalize ht : argSlots _ 0 .nil = t; have h0 : t.get 0 = some _ := (by rw [← ht]; rfl); have h1 : t.get 1 = some _ := (by rw [← ht]; rfl); clear ht
  repeat (first | intro id | refine goq ?_)
  refine WpO.mono (unlike_l1 hq hlt qs.length 0 _ (by omega) (by exact slotq) (by exact slotq) (by exact slotq) (fun i hi => by omega)) ?_
  rintro ex t' L' (⟨rfl, hQ⟩ | ⟨rfl, g4, hQ⟩)
  · repeat (first | intro id | refine goq ?_)
    ((first | apply retO_r | apply retO_n); (focus (exact resq)))
    exact ⟨rfl, true, rfl, by simp [hQ]⟩
  · repeat (first | intro id | refine goq ?_)
    ((first | apply retO_r | apply retO_n); (focus (exact resq)))
    exact ⟨rfl, false, rfl, by simp [hQ]⟩
end Go.Proofs.Ytfaphhcloanhnaa
