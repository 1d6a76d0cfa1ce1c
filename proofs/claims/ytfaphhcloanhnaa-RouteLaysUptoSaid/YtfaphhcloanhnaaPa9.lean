/- Parts of the proof, joined by program: RtC1, RtC9, CiCD, CiCC, AmRep. -/
import Derived.Test.YtfaphhcloanhnaaPa8
import Derived.Test.YtfaphhcloanhnaaPa0
import Derived.Calls
set_option linter.unusedSimpArgs false
set_option linter.unusedVariables false
namespace Go.Proofs.Ytfaphhcloanhnaa
open Go.Am
set_option maxRecDepth 4000
set_option maxHeartbeats 4000000
variable {E : Env} {L : Hp}

theorem num_ok (hF : E.fns = fnsT) (hm : E.mode f_phasorlaw20_num = .iso false) (n : Int) : CallO E f_phasorlaw20_num [aint n] L fun v L' => v = aint n ∧ L' = L := by
  refine callO_iso0 hm (fns_of hF n_phasorlaw20_num) (vs_bare rfl vs_nil) ?_
  refine bodyO_of (Nat.le_of_ble_eq_true rfl) ?_; generalize ht : argSlots _ 0 .nil = t; have h0 : t.get 0 = some _ := (by rw [← ht]; rfl); clear ht
  repeat (first | intro id | refine goc ?_)
  ((first | apply retO_r | apply retO_n); (focus (exact resq)))
  exact ⟨rfl, rfl⟩

theorem drop_eq {α : Type} (z : α) {la lb : List α} {k : Nat} (hl : la.length = lb.length) (hk : k < la.length) : la.drop k = lb.drop k ↔ la.getD k z = lb.getD k z ∧ la.drop (k + 1) = lb.drop (k + 1) := by
  have hk' : k < lb.length := by omega
  have e1 := List.drop_eq_getElem_cons hk
  have e2 := List.drop_eq_getElem_cons hk'
  constructor
  · intro h
    rw [e1, e2] at h
    obtain ⟨h1, h2⟩ := List.cons.inj h
    exact ⟨by simpa [hk, hk'] using h1, h2⟩
  · rintro ⟨h1, h2⟩
    rw [e1, e2]
    simp only [List.cons.injEq]
    exact ⟨by simpa [hk, hk'] using h1, h2⟩

theorem ints_loop (la lb : List Int) (va vb : AVal) (ha : SlI va la) (hb : SlI vb lb) (hl : la.length = lb.length) (hlt : la.length < 2 ^ 62) : ∀ (d k : Nat) (t : Tr AVal), d + k = la.length → t.get 0 = some va → t.get 1 = some vb → t.get 5 = some (aint k) →
    WpO E (.loop c_phasorlaw20_ints_l0) t L (fun ex t' _ => (ex = .exit 0 ∧ la.drop k = lb.drop k) ∨ (ex = .ret ∧ t'.get 4 = some (abool false) ∧ la.drop k ≠ lb.drop k)) := by
  intro d
  induction d with
  | zero =>
    intro k t hk h0 h1 h5
    refine wo_loop ?_
    repeat (first | intro id | refine goc ?_)
    refine wo_cond_if (by exact slotq) (fun hc => ?_) (fun hc => ?_) <;> (try simp only [decide_eq_true_eq, decide_eq_false_iff_not, ne_eq, Decidable.not_not] at hc)
    · omega
    · repeat (first | intro id | refine goc ?_)
      refine .inl ⟨rfl, ?_⟩
      rw [List.drop_of_length_le (by omega), List.drop_of_length_le (by omega)]
  | succ d ih =>
    intro k t hk h0 h1 h5
    refine wo_loop ?_
    have hde := drop_eq 0 hl (show k < la.length by omega)
    repeat (first | intro id | refine goc ?_)
    refine wo_cond_if (by exact slotq) (fun hc => ?_) (fun hc => ?_) <;> (try simp only [decide_eq_true_eq, decide_eq_false_iff_not, ne_eq, Decidable.not_not] at hc)
    · repeat (first | intro id | refine goc ?_)
      refine wo_cond_if (by exact slotq) (fun hc => ?_) (fun hc => ?_) <;> (try simp only [decide_eq_true_eq, decide_eq_false_iff_not, ne_eq, Decidable.not_not] at hc)
      · repeat (first | intro id | refine goc ?_)
        exact .inr ⟨rfl, by simp [Tr.get_set, abool], fun he => hc (hde.1 he).1⟩
      · repeat (first | intro id | refine goc ?_)
        refine (ih (k + 1) _ (by omega) (by exact slotq) (by exact slotq) (by exact slotq)).mono fun ex t' L' hq => ?_
        rw [hc] at hde
        simp only [true_and] at hde
        simp only [ne_eq, hde]
        exact hq
    · omega

theorem ints_ok (hF : E.fns = fnsT) (hm : E.mode f_phasorlaw20_ints = .iso false) {a b va vb : AVal} {la lb : List Int} (hv : ViewsO L [a, b] [va, vb]) (ha : SlI va la) (hb : SlI vb lb) (hlt : la.length < 2 ^ 62) :
    CallO E f_phasorlaw20_ints [a, b] L fun v L' => v = abool (decide (la = lb)) ∧ L' = L := by
  refine callO_iso0 hm (fns_of hF n_phasorlaw20_ints) hv ?_
  refine bodyO_of (Nat.le_of_ble_eq_true rfl) ?_; generalize ht : argSlots _ 0 .nil = t; have h0 : t.get 0 = some _ := (by rw [← ht]; rfl); have h1 : t.get 1 = some _ := (by rw [← ht]; rfl); clear ht
  repeat (first | intro id | refine goc ?_)
  refine wo_cond_if (by exact slotq) (fun hc => ?_) (fun hc => ?_) <;> (try simp only [decide_eq_true_eq, decide_eq_false_iff_not, ne_eq, Decidable.not_not] at hc)
  · repeat (first | intro id | refine goc ?_)
    ((first | apply retO_r | apply retO_n); (focus (exact resq)))
    refine ⟨rfl, ?_⟩
    have : la ≠ lb := by rintro rfl; exact hc rfl
    simp [this, resultV, abool]
  · have hl : la.length = lb.length := by omega
    repeat (first | intro id | refine goc ?_)
    refine (ints_loop la lb va vb ha hb hl hlt la.length 0 _ (by omega) (by exact slotq) (by exact slotq) (by exact slotq)).mono fun ex t' L' hq => ?_
    obtain ⟨rfl, hq2⟩ | ⟨rfl, hq2, hq3⟩ := hq
    · simp only [List.drop_zero] at hq2
      repeat (first | intro id | refine goc ?_)
      ((first | apply retO_r | apply retO_n); (focus (exact resq)))
      exact ⟨rfl, by simp [hq2, resultV, abool]⟩
    · simp only [List.drop_zero] at hq3
      repeat (first | intro id | refine goc ?_)
      ((first | apply retO_r | apply retO_n); (focus (exact resq)))
      exact ⟨rfl, by simp [hq3, resultV, abool]⟩

/-! Maps compared -/
end Go.Proofs.Ytfaphhcloanhnaa
namespace Go.Proofs.Ytfaphhcloanhnaa
open Go.Am
set_option maxRecDepth 4000
set_option maxHeartbeats 4000000
variable {E : Env} {L : Hp}
/-- Where x lies first. -/
structure IdxI (l : List Int) (x i : Int) : Prop where
  lo : i = -1 ∨ 0 ≤ i
  no : i < 0 → ∀ j, j < l.length → l.getD j 0 ≠ x
  yes : 0 ≤ i → i.toNat < l.length ∧ l.getD i.toNat 0 = x ∧ ∀ j, j < i.toNat → l.getD j 0 ≠ x
theorem IdxI.mem {l : List Int} {x i : Int} (h : IdxI l x i) : 0 ≤ i ↔ x ∈ l := by
  constructor
  · intro h0
    obtain ⟨h1, h2, _⟩ := h.yes h0
    rw [← h2, List.getD_eq_getElem?_getD, List.getElem?_eq_getElem h1]
    exact List.getElem_mem h1
  · intro hm
    obtain ⟨j, hj, e⟩ := List.getElem_of_mem hm
    rcases h.lo with h1 | h1
    · refine absurd ?_ (h.no (by omega) j hj)
      rw [List.getD_eq_getElem?_getD, List.getElem?_eq_getElem hj]
      exact e
    · exact h1
theorem index_loop {x : Int} {v : AVal} {l : List Int} (hv : SlI v l) (hlt : l.length < 2 ^ 62) : ∀ (d k : Nat) (t : Tr AVal), d + k = l.length → t.get 0 = some v → t.get 1 = some (aint x) → t.get 7 = some (aint l.length) → t.get 8 = some (aint k) → (∀ j, j < k → l.getD j 0 ≠ x) →
    WpO E (.loop c_slices_Index_int_int_l0) t L (fun ex t' L' => L' = L ∧ ((ex = .exit 0 ∧ ∀ j, j < l.length → l.getD j 0 ≠ x) ∨ (ex = .ret ∧ ∃ i, t'.get 4 = some (aint i) ∧ IdxI l x i))) := by
  intro d
  induction d with
  | zero =>
    intro k t hk h0 h1 h7 h8 hno
    refine wo_loop ?_
    repeat (first | intro id | refine goq ?_)
    exact ⟨rfl, .inl ⟨rfl, fun j hj => hno j (by omega)⟩⟩
  | succ d ih =>
    intro k t hk h0 h1 h7 h8 hno
    refine wo_loop ?_
    repeat (first | intro id | refine goq ?_)
    refine wo_cond_if (by exact slotq) (fun hc => ?_) (fun hc => ?_) <;> (try simp only [decide_eq_true_eq, decide_eq_false_iff_not, ne_eq, Decidable.not_not] at hc)
    · repeat (first | intro id | refine goq ?_)
      exact ⟨rfl, .inr ⟨rfl, k, by exact slotq, .inr (by omega), fun h => by omega, fun _ => ⟨by omega, hc.symm, fun j hj => hno j (by omega)⟩⟩⟩
    · repeat (first | intro id | refine goq ?_)
      refine ih (k + 1) _ ?_ ?_ ?_ ?_ ?_ ?_
      · omega
      · exact slotq
      · exact slotq
      · exact slotq
      · exact slotq
      · intro j hj
        by_cases e : j = k
        · subst e; exact fun h => hc h.symm
        · exact hno j (by omega)
theorem index_ok (hF : E.fns = fnsT) (hm : E.mode f_slices_Index_int_int = .iso false) {a v : AVal} {l : List Int} {x : Int} (hw : ViewsO L [a] [v]) (hv : SlI v l) (hlt : l.length < 2 ^ 62) :
    CallO E f_slices_Index_int_int [a, aint x] L fun r L' => (∃ i, r = aint i ∧ IdxI l x i) ∧ L' = L := by
  refine callO_iso0 (R := fun r => ∃ i, r = aint i ∧ IdxI l x i) (vs := [v, aint x]) hm (fns_of hF n_slices_Index_int_int) ⟨fun m hm => ?_⟩ ?_
  · have := hw.ex m hm
    simp only [viewAll] at this ⊢
    split at this
    · rename_i h1 h2
      simp only [Option.some.injEq, List.cons.injEq] at this
      rename_i q1 q2
      cases h2
      rw [h1]
      simp only [this.1]
      rfl
    · simp at this
  refine bodyO_of (Nat.le_of_ble_eq_true rfl) ?_; generalize ht : argSlots _ 0 .nil = t; have h0 : t.get 0 = some _ := (by rw [← ht]; rfl); have h1 : t.get 1 = some _ := (by rw [← ht]; rfl); clear ht
  repeat (first | intro id | refine goq ?_)
  refine WpO.mono (index_loop (x := x) hv hlt l.length 0 _ (by omega) ?_ ?_ ?_ ?_ (fun j hj => by omega)) ?_
  · exact slotq
  · exact slotq
  · exact slotq
  · exact slotq
  rintro ex t1 L' ⟨rfl, ⟨rfl, hno⟩ | ⟨rfl, i, h4, hi⟩⟩
  · repeat (first | intro id | refine goq ?_)
    ((first | apply retO_r | apply retO_n); (focus (exact resq)))
    exact ⟨rfl, -1, rfl, .inl rfl, fun _ => hno, fun h => by omega⟩
  ·
    repeat (first | intro id | refine goq ?_)
    ((first | apply retO_r | apply retO_n); (focus (exact resq)))
    exact ⟨rfl, i, rfl, hi⟩
theorem contains_ok (hF : E.fns = fnsT) (hm : E.mode f_slices_Contains_int_int = .iso false) (hmi : E.mode f_slices_Index_int_int = .iso false) {a v : AVal} {l : List Int} {x : Int} (hw : ViewsO L [a, aint x] [v, aint x]) (hv : SlI v l) (hlt : l.length < 2 ^ 62) :
    CallO E f_slices_Contains_int_int [a, aint x] L fun r L' => r = abool (decide (x ∈ l)) ∧ L' = L := by
  refine callO_iso0 hm (fns_of hF n_slices_Contains_int_int) hw ?_
  refine bodyO_of (Nat.le_of_ble_eq_true rfl) ?_; generalize ht : argSlots _ 0 .nil = t; have h0 : t.get 0 = some _ := (by rw [← ht]; rfl); have h1 : t.get 1 = some _ := (by rw [← ht]; rfl); clear ht
  repeat (first | intro id | refine goq ?_)
  refine gok ?_
  refine (index_ok hF hmi (vs_bare (bare_SlI hv) vs_nil) hv hlt).mono ?_
  rintro r L' ⟨⟨i, rfl, hi⟩, rfl⟩
  repeat (first | intro id | refine goq ?_)
  ((first | apply retO_r | apply retO_n); (focus (exact resq)))
  refine ⟨rfl, ?_⟩
  have e : decide (0 ≤ i) = decide (x ∈ l) := by
    by_cases hx : x ∈ l
    · rw [decide_eq_true hx, decide_eq_true (hi.mem.2 hx)]
    · rw [decide_eq_false hx, decide_eq_false fun h => hx (hi.mem.1 h)]
  rw [← e]
  rfl
end Go.Proofs.Ytfaphhcloanhnaa
namespace Go.Proofs.Ytfaphhcloanhnaa
open Go.Am
set_option maxRecDepth 4000
structure OpD where
  kind : Int
  gate : Int
  qs : List Int
  bit : Int
  ifc : Int
  whn : Int
  deriving DecidableEq, Inhabited
structure CircD where
  qubits : Int
  bits : Int
  ops : List OpD
  deriving DecidableEq, Inhabited
def opCells (q : AVal) (o : OpD) : List AVal := [aint o.kind, aint o.gate, q, aint o.bit, aint o.ifc, aint o.whn]
/-- The cells of a row of operations. -/
inductive OpsC : List AVal → List OpD → Prop where
  | nil : OpsC [] []
  | cons {q : AVal} {o : OpD} {cs : List AVal} {os : List OpD} (hq : SlI q o.qs) (hb : o.qs.length < 2 ^ 62) (h : OpsC cs os) : OpsC (opCells q o ++ cs) (o :: os)
def OpsA (v : AVal) (os : List OpD) : Prop := ∃ cs, RowA v cs os.length ∧ OpsC cs os ∧ os.length < 2 ^ 62
def CircA (v : AVal) (c : CircD) : Prop := ∃ s, v = .agg [aint c.qubits, aint c.bits, s] ∧ OpsA s c.ops
theorem OpsC.length {cs : List AVal} {os : List OpD} (h : OpsC cs os) : cs.length = os.length * 6 := by
  induction h with
  | nil => rfl
  | cons hq hb h ih => simp only [opCells, List.cons_append, List.nil_append, List.length_cons, ih]; omega
/-- One operation out of a row. -/
structure OpAt (cs : List AVal) (k : Nat) (q : AVal) (o : OpD) : Prop where
  hq : SlI q o.qs
  b : o.qs.length < 2 ^ 62
  lt : k * 6 < cs.length
  seg : seg (cs.drop (k * 6)) 0 6 = some (opCells q o)
  f0 : (cs.drop (k * 6))[0]? = some (aint o.kind)
  f1 : ((cs.drop (k * 6)).drop 1)[0]? = some (aint o.gate)
  f2 : ((cs.drop (k * 6)).drop 2)[0]? = some q
  f3 : ((cs.drop (k * 6)).drop 3)[0]? = some (aint o.bit)
  f4 : ((cs.drop (k * 6)).drop 4)[0]? = some (aint o.ifc)
  f5 : ((cs.drop (k * 6)).drop 5)[0]? = some (aint o.whn)
  l6 : 6 ≤ (cs.drop (k * 6)).length
theorem OpsC.at {cs : List AVal} {os : List OpD} (h : OpsC cs os) : ∀ {k : Nat}, k < os.length → ∃ q, OpAt cs k q (os.getD k default) := by
  induction h with
  | nil => intro k hk; simp at hk
  | @cons q o cs os hq hb h ih =>
    intro k hk
    cases k with
    | zero =>
      refine ⟨q, ?_⟩
      have hl : (opCells q o ++ cs).length = cs.length + 6 := by simp [opCells]
      constructor <;> simp_all [opCells, Am.seg]
    | succ k =>
      obtain ⟨q', h1⟩ := ih (k := k) (by simpa using hk)
      have e : (opCells q o ++ cs).drop ((k + 1) * 6) = cs.drop (k * 6) := by
        have : (k + 1) * 6 = (opCells q o).length + k * 6 := by simp [opCells]; omega
        rw [this, List.drop_append, Nat.add_sub_cancel_left, List.drop_of_length_le (by omega), List.nil_append]
      refine ⟨q', ?_⟩
      have e2 : (o :: os).getD (k + 1) default = os.getD k default := by simp
      rw [e2]
      have hl : (opCells q o ++ cs).length = cs.length + 6 := by simp [opCells]
      exact ⟨h1.hq, h1.b, by rw [hl]; have := h1.lt; omega, by rw [e]; exact h1.seg, by rw [e]; exact h1.f0, by rw [e]; exact h1.f1, by rw [e]; exact h1.f2, by rw [e]; exact h1.f3, by rw [e]; exact h1.f4, by rw [e]; exact h1.f5, by rw [e]; exact h1.l6⟩
theorem OpsC.getE {cs : List AVal} {os : List OpD} {k : Nat} (h : OpsC cs os) (hk : k < os.length) : ∃ q, SlI q (os.getD k default).qs ∧ (os.getD k default).qs.length < 2 ^ 62 ∧ k * 6 < cs.length ∧ Am.seg (cs.drop (k * 6)) 0 6 = some (opCells q (os.getD k default)) := by
  obtain ⟨q, ha⟩ := h.at hk
  exact ⟨q, ha.hq, ha.b, ha.lt, ha.seg⟩
theorem OpsC.bare {cs : List AVal} {os : List OpD} (h : OpsC cs os) : ∀ c ∈ cs, c.bare = true := by
  induction h with
  | nil => intro c hc; simp at hc
  | @cons q o cs os hq hb h ih =>
    intro c hc
    simp only [opCells, List.cons_append, List.nil_append, List.mem_cons] at hc
    rcases hc with rfl | rfl | rfl | rfl | rfl | rfl | hc
    · rfl
    · rfl
    · exact bare_SlI hq
    · rfl
    · rfl
    · rfl
    · exact ih c hc
theorem OpsA.bare {v : AVal} {os : List OpD} (h : OpsA v os) : v.bare = true := by
  obtain ⟨cs, h1, h2, -⟩ := h
  exact bare_Row h1 h2.bare
theorem CircA.bare {v : AVal} {c : CircD} (h : CircA v c) : v.bare = true := by
  obtain ⟨s, rfl, h⟩ := h
  simp [AVal.bare, bareAll, aint, h.bare]

/-! What may be -/
def okAt (n : Int) (l : List Int) (i : Nat) : Prop := 0 ≤ l.getD i 0 ∧ l.getD i 0 < n ∧ ∀ j, j < i → l.getD j 0 ≠ l.getD i 0
def Qs (n : Int) (l : List Int) : Prop := ∀ i, i < l.length → okAt n l i
def arity (k : Int) : Int := if k < 1 ∨ 20 < k then 0 else if k ≤ 10 then 1 else if k ≤ 17 then 2 else 3
/-- Which error: no kind, wires that may not be, none. -/
def gateE (k : Int) (l : List Int) (n e : Int) : Prop := (e = 0 ∧ arity k ≠ 0 ∧ (l.length : Int) = arity k ∧ Qs n l) ∨ (e = 60 ∧ arity k = 0) ∨ (e = 61 ∧ arity k ≠ 0 ∧ ¬((l.length : Int) = arity k ∧ Qs n l))
def condOk (o : OpD) (b : Int) : Prop := (o.ifc = -1 ∧ o.whn = 0) ∨ (0 ≤ o.ifc ∧ o.ifc < b ∧ (o.whn = 0 ∨ o.whn = 1))
def OpOk (o : OpD) (n b : Int) : Prop :=
  (o.kind = 1 ∧ arity o.gate ≠ 0 ∧ (o.qs.length : Int) = arity o.gate ∧ Qs n o.qs ∧ o.bit = 0 ∧ condOk o b) ∨
  (o.kind = 2 ∧ o.gate = 0 ∧ o.ifc = -1 ∧ o.whn = 0 ∧ o.qs.length = 1 ∧ Qs n o.qs ∧ 0 ≤ o.bit ∧ o.bit < b) ∨
  (o.kind = 3 ∧ o.gate = 0 ∧ o.ifc = -1 ∧ o.whn = 0 ∧ o.qs.length = 1 ∧ Qs n o.qs ∧ o.bit = 0) ∨
  (o.kind = 4 ∧ o.gate = 0 ∧ o.ifc = -1 ∧ o.whn = 0 ∧ o.qs.length ≠ 0 ∧ Qs n o.qs ∧ o.bit = 0)
structure CircOk (c : CircD) : Prop where
  q0 : 0 ≤ c.qubits
  q1 : c.qubits ≤ 64
  b0 : 0 ≤ c.bits
  b1 : c.bits ≤ 64
  len : c.ops.length ≤ 4096
  ok : ∀ k, k < c.ops.length → OpOk (c.ops.getD k default) c.qubits c.bits
theorem mem_take_iff {l : List Int} {x : Int} {k : Nat} (hk : k ≤ l.length) : x ∈ l.take k ↔ ∃ j, j < k ∧ l.getD j 0 = x := by
  rw [List.mem_take_iff_getElem]
  constructor
  · rintro ⟨j, hj, e⟩
    exact ⟨j, by omega, by simp [List.getD_eq_getElem?_getD, List.getElem?_eq_getElem (show j < l.length by omega), e]⟩
  · rintro ⟨j, hj, e⟩
    exact ⟨j, by omega, by simpa [List.getD_eq_getElem?_getD, List.getElem?_eq_getElem (show j < l.length by omega)] using e⟩
theorem okAt_iff {n : Int} {l : List Int} {k : Nat} (hk : k < l.length) : okAt n l k ↔ 0 ≤ l.getD k 0 ∧ l.getD k 0 < n ∧ l.getD k 0 ∉ l.take k := by
  unfold okAt
  rw [mem_take_iff (by omega)]
  constructor
  · rintro ⟨h1, h2, h3⟩
    exact ⟨h1, h2, fun ⟨j, hj, e⟩ => h3 j hj e⟩
  · rintro ⟨h1, h2, h3⟩
    exact ⟨h1, h2, fun j hj e => h3 ⟨j, hj, e⟩⟩
end Go.Proofs.Ytfaphhcloanhnaa
namespace Go.Proofs.Ytfaphhcloanhnaa
open Go.Am
set_option maxRecDepth 4000
set_option maxHeartbeats 8000000
variable {E : Env} {L : Hp}
/-- A slice of numbers in a box of its own, or nil. -/
def OwnI (u : AVal) (l : List Int) (B : Hp) : Prop := (u = anil ∧ l = [] ∧ B = []) ∨ ∃ id cap, u = .sl id 0 l.length 1 cap ∧ B = [(id, l.map aint)]
theorem OwnI.isOne {u : AVal} {l : List Int} {B : Hp} (h : OwnI u l B) : u.one = true := by
  rcases h with ⟨rfl, -, -⟩ | ⟨id, cap, rfl, -⟩ <;> rfl
theorem OwnI.view {u : AVal} {l : List Int} {B M : Hp} (h : OwnI u l B) (k : Nat) (hM : ∀ id c, In id c B → In id c M) : ∃ q, ViewO M (k + 2) u q ∧ SlI q l := by
  rcases h with ⟨rfl, rfl, rfl⟩ | ⟨id, cap, rfl, rfl⟩
  · exact ⟨anil, vo_sc, .inl ⟨rfl, rfl, rfl⟩⟩
  · exact ⟨.rs (l.map aint) l.length cap, vo_sl (hM _ _ .here) (by rw [Nat.mul_one]; exact seg_full (by simp)) (vl_sc (sc_ints l)), .inr ⟨cap, rfl⟩⟩
inductive OpsB : List AVal → List OpD → Hp → Prop where
  | nil : OpsB [] [] []
  | snoc {cs : List AVal} {os : List OpD} {H B : Hp} {u : AVal} {o : OpD} (h : OpsB cs os H) (hq : OwnI u o.qs B) (hb : o.qs.length < 2 ^ 62) : OpsB (cs ++ opCells u o) (os ++ [o]) (H ++ B)
def CircO (v : AVal) (c : CircD) (B : Hp) : Prop := ∃ s cs Bs H, v = .agg [aint c.qubits, aint c.bits, s] ∧ BufO 6 s cs c.ops.length Bs ∧ OpsB cs c.ops H ∧ c.ops.length < 2 ^ 62 ∧ B = Bs ++ H
theorem OpsC.snoc {cs : List AVal} {os : List OpD} {q : AVal} {o : OpD} (h : OpsC cs os) (hq : SlI q o.qs) (hb : o.qs.length < 2 ^ 62) : OpsC (cs ++ opCells q o) (os ++ [o]) := by
  induction h with
  | nil => have := OpsC.cons hq hb .nil; simpa using this
  | cons hq' hb' h ih => rw [List.append_assoc]; exact .cons hq' hb' ih
theorem OpsB.view {cs : List AVal} {os : List OpD} {H M : Hp} (h : OpsB cs os H) (k : Nat) (hM : ∀ id c, In id c H → In id c M) : ∃ us, ViewL M (k + 2) cs us ∧ OpsC us os := by
  induction h with
  | nil => exact ⟨[], vl_nil, .nil⟩
  | @snoc cs os H B u o h hq hb ih =>
    obtain ⟨us, h1, h2⟩ := ih fun id c hi => hM id c hi.appl
    obtain ⟨q, h3, h4⟩ := hq.view k fun id c hi => hM id c hi.app
    refine ⟨us ++ opCells q o, vl_app h1 ?_, h2.snoc h4 hb⟩
    exact vl_cons vo_sc (vl_cons vo_sc (vl_cons h3 (vl_cons vo_sc (vl_cons vo_sc (vl_cons vo_sc vl_nil)))))
theorem bufInv {esz n : Nat} {v : AVal} {cs : List AVal} {B : Hp} (h : BufO esz v cs n B) : (v = anil ∧ cs = [] ∧ n = 0 ∧ B = []) ∨ ∃ id, v = .sl id 0 n esz none ∧ B = [(id, cs)] := by
  cases h with
  | nil => exact .inl ⟨rfl, rfl, rfl, rfl⟩
  | box _ _ => exact .inr ⟨_, rfl, rfl⟩
theorem CircO.view {v : AVal} {c : CircD} {B M : Hp} (h : CircO v c B) (k : Nat) (hM : ∀ id c, In id c B → In id c M) : ∃ u, ViewO M (k + 4) v u ∧ CircA u c := by
  obtain ⟨s, cs, Bs, H, rfl, hb, ho, hlt, rfl⟩ := h
  obtain ⟨us, h1, h2⟩ := ho.view k fun id c hi => hM id c hi.app
  have hlen := hb.length
  rcases bufInv hb with ⟨rfl, rfl, e, rfl⟩ | ⟨id, rfl, rfl⟩
  · have h3 := h2.length
    rw [e] at h3
    have h4 : us = [] := List.eq_nil_of_length_eq_zero (by simpa using h3)
    exact ⟨.agg [aint c.qubits, aint c.bits, anil], vo_agg (vl_cons vo_sc (vl_cons vo_sc (vl_cons vo_sc vl_nil))), anil, rfl, us, .inl ⟨rfl, e, h4⟩, h2, hlt⟩
  · exact ⟨_, vo_agg (vl_cons vo_sc (vl_cons vo_sc (vl_cons (vo_sl (hM _ _ (In.appl .here)) (seg_full hlen) h1) vl_nil))), _, rfl, us, .inr ⟨none, rfl⟩, h2, hlt⟩
/-- Of a size that can be. -/
structure Small (c : CircD) : Prop where
  ops : c.ops.length ≤ 1000000
  qs : ∀ k, k < c.ops.length → (c.ops.getD k default).qs.length ≤ 2000000
theorem Clone_open (hF : E.fns = fnsT) (hm : E.mode f_slices_Clone_int_int = .open_) {v : AVal} {l : List Int} (hv : SlI v l) (hl : l.length ≤ 2000000) : CallO E f_slices_Clone_int_int [v] L fun r L' => ∃ B, OwnI r l B ∧ L' = B ++ L := by
  refine CallO.to (callO_open hm (fns_of hF n_slices_Clone_int_int) ?_)
  have hv1 := RowA.isOne hv
  rcases hv with ⟨rfl, h0, h1⟩ | ⟨cap, rfl⟩
  · have : l = [] := List.eq_nil_of_length_eq_zero h0
    subst this
    refine bodyO_of (Nat.le_of_ble_eq_true rfl) ?_; generalize ht : argSlots _ 0 .nil = t; have h0 : t.get 0 = some _ := (by rw [← ht]; rfl); clear ht
    repeat (first | intro id | refine goq ?_)
    ((first | apply retO_r | apply retO_n); (focus (exact resq)))
    exact ⟨_, by exact subq, [], .inl ⟨rfl, rfl, rfl⟩, rfl⟩
  · have hrow : RowA (.rs (l.map aint) l.length cap) (l.map aint) l.length := .inr ⟨cap, rfl⟩
    refine bodyO_of (Nat.le_of_ble_eq_true rfl) ?_; generalize ht : argSlots _ 0 .nil = t; have h0 : t.get 0 = some _ := (by rw [← ht]; rfl); clear ht
    repeat (first | intro id | refine goq ?_)
    by_cases hl0 : l.length = 0
    · have : l = [] := List.eq_nil_of_length_eq_zero hl0
      subst this
      refine oo_append0 wanted_none (by exact slotq) rfl (by exact slotq) rfl ?_
      repeat (first | intro id | refine goq ?_)
      ((first | apply retO_r | apply retO_n); (focus (exact resq)))
      exact ⟨_, by exact subq, [(id, [])], .inr ⟨id, some 0, rfl, rfl⟩, rfl⟩
    · refine oo_appendF wanted_none (by exact slotq) .here (old := []) rfl rfl (by exact slotq) hrow (by omega) (by simp) (all_one_ints _) (by omega) (by omega) ?_
      intro id2
      repeat (first | intro id | refine goq ?_)
      ((first | apply retO_r | apply retO_n); (focus (exact resq)))
      exact ⟨_, by exact subq, [(id2, l.map aint)], .inr ⟨id2, none, by simp [resultV], rfl⟩, rfl⟩
theorem OpsB.one {cs : List AVal} {os : List OpD} {H : Hp} (h : OpsB cs os H) : cs.length = os.length * 6 := by
  induction h with
  | nil => rfl
  | snoc h hq hb ih => simp only [List.length_append, ih, opCells, List.length_cons, List.length_nil]; omega
theorem takeO_snoc {os : List OpD} {k : Nat} (hk : k < os.length) : os.take (k + 1) = os.take k ++ [os.getD k default] := by
  rw [List.take_succ_eq_append_getElem hk]
  simp [hk]
/-- The program's copy, round by round. -/
theorem ccopy_l0 (hF : E.fns = fnsT) (hmc : E.mode f_slices_Clone_int_int = .open_) {c : CircD} {s : AVal} {cs0 : List AVal} {i3 : Nat} (hr : RowA s cs0 c.ops.length) (hcs : OpsC cs0 c.ops) (hsm : Small c) :
    ∀ (d k : Nat) (t : Tr AVal) (a : AVal) (cs : List AVal) (B H : Hp), d + k = c.ops.length → t.get 3 = some (.ptr i3 0) → t.get 12 = some s → t.get 13 = some (aint c.ops.length) → t.get 14 = some (aint k) → BufO 6 a cs k B → OpsB cs (c.ops.take k) H →
    WpO E (.loop c_circuit_Copy_l0) t ((i3, [aint c.qubits, aint c.bits, a]) :: (B ++ (H ++ L))) (fun ex t' L' => ex = .exit 0 ∧ Keep [1, 2, 3] t t' ∧ ∃ a' cs' B' H', BufO 6 a' cs' c.ops.length B' ∧ OpsB cs' c.ops H' ∧ L' = (i3, [aint c.qubits, aint c.bits, a']) :: (B' ++ (H' ++ L))) := by
  have hs1 := RowA.isOne hr
  have hsm1 := hsm.ops
  intro d
  induction d with
  | zero =>
    intro k t a cs B H hk h3 h12 h13 h14 hb ho
    obtain rfl : k = c.ops.length := by omega
    refine wo_loop ?_
    repeat (first | intro id | refine goq ?_)
    rw [List.take_length] at ho
    exact ⟨rfl, by exact keepq, a, cs, B, H, hb, ho, rfl⟩
  | succ d ih =>
    intro k t a cs B H hk h3 h12 h13 h14 hb ho
    have hkl : k < c.ops.length := by omega
    obtain ⟨q, hq, hqb, hlt6, hseg⟩ := hcs.getE hkl
    have hql := hsm.qs k hkl
    have htk := takeO_snoc hkl
    generalize c.ops.getD k default = o at *
    have hq1 := RowA.isOne hq
    have ha1 := hb.isOne
    unfold opCells at hseg
    refine wo_loop ?_
    repeat (first | intro id | refine goq ?_)
    refine gok ?_
    refine (Clone_open hF hmc hq hql).mono ?_
    rintro u L' ⟨C, hu, rfl⟩
    have hu1 := hu.isOne
    repeat (first | intro id | refine goq ?_)
    have hb2 := hb.pushed (id := id) (nw := opCells u o) rfl (by simp only [opCells, List.all_cons, List.all_nil, hu1, Bool.and_true]; rfl)
    have ho2 := ho.snoc hu hqb
    rw [← htk] at ho2
    refine WpO.weak (WpO.mono (ih (k + 1) _ _ _ _ _ (by omega) ?_ ?_ ?_ ?_ hb2 ho2) ?_) ?_
    · exact slotq
    · exact slotq
    · exact slotq
    · exact slotq
    · rintro ex t' L' ⟨e1, e2, e3⟩
      exact ⟨e1, Keep.trans (by exact keepq) e2, e3⟩
    · rw [List.append_assoc]
      exact subq
/-- The program's copy: in boxes of its own. -/
theorem CCopy_open (hF : E.fns = fnsT) (hm : E.mode f_circuit_Copy = .open_) (hmc : E.mode f_slices_Clone_int_int = .open_) {c : CircD} {v : AVal} (hv : CircA v c) (hsm : Small c) : CallO E f_circuit_Copy [v] L fun r L' => ∃ B, CircO r c B ∧ L' = B ++ L := by
  refine CallO.to (callO_open hm (fns_of hF n_circuit_Copy) ?_)
  obtain ⟨s, rfl, cs, hr, hcs, hlt⟩ := hv
  have hs1 := RowA.isOne hr
  refine bodyO_of (Nat.le_of_ble_eq_true rfl) ?_; generalize ht : argSlots _ 0 .nil = t; have h0 : t.get 0 = some _ := (by rw [← ht]; rfl); clear ht
  repeat (first | intro id | refine goq ?_)
  rename_i i2
  refine WpO.mono (ccopy_l0 hF hmc hr hcs hsm c.ops.length 0 _ anil [] [] [] (by omega) ?_ ?_ ?_ ?_ .nil .nil) ?_
  · exact slotq
  · exact slotq
  · exact slotq
  · exact slotq
  rintro ex t' L' ⟨rfl, hK, a', cs', B', H', hb, ho, rfl⟩
  have g2 : t'.get 2 = some (.ptr i2 0) := (hK.ex 2 rfl).trans (by exact slotq)
  have g3 : t'.get 3 = some (.ptr id 0) := (hK.ex 3 rfl).trans (by exact slotq)
  have ha1 := hb.isOne
  repeat (first | intro id | refine goq ?_)
  ((first | apply retO_r | apply retO_n); (focus (exact resq)))
  exact ⟨B' ++ (H' ++ L), by exact subq, B' ++ H', ⟨a', cs', B', H', rfl, hb, ho, hlt, rfl⟩, (List.append_assoc _ _ _).symm⟩
/-- The document's copy, round by round. -/
theorem rcopy_l0 {c : CircD} {s : AVal} {cs0 : List AVal} {i1 i3 : Nat} (hr : RowA s cs0 c.ops.length) (hcs : OpsC cs0 c.ops) (hsm : Small c) :
    ∀ (d k : Nat) (t : Tr AVal) (a : AVal) (cs : List AVal) (B H : Hp), d + k = c.ops.length → t.get 1 = some (.ptr i1 0) → t.get 3 = some (.ptr i3 0) → t.get 4 = some (aint k) → BufO 6 a cs k B → OpsB cs (c.ops.take k) H →
    WpO E (.loop c_phasorref08_Copy_l0) t ((i3, [aint c.qubits, aint c.bits, a]) :: (i1, [aint c.qubits, aint c.bits, s]) :: (B ++ (H ++ L))) (fun ex t' L' => ex = .exit 0 ∧ Keep [1, 2, 3] t t' ∧ ∃ a' cs' B' H', BufO 6 a' cs' c.ops.length B' ∧ OpsB cs' c.ops H' ∧ L' = (i3, [aint c.qubits, aint c.bits, a']) :: (i1, [aint c.qubits, aint c.bits, s]) :: (B' ++ (H' ++ L))) := by
  have hs1 := RowA.isOne hr
  have hsm1 := hsm.ops
  intro d
  induction d with
  | zero =>
    intro k t a cs B H hk h1 h3 h4 hb ho
    obtain rfl : k = c.ops.length := by omega
    refine wo_loop ?_
    repeat (first | intro id | refine goq ?_)
    rw [List.take_length] at ho
    exact ⟨rfl, by exact keepq, a, cs, B, H, hb, ho, rfl⟩
  | succ d ih =>
    intro k t a cs B H hk h1 h3 h4 hb ho
    have hkl : k < c.ops.length := by omega
    obtain ⟨q, hq, hqb, hlt6, hseg⟩ := hcs.getE hkl
    have hql := hsm.qs k hkl
    have htk := takeO_snoc hkl
    generalize c.ops.getD k default = o at *
    have hq1 := RowA.isOne hq
    have ha1 := hb.isOne
    unfold opCells at hseg
    refine wo_loop ?_
    repeat (first | intro id | refine goq ?_)
    refine oo_appendR wanted_none (by exact slotq) .nil (by exact slotq) hq .nil (by simp) (all_one_ints _) (by omega) (by omega) ?_
    intro u C hu
    have hu1 := hu.isOne
    have hown : OwnI u o.qs C := by
      rcases bufInv hu with ⟨rfl, e1, e2, rfl⟩ | ⟨id, rfl, rfl⟩
      · have : o.qs = [] := List.eq_nil_of_length_eq_zero (by omega)
        exact .inl ⟨rfl, this, rfl⟩
      · exact .inr ⟨id, none, by simp, by simp⟩
    repeat (first | intro id | refine goq ?_)
    have hb2 := hb.pushed (id := id) (nw := opCells u o) rfl (by simp only [opCells, List.all_cons, List.all_nil, hu1, Bool.and_true]; rfl)
    have ho2 := ho.snoc hown hqb
    rw [← htk] at ho2
    refine WpO.weak (WpO.mono (ih (k + 1) _ _ _ _ _ (by omega) ?_ ?_ ?_ hb2 ho2) ?_) ?_
    · exact slotq
    · exact slotq
    · exact slotq
    · rintro ex t' L' ⟨e1, e2, e3⟩
      exact ⟨e1, Keep.trans (by exact keepq) e2, e3⟩
    · rw [List.append_assoc]
      exact subq
theorem RCopy_ok (hF : E.fns = fnsT) (hm : E.mode f_phasorref08_Copy = .iso true) {c : CircD} {v : AVal} (hv : CircA v c) (hsm : Small c) : CallO E f_phasorref08_Copy [v] L fun r L' => CircA r c ∧ L' = L := by
  refine callO_iso1 (R := fun r => CircA r c) hm (fns_of hF n_phasorref08_Copy) (by simp [hv.bare]) ?_
  obtain ⟨s, rfl, cs, hr, hcs, hlt⟩ := hv
  have hs1 := RowA.isOne hr
  refine bodyO_of (Nat.le_of_ble_eq_true rfl) ?_; generalize ht : argSlots _ 0 .nil = t; have h0 : t.get 0 = some _ := (by rw [← ht]; rfl); clear ht
  repeat (first | intro id | refine goq ?_)
  rename_i i1 i2
  refine WpO.weak (WpO.mono (rcopy_l0 (L := [(i2, [aint 0, aint 0, anil])]) (i1 := i1) (i3 := id) hr hcs hsm c.ops.length 0 _ anil [] [] [] (by omega) ?_ ?_ ?_ .nil .nil) ?_) ?_
  · exact slotq
  · exact slotq
  · exact slotq
  · rintro ex t' L' ⟨rfl, hK, a', cs', B', H', hb, ho, rfl⟩
    have g2 : t'.get 2 = some (.ptr i2 0) := (hK.ex 2 rfl).trans (by exact slotq)
    have g3 : t'.get 3 = some (.ptr id 0) := (hK.ex 3 rfl).trans (by exact slotq)
    have ha1 := hb.isOne
    repeat (first | intro id | refine goq ?_)
    ((first | apply retO_r | apply retO_n); (focus (exact resq)))
    have hcirc : CircO (.agg [aint c.qubits, aint c.bits, a']) c (B' ++ H') := ⟨a', cs', B', H', rfl, hb, ho, hlt, rfl⟩
    refine hcirc.view 60 (fun id c hi => ?_)
    repeat (first | (rw [← List.append_assoc]; exact hi.appl) | apply In.next)
  · simp only [List.nil_append]
    exact subq
end Go.Proofs.Ytfaphhcloanhnaa
namespace Go.Am

/-- Where boxes lie: block, first cell. -/
abbrev Inj := Nat → Option (Nat × Nat)

inductive Rep (ι : Inj) (S : Nat → Prop) (w : World) : AVal → Value → Prop
  | sc {v a : Value} (h : scal v = some a) : Rep ι S w (.sc a) v
  | ptr {id off b o : Nat} (h : ι id = some (b, o)) : Rep ι S w (.ptr id off) (.pointer (some ⟨b, o + off, none⟩))
  | ro {cells : List AVal} {a : Addr} (vs : Nat → Value) (hs : 0 < cells.length → a.spot = none ∧ S a.block)
      (hc : ∀ j, j < cells.length → w.cell? ⟨a.block, a.off + j, none⟩ = some (vs j))
      (hr : ∀ (j : Nat) c, cells[j]? = some c → Rep ι S w c (vs j)) (ho : ∀ c ∈ cells, c.one = true) : Rep ι S w (.ro cells) (.pointer (some a))
  | sl {id off len esz : Nat} {cap : Option Nat} {b o c : Nat} {a : Addr} (h : ι id = some (b, o)) (hl : len ≤ c) (hk : ∀ k, cap = some k → c = k)
      (ha : c ≠ 0 → a = ⟨b, o + off, none⟩)
      (hroom : c ≠ 0 → ∃ cs el, w.heap[b]? = some (.cells cs el (0, 0)) ∧ o + off + c * esz ≤ cs.size) : Rep ι S w (.sl id off len esz cap) (.slice (some a) len c)
  | rs {cells : List AVal} {len : Nat} {cap : Option Nat} {a : Addr} {c : Nat} (vs : Nat → Value) (hl : len ≤ c) (hk : ∀ k, cap = some k → c = k)
      (hs : 0 < cells.length → a.spot = none ∧ S a.block)
      (hc : ∀ j, j < cells.length → w.cell? ⟨a.block, a.off + j, none⟩ = some (vs j))
      (hr : ∀ (j : Nat) c, cells[j]? = some c → Rep ι S w c (vs j)) (ho : ∀ c ∈ cells, c.one = true) : Rep ι S w (.rs cells len cap) (.slice (some a) len c)
  | mp {id b o : Nat} (h : ι id = some (b, o)) : Rep ι S w (.mp id) (.map (some b))
  | fn {f : Fn} {first cap : List AVal} {vf vc : Array Value} (h1 : first.length = vf.size) (h2 : cap.length = vc.size)
      (hf : ∀ (j : Nat) c v, first[j]? = some c → vf[j]? = some v → Rep ι S w c v) (hc : ∀ (j : Nat) c v, cap[j]? = some c → vc[j]? = some v → Rep ι S w c v) : Rep ι S w (.fn f first cap) (.func f vf vc)
  | agg {cells : List AVal} {vs : Array Value} (hl : cells.length = vs.size) (hr : ∀ (j : Nat) c v, cells[j]? = some c → vs[j]? = some v → Rep ι S w c v) : Rep ι S w (.agg cells) (.agg vs)
  | tup {cells : List AVal} {vs : Array Value} (hl : cells.length = vs.size) (hr : ∀ (j : Nat) c v, cells[j]? = some c → vs[j]? = some v → Rep ι S w c v) : Rep ι S w (.tup cells) (.tuple vs)

def RepL (ι : Inj) (S : Nat → Prop) (w : World) (cs : List AVal) (vs : List Value) : Prop :=
  cs.length = vs.length ∧ ∀ (j : Nat) c v, cs[j]? = some c → vs[j]? = some v → Rep ι S w c v

/-! ### What a world keeps -/
def InjLe (ι ι' : Inj) : Prop := ∀ id p, ι id = some p → ι' id = some p
theorem InjLe.refl (ι : Inj) : InjLe ι ι := fun _ _ h => h
theorem InjLe.trans {a b c : Inj} (h : InjLe a b) (k : InjLe b c) : InjLe a c := fun id p hp => k id p (h id p hp)

structure WStep (owned : Nat → Prop) (w w' : World) : Prop where
  os : w'.os = w.os
  tape : w'.tape = w.tape
  output : w'.output = w.output
  size : w.heap.size ≤ w'.heap.size
  keep : ∀ (b : Nat), b < w.heap.size → ¬ owned b → w'.heap[b]? = w.heap[b]?
  shape : ∀ (b : Nat) cs el fr, w.heap[b]? = some (.cells cs el fr) → ∃ cs', w'.heap[b]? = some (.cells cs' el fr) ∧ cs'.size = cs.size

theorem lt_of_heap {w : World} {b : Nat} {o : Obj} (h : w.heap[b]? = some o) : b < w.heap.size := (Array.getElem?_eq_some_iff.1 h).1

theorem WStep.refl (owned : Nat → Prop) (w : World) : WStep owned w w := ⟨rfl, rfl, rfl, Nat.le_refl _, fun _ _ _ => rfl, fun _ cs _ _ h => ⟨cs, h, rfl⟩⟩
theorem WStep.mono {owned owned' : Nat → Prop} {w w' : World} (h : WStep owned w w') (ho : ∀ b, b < w.heap.size → owned b → owned' b) : WStep owned' w w' :=
  ⟨h.os, h.tape, h.output, h.size, fun b hb hn => h.keep b hb (fun k => hn (ho b hb k)), h.shape⟩
theorem WStep.trans {o1 o2 : Nat → Prop} {a b c : World} (h : WStep o1 a b) (k : WStep o2 b c) : WStep (fun x => o1 x ∨ (o2 x ∧ x < a.heap.size)) a c where
  os := k.os.trans h.os
  tape := k.tape.trans h.tape
  output := k.output.trans h.output
  size := Nat.le_trans h.size k.size
  keep := fun x hx hn => (k.keep x (Nat.lt_of_lt_of_le hx h.size) (fun e => hn (.inr ⟨e, hx⟩))).trans (h.keep x hx (fun e => hn (.inl e)))
  shape := fun x cs el fr hx => by
    obtain ⟨cs1, h1, e1⟩ := h.shape x cs el fr hx
    obtain ⟨cs2, h2, e2⟩ := k.shape x cs1 el fr h1
    exact ⟨cs2, h2, e2.trans e1⟩
/-- Orders, capacities and the like have been drawn. -/
theorem WStep.drawn_ (owned : Nat → Prop) (w : World) (n : Nat) : WStep owned w { w with drawn := n } := ⟨rfl, rfl, rfl, Nat.le_refl _, fun _ _ _ => rfl, fun _ cs _ _ h => ⟨cs, h, rfl⟩⟩
theorem cell?_of_heap {w w' : World} {a : Addr} (h : w'.heap[a.block]? = w.heap[a.block]?) : w'.cell? a = w.cell? a := by unfold World.cell?; rw [h]

theorem Rep.mono {ι ι' : Inj} {S S' : Nat → Prop} {w w' : World} {a : AVal} {v : Value} (h : Rep ι S w a v) (hι : InjLe ι ι') (hS : ∀ b, S b → S' b)
    (hk : ∀ (b : Nat), S b → w'.heap[b]? = w.heap[b]?)
    (hsh : ∀ (b : Nat) cs el fr, w.heap[b]? = some (.cells cs el fr) → ∃ cs', w'.heap[b]? = some (.cells cs' el fr) ∧ cs'.size = cs.size) : Rep ι' S' w' a v := by
  induction h with
  | sc h => exact .sc h
  | ptr h => exact .ptr (hι _ _ h)
  | ro vs hs hc hr ho ih => exact .ro vs (fun h => ⟨(hs h).1, hS _ (hs h).2⟩) (fun j hj => (cell?_of_heap (a := ⟨_, _, none⟩) (hk _ (hs (by omega)).2)).trans (hc j hj)) ih ho
  | sl h hl hk' ha hroom =>
    refine .sl (hι _ _ h) hl hk' ha (fun hc => ?_)
    obtain ⟨cs, el, hh, hr⟩ := hroom hc
    obtain ⟨cs', hh', e⟩ := hsh _ _ _ _ hh
    exact ⟨cs', el, hh', by omega⟩
  | rs vs hl hk' hs hc hr ho ih => exact .rs vs hl hk' (fun h => ⟨(hs h).1, hS _ (hs h).2⟩) (fun j hj => (cell?_of_heap (a := ⟨_, _, none⟩) (hk _ (hs (by omega)).2)).trans (hc j hj)) ih ho
  | mp h => exact .mp (hι _ _ h)
  | fn h1 h2 hf hc ih1 ih2 => exact .fn h1 h2 ih1 ih2
  | agg hl hr ih => exact .agg hl ih
  | tup hl hr ih => exact .tup hl ih

/-! ### The memory -/
def BoxAt (ι : Inj) (S : Nat → Prop) (w : World) (b o : Nat) : Box → Prop
  | .cells cs => ∃ (vs : Array Value) (el : TypeId), w.heap[b]? = some (.cells vs el (0, 0)) ∧ o + cs.length ≤ vs.size ∧ (∀ (j : Nat) c v, cs[j]? = some c → vs[o + j]? = some v → Rep ι S w c v) ∧ ∀ c ∈ cs, c.one = true
  | .map es clock => ∃ arr : Array MapEntry, w.heap[b]? = some (.map arr clock) ∧ arr.size = es.length ∧
      ∀ (j : Nat) k a n e, es[j]? = some (k, a, n) → arr[j]? = some e → e.born = n ∧ scal e.key = some k ∧ Rep ι S w a e.val

structure MRel (ι : Inj) (S : Nat → Prop) (H : Nat → Option Box) (w : World) : Prop where
  box : ∀ id bx, H id = some bx → ∃ b o, ι id = some (b, o) ∧ ¬ S b ∧ BoxAt ι S w b o bx
  apart : ∀ i j bi bj b o b' o', H i = some bi → H j = some bj → i ≠ j → ι i = some (b, o) → ι j = some (b', o') → b ≠ b'
  prot : ∀ b, S b → b < w.heap.size

/-- The blocks of the boxes. -/
def Own (ι : Inj) (H : Nat → Option Box) (b : Nat) : Prop := ∃ id bx o, H id = some bx ∧ ι id = some (b, o)

theorem MRel.notS {ι : Inj} {S : Nat → Prop} {H : Nat → Option Box} {w : World} (h : MRel ι S H w) {b : Nat} (hb : S b) : ¬ Own ι H b := by
  rintro ⟨id, bx, o, h1, h2⟩
  obtain ⟨b', o', h3, h4, _⟩ := h.box id bx h1
  rw [h2] at h3
  cases h3
  exact h4 hb

theorem BoxAt.lt {ι : Inj} {S : Nat → Prop} {w : World} {b o : Nat} {bx : Box} (h : BoxAt ι S w b o bx) : b < w.heap.size := by
  cases bx with
  | cells cs => obtain ⟨vs, el, h, _⟩ := h; exact lt_of_heap h
  | map es c => obtain ⟨arr, h, _⟩ := h; exact lt_of_heap h

theorem BoxAt.mono {ι ι' : Inj} {S S' : Nat → Prop} {w w' : World} {b o : Nat} {bx : Box} (h : BoxAt ι S w b o bx) (hι : InjLe ι ι') (hS : ∀ b, S b → S' b)
    (hk : ∀ (b : Nat), S b → w'.heap[b]? = w.heap[b]?)
    (hsh : ∀ (b : Nat) cs el fr, w.heap[b]? = some (.cells cs el fr) → ∃ cs', w'.heap[b]? = some (.cells cs' el fr) ∧ cs'.size = cs.size)
    (hb : w'.heap[b]? = w.heap[b]?) : BoxAt ι' S' w' b o bx := by
  cases bx with
  | cells cs =>
    obtain ⟨vs, el, h1, h2, h3, h4⟩ := h
    exact ⟨vs, el, by rw [hb]; exact h1, h2, fun j c v hc hv => (h3 j c v hc hv).mono hι hS hk hsh, h4⟩
  | map es c =>
    obtain ⟨arr, h1, h2, h3⟩ := h
    refine ⟨arr, by rw [hb]; exact h1, h2, fun j k a n e he hv => ?_⟩
    obtain ⟨h4, h5, h6⟩ := h3 j k a n e he hv
    exact ⟨h4, h5, h6.mono hι hS hk hsh⟩

/-- Fewer boxes. -/
theorem MRel.less {ι : Inj} {S : Nat → Prop} {H H' : Nat → Option Box} {w : World} (h : MRel ι S H w) (hs : ∀ id bx, H' id = some bx → H id = some bx) : MRel ι S H' w :=
  ⟨fun id bx hx => h.box id bx (hs id bx hx), fun i j bi bj b o b' o' h1 h2 => h.apart i j bi bj b o b' o' (hs _ _ h1) (hs _ _ h2), h.prot⟩

/-- No box's block has turned. -/
theorem MRel.still {ι ι' : Inj} {S : Nat → Prop} {H : Nat → Option Box} {w w' : World} (h : MRel ι S H w) (hι : InjLe ι ι') {owned : Nat → Prop} (hw : WStep owned w w') (ho : ∀ b, b < w.heap.size → owned b → False) : MRel ι' S H w' where
  box := fun id bx hx => by
    obtain ⟨b, o, h1, h2, h3⟩ := h.box id bx hx
    exact ⟨b, o, hι _ _ h1, h2, h3.mono hι (fun _ h => h) (fun b hb => hw.keep b (h.prot b hb) (ho b (h.prot b hb))) hw.shape (hw.keep b h3.lt (ho b h3.lt))⟩
  apart := fun i j bi bj b o b' o' h1 h2 hne h3 h4 => by
    obtain ⟨b1, o1, e1, _⟩ := h.box i bi h1
    obtain ⟨b2, o2, e2, _⟩ := h.box j bj h2
    have := hι _ _ e1
    rw [h3] at this; cases this
    have := hι _ _ e2
    rw [h4] at this; cases this
    exact h.apart i j bi bj _ _ _ _ h1 h2 hne e1 e2
  prot := fun b hb => Nat.lt_of_lt_of_le (h.prot b hb) hw.size

/-! ### Slots -/
def SRel (ι : Inj) (S : Nat → Prop) (w : World) (s : Nat → Option AVal) (tmps : Array Value) : Prop :=
  ∀ i a, s i = some a → ∃ v, tmps[i]? = some v ∧ Rep ι S w a v

theorem SRel.mono {ι ι' : Inj} {S S' : Nat → Prop} {w w' : World} {s : Nat → Option AVal} {tmps : Array Value} (h : SRel ι S w s tmps) (hι : InjLe ι ι') (hS : ∀ b, S b → S' b)
    (hk : ∀ (b : Nat), S b → w'.heap[b]? = w.heap[b]?)
    (hsh : ∀ (b : Nat) cs el fr, w.heap[b]? = some (.cells cs el fr) → ∃ cs', w'.heap[b]? = some (.cells cs' el fr) ∧ cs'.size = cs.size) : SRel ι' S' w' s tmps := by
  intro i a hi
  obtain ⟨v, h1, h2⟩ := h i a hi
  exact ⟨v, h1, h2.mono hι hS hk hsh⟩

/-! ### Cells -/
theorem Rep.one {ι : Inj} {S : Nat → Prop} {w : World} {a : AVal} {v : Value} (h : Rep ι S w a v) (ho : a.one = true) : v.cells = #[v] ∧ a.cells = [a] := by
  cases h with
  | sc h => refine ⟨?_, rfl⟩; cases v <;> simp_all [scal, Value.cells]
  | agg hl hr => simp [AVal.one] at ho
  | tup hl hr => simp [AVal.one] at ho
  | _ => exact ⟨rfl, rfl⟩
theorem Rep.cells {ι : Inj} {S : Nat → Prop} {w : World} {a : AVal} {v : Value} (h : Rep ι S w a v) : RepL ι S w a.cells v.cells.toList := by
  by_cases ho : a.one = true
  · obtain ⟨h1, h2⟩ := h.one ho
    rw [h1, h2]
    refine ⟨rfl, fun j c v' hc hv => ?_⟩
    cases j with
    | zero => simp at hc hv; subst hc hv; exact h
    | succ j => simp at hc
  · cases h <;> simp [AVal.one] at ho
    · rename_i cells vs hl hr
      refine ⟨by simpa [AVal.cells, Value.cells] using hl, fun j c v hc hv => hr j c v hc (by simpa [Value.cells] using hv)⟩
    · rename_i cells vs hl hr
      refine ⟨by simp [AVal.cells, Value.cells], fun j c v hc hv => ?_⟩
      cases j with
      | zero =>
        simp [AVal.cells, Value.cells] at hc hv
        subst hc hv
        exact .tup hl hr
      | succ j => simp [AVal.cells] at hc
theorem Rep.oneCell {ι : Inj} {S : Nat → Prop} {w : World} {a : AVal} {v : Value} (h : Rep ι S w a v) (ho : a.one = true) : ∀ x, v ≠ .agg x ∧ v ≠ .tuple x := by
  intro x
  cases h with
  | sc h => cases v <;> simp [scal] at h ⊢
  | agg hl hr => simp [AVal.one] at ho
  | tup hl hr => simp [AVal.one] at ho
  | _ => exact ⟨by simp, by simp⟩
end Go.Am
