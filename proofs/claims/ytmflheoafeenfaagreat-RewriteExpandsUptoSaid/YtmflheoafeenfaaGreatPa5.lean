/- Parts of the proof, joined by program: AmCode, AmWp. -/
import Derived.Test.YtmflheoafeenfaaGreatPa2
import Derived.Test.YtmflheoafeenfaaGreatPa3
import Derived.Test.YtmflheoafeenfaaGreatPa4
import Derived.KernelRfl
import Derived.Test.YtmflheoafeenfaaGreatPa1
set_option linter.unusedSimpArgs false
set_option linter.unusedVariables false
namespace Go.Proofs.YtmflheoafeenfaaGreat
open Go.Am
def tbl : List (FuncId × AFn) := [(f_phasorlaw18_RewriteExpands, c_phasorlaw18_RewriteExpands), (f_phasorref08_Copy, c_phasorref08_Copy), (f_rewrite_Cancel, c_rewrite_Cancel), (f_rewrite_Merge, c_rewrite_Merge), (f_rewrite_Simplify, c_rewrite_Simplify), (f_phasorlaw18_num, c_phasorlaw18_num), (f_phasorref08_Same, c_phasorref08_Same), (f_phasorlaw18_own, c_phasorlaw18_own), (f_phasorlaw18_alive, c_phasorlaw18_alive), (f_rewrite_Order, c_rewrite_Order), (f_rewrite_Reorders, c_rewrite_Reorders), (f_rewrite_Expand, c_rewrite_Expand), (f_phasorref18_Expand, c_phasorref18_Expand), (f_rewrite_used, c_rewrite_used), (f_rewrite_nothing, c_rewrite_nothing), (f_rewrite_inverse, c_rewrite_inverse), (f_phasorref08_May, c_phasorref08_May), (f_rewrite_compose, c_rewrite_compose), (f_phasorref08_SameOp, c_phasorref08_SameOp), (f_phasorlaw18_two, c_phasorlaw18_two), (f_phasorlaw18_op, c_phasorlaw18_op), (f_rewrite_Touch, c_rewrite_Touch), (f_circuit_Check, c_circuit_Check), (f_circuit_Copy, c_circuit_Copy), (f_rewrite_compare, c_rewrite_compare), (f_circuit_Same, c_circuit_Same), (f_rewrite_written, c_rewrite_written), (f_phasorref18_written, c_phasorref18_written), (f_rewrite_plain, c_rewrite_plain), (f_phasorref18_one, c_phasorref18_one), (f_gate_Matrix, c_gate_Matrix), (f_rewrite_partner, c_rewrite_partner), (f_slices_Clone_int_int, c_slices_Clone_int_int), (f_rewrite_without, c_rewrite_without), (f_rewrite_undoes, c_rewrite_undoes), (f_phasorref08_Check, c_phasorref08_Check), (f_slices_Equal_int_int, c_slices_Equal_int_int), (f_gate_Compose, c_gate_Compose), (f_phasorref08_ints, c_phasorref08_ints), (f_rewrite_asks, c_rewrite_asks), (f_slices_ContainsFunc_int_int, c_slices_ContainsFunc_int_int), (f_rewrite_Touch_1, c_rewrite_Touch_1), (f_slices_Contains_int_int, c_slices_Contains_int_int), (f_rewrite_Touch_2, c_rewrite_Touch_2), (f_circuit_may, c_circuit_may), (f_cmp_Or_int, c_cmp_Or_int), (f_cmp_Compare_api_OpKind, c_cmp_Compare_api_OpKind), (f_cmp_Compare_api_GateKind, c_cmp_Compare_api_GateKind), (f_slices_Compare_int_int, c_slices_Compare_int_int), (f_cmp_Compare_int, c_cmp_Compare_int), (f_slices_EqualFunc_api_Op_api_Op_api_Op_api_Op, c_slices_EqualFunc_api_Op_api_Op_api_Op_api_Op), (f_circuit_Same_1, c_circuit_Same_1), (f_rewrite_written_1, c_rewrite_written_1), (f_rewrite_written_2, c_rewrite_written_2), (f_slices_Concat_api_Op_api_Op, c_slices_Concat_api_Op_api_Op), (f_gate_Arity, c_gate_Arity), (f_gate_Halving, c_gate_Halving), (f_gate_halving, c_gate_halving), (f_gate_Moves, c_gate_Moves), (f_gate_power, c_gate_power), (f_gate_clean, c_gate_clean), (f_slices_Equal_complex128_complex128, c_slices_Equal_complex128_complex128), (f_gate_times, c_gate_times), (f_phasorref06_Is, c_phasorref06_Is), (f_phasorref06_Arity, c_phasorref06_Arity), (f_slices_Delete_api_Op_api_Op, c_slices_Delete_api_Op_api_Op), (f_slices_Clone_api_Op_api_Op, c_slices_Clone_api_Op_api_Op), (f_gate_Inverse, c_gate_Inverse), (f_rewrite_normal, c_rewrite_normal), (f_phasorref08_Op, c_phasorref08_Op), (f_gate_Kinds, c_gate_Kinds), (f_slices_IndexFunc_int_int, c_slices_IndexFunc_int_int), (f_slices_Index_int_int, c_slices_Index_int_int), (f_gate_Check, c_gate_Check), (f_cmp_isNaN_api_OpKind, c_cmp_isNaN_api_OpKind), (f_cmp_isNaN_api_GateKind, c_cmp_isNaN_api_GateKind), (f_cmp_isNaN_int, c_cmp_isNaN_int), (f_slices_Grow_api_Op_api_Op, c_slices_Grow_api_Op_api_Op), (f_gate_of, c_gate_of), (f_gate_Monomial, c_gate_Monomial), (f_gate_Moves_1, c_gate_Moves_1), (f_gate_Controls, c_gate_Controls), (f_gate_Moves_2, c_gate_Moves_2), (f_slices_Sort_int_int, c_slices_Sort_int_int), (f_phasorref06_Check, c_phasorref06_Check), (f_phasorref08_unlike, c_phasorref08_unlike), (f_gate_table, c_gate_table), (f_slices_pdqsortOrdered_int, c_slices_pdqsortOrdered_int), (f_bits_Len, c_bits_Len), (f_slices_insertionSortOrdered_int, c_slices_insertionSortOrdered_int), (f_slices_heapSortOrdered_int, c_slices_heapSortOrdered_int), (f_slices_breakPatternsOrdered_int, c_slices_breakPatternsOrdered_int), (f_slices_choosePivotOrdered_int, c_slices_choosePivotOrdered_int), (f_slices_reverseRangeOrdered_int, c_slices_reverseRangeOrdered_int), (f_slices_partialInsertionSortOrdered_int, c_slices_partialInsertionSortOrdered_int), (f_cmp_Less_int, c_cmp_Less_int), (f_slices_partitionEqualOrdered_int, c_slices_partitionEqualOrdered_int), (f_slices_partitionOrdered_int, c_slices_partitionOrdered_int), (f_bits_Len32, c_bits_Len32), (f_bits_Len64, c_bits_Len64), (f_slices_siftDownOrdered_int, c_slices_siftDownOrdered_int), (f_slices_nextPowerOfTwo, c_slices_nextPowerOfTwo), (f_slices_xorshift_Next, c_slices_xorshift_Next), (f_slices_medianAdjacentOrdered_int, c_slices_medianAdjacentOrdered_int), (f_slices_medianOrdered_int, c_slices_medianOrdered_int), (f_slices_order2Ordered_int, c_slices_order2Ordered_int)]
def fnsT (f : FuncId) : Option AFn := (tbl.find? fun p => p.1 == f).map (·.2)
theorem n_phasorlaw18_RewriteExpands : fnsT f_phasorlaw18_RewriteExpands = some c_phasorlaw18_RewriteExpands := by kernel_rfl
theorem n_phasorref08_Copy : fnsT f_phasorref08_Copy = some c_phasorref08_Copy := by kernel_rfl
theorem n_phasorlaw18_num : fnsT f_phasorlaw18_num = some c_phasorlaw18_num := by kernel_rfl
theorem n_phasorref08_Same : fnsT f_phasorref08_Same = some c_phasorref08_Same := by kernel_rfl
theorem n_phasorlaw18_own : fnsT f_phasorlaw18_own = some c_phasorlaw18_own := by kernel_rfl
theorem n_phasorlaw18_alive : fnsT f_phasorlaw18_alive = some c_phasorlaw18_alive := by kernel_rfl
theorem n_rewrite_Expand : fnsT f_rewrite_Expand = some c_rewrite_Expand := by kernel_rfl
theorem n_phasorref18_Expand : fnsT f_phasorref18_Expand = some c_phasorref18_Expand := by kernel_rfl
theorem n_phasorref08_May : fnsT f_phasorref08_May = some c_phasorref08_May := by kernel_rfl
theorem n_phasorref08_SameOp : fnsT f_phasorref08_SameOp = some c_phasorref08_SameOp := by kernel_rfl
theorem n_circuit_Check : fnsT f_circuit_Check = some c_circuit_Check := by kernel_rfl
theorem n_circuit_Copy : fnsT f_circuit_Copy = some c_circuit_Copy := by kernel_rfl
theorem n_rewrite_written : fnsT f_rewrite_written = some c_rewrite_written := by kernel_rfl
theorem n_phasorref18_written : fnsT f_phasorref18_written = some c_phasorref18_written := by kernel_rfl
theorem n_phasorref18_one : fnsT f_phasorref18_one = some c_phasorref18_one := by kernel_rfl
theorem n_slices_Clone_int_int : fnsT f_slices_Clone_int_int = some c_slices_Clone_int_int := by kernel_rfl
theorem n_phasorref08_Check : fnsT f_phasorref08_Check = some c_phasorref08_Check := by kernel_rfl
theorem n_phasorref08_ints : fnsT f_phasorref08_ints = some c_phasorref08_ints := by kernel_rfl
theorem n_slices_Contains_int_int : fnsT f_slices_Contains_int_int = some c_slices_Contains_int_int := by kernel_rfl
theorem n_circuit_may : fnsT f_circuit_may = some c_circuit_may := by kernel_rfl
theorem n_rewrite_written_1 : fnsT f_rewrite_written_1 = some c_rewrite_written_1 := by kernel_rfl
theorem n_rewrite_written_2 : fnsT f_rewrite_written_2 = some c_rewrite_written_2 := by kernel_rfl
theorem n_slices_Concat_api_Op_api_Op : fnsT f_slices_Concat_api_Op_api_Op = some c_slices_Concat_api_Op_api_Op := by kernel_rfl
theorem n_gate_Arity : fnsT f_gate_Arity = some c_gate_Arity := by kernel_rfl
theorem n_phasorref06_Is : fnsT f_phasorref06_Is = some c_phasorref06_Is := by kernel_rfl
theorem n_phasorref06_Arity : fnsT f_phasorref06_Arity = some c_phasorref06_Arity := by kernel_rfl
theorem n_phasorref08_Op : fnsT f_phasorref08_Op = some c_phasorref08_Op := by kernel_rfl
theorem n_slices_Index_int_int : fnsT f_slices_Index_int_int = some c_slices_Index_int_int := by kernel_rfl
theorem n_gate_Check : fnsT f_gate_Check = some c_gate_Check := by kernel_rfl
theorem n_slices_Grow_api_Op_api_Op : fnsT f_slices_Grow_api_Op_api_Op = some c_slices_Grow_api_Op_api_Op := by kernel_rfl
theorem n_gate_of : fnsT f_gate_of = some c_gate_of := by kernel_rfl
theorem n_phasorref06_Check : fnsT f_phasorref06_Check = some c_phasorref06_Check := by kernel_rfl
theorem n_phasorref08_unlike : fnsT f_phasorref08_unlike = some c_phasorref08_unlike := by kernel_rfl
theorem n_gate_table : fnsT f_gate_table = some c_gate_table := by kernel_rfl
end Go.Proofs.YtmflheoafeenfaaGreat
namespace Go.Am

def CfLe (cf cf' : CallF) : Prop := ∀ g args m r, cf g args m = some r → cf' g args m = some r

section
variable {cf cf' : CallF}
theorem stepVal_mono (h : CfLe cf cf') {s : Tr AVal} {m : Mem} {op : AOp} {r : AVal × Mem} (hv : stepVal cf s m op = some r) : stepVal cf' s m op = some r := by
  unfold stepVal at hv ⊢
  split at hv
  · split at hv
    · exact h _ _ _ _ hv
    · simp at hv
  · exact hv
theorem stepO_mono (h : CfLe cf cf') {o : AO} {s s' : St} (hv : stepO cf o s = some s') : stepO cf' o s = some s' := by
  unfold stepO at hv ⊢
  split at hv
  · split at hv
    · rename_i v m hs
      rw [stepVal_mono h hs]
      exact hv
    · simp at hv
  · exact hv
  · simp at hv
theorem stepOs_mono (h : CfLe cf cf') : ∀ {l : List AO} {s s' : St}, stepOs cf l s = some s' → stepOs cf' l s = some s'
  | [], s, s', hv => hv
  | o :: l, s, s', hv => by
    unfold stepOs at hv ⊢
    split at hv
    · rename_i s1 h1
      rw [stepO_mono h h1]
      exact stepOs_mono h hv
    · simp at hv
theorem effO_mono (h : CfLe cf cf') {o : AO} {s : St} {e : Eff} (hv : effO cf o s = some e) : effO cf' o s = some e := by
  unfold effO at hv ⊢
  simp only at hv ⊢
  split at hv
  · split at hv
    · split at hv
      · split at hv
        · rename_i hs
          rw [if_pos (by assumption), stepVal_mono h hs]
          exact hv
        · simp at hv
      · simp at hv
    · simp at hv
  · exact hv
  · simp at hv
theorem drawOs_mono (h : CfLe cf cf') : ∀ {l : List AO} {s : St} {r : St × List Eff}, drawOs cf l s = some r → drawOs cf' l s = some r
  | [], s, r, hv => hv
  | o :: l, s, r, hv => by
    unfold drawOs at hv ⊢
    split at hv
    · rename_i e he
      rw [effO_mono h he]
      simp only
      split at hv
      · rename_i s1 es h1
        rw [drawOs_mono h h1]
        exact hv
      · simp at hv
    · simp at hv
theorem drawn_mono (h : CfLe cf cf') {l : List AO} {s s' : St} (hv : drawn cf l s = some s') : drawn cf' l s = some s' := by
  unfold drawn at hv ⊢
  split at hv
  · rename_i s1 es h1
    rw [drawOs_mono h h1]
    exact hv
  · simp at hv
end

section
variable {E : Env}
structure Mono (E : Env) (n : Nat) : Prop where
  run : ∀ c s r, run E n c s = some r → run E (n + 1) c s = some r
  call : CfLe (callF E n) (callF E (n + 1))
  body : ∀ f args m r, body E n f args m = some r → body E (n + 1) f args m = some r

theorem mono_step {n : Nat} (ih : Mono E n) : Mono E (n + 1) := by
  refine ⟨fun c s r h => ?_, fun g args m r h => ?_, fun f args m r h => ?_⟩
  · cases c with
    | skip => simpa [Am.run] using h
    | exit id => simpa [Am.run] using h
    | ret => simpa [Am.run] using h
    | scope c => rw [Am.run] at h ⊢; exact ih.run _ _ _ h
    | reg ops d =>
      rw [Am.run] at h ⊢
      split at h
      · rename_i s' hs
        have : (if (d && !still E ops) = true then drawn (callF E (n + 1)) ops s else stepOs (callF E (n + 1)) ops s) = some s' := by
          split at hs
          · rw [if_pos (by assumption)]; exact drawn_mono ih.call hs
          · rw [if_neg (by assumption)]; exact stepOs_mono ih.call hs
        rw [this]
        exact h
      · simp at h
    | seq a b =>
      rw [Am.run] at h ⊢
      split at h
      · rename_i s' hs
        rw [ih.run _ _ _ hs]
        exact ih.run _ _ _ h
      · rename_i r' hne
        rw [ih.run _ _ _ h]
        split
        · rename_i e
          cases e
          exact absurd h (hne _)
        · rfl
    | cond c a b =>
      rw [Am.run] at h ⊢
      split at h
      · exact ih.run _ _ _ h
      · exact ih.run _ _ _ h
      · simp at h
    | blk id c =>
      rw [Am.run] at h ⊢
      split at h
      · rename_i j s' hs
        rw [ih.run _ _ _ hs]
        exact h
      · rename_i r' hne
        rw [ih.run _ _ _ h]
        split
        · rename_i e
          cases e
          exact absurd h (hne _ _)
        · rfl
    | loop c =>
      rw [Am.run] at h ⊢
      split at h
      · rename_i s' hs
        rw [ih.run _ _ _ hs]
        exact ih.run _ _ _ h
      · rename_i r' hne
        rw [ih.run _ _ _ h]
        split
        · rename_i e
          cases e
          exact absurd h (hne _)
        · rfl
  · cases g with
    | func f =>
      rw [callF] at h ⊢
      split at h
      · exact h
      · split at h
        · simp at h
        · rename_i fn hf
          split at h
          · rename_i v m' hb
            rw [ih.body _ _ _ _ hb]
            exact h
          · simp at h
      · split at h
        · simp at h
        · rename_i fn hf
          split at h
          · simp at h
          · rename_i vs hvs
            split at h
            · rename_i v m' hb
              rw [ih.body _ _ _ _ hb]
              exact h
            · simp at h
      · split at h
        · simp at h
        · rename_i fn hf
          split at h
          · rename_i hb
            rw [if_pos hb]
            split at h
            · rename_i v m' hb'
              rw [ih.body _ _ _ _ hb']
              exact h
            · simp at h
          · simp at h
    | _ => simp [callF] at h
  · rw [Am.body] at h ⊢
    split at h
    · rw [if_pos (by assumption)]
      split at h
      · rename_i s hr
        rw [ih.run _ _ _ hr]
        exact h
      · rename_i s hr
        rw [ih.run _ _ _ hr]
        exact h
      · simp at h
    · simp at h

theorem mono : ∀ n, Mono E n
  | 0 => ⟨fun c s r h => by simp [Am.run] at h, fun g args m r h => by simp [callF] at h, fun f args m r h => by simp [Am.body] at h⟩
  | n + 1 => mono_step (mono n)

theorem run_le {n k : Nat} (h : n ≤ k) {c : AC} {s : St} {r : Ex × St} (hr : run E n c s = some r) : run E k c s = some r := by
  induction h with
  | refl => exact hr
  | step _ ih => exact (mono _).run _ _ _ ih
theorem callF_le {n k : Nat} (h : n ≤ k) : CfLe (callF E n) (callF E k) := by
  induction h with
  | refl => exact fun _ _ _ _ h => h
  | step _ ih => exact fun g a m r hr => (mono _).call _ _ _ _ (ih g a m r hr)
/-! ### Without fuel -/
structure Wp (E : Env) (c : AC) (s : St) (Q : Ex → St → Prop) : Prop where
  ex : ∃ n ex s', run E n c s = some (ex, s') ∧ Q ex s'
structure OpsW (E : Env) (ops : List AO) (s : St) (K : St → Prop) : Prop where
  ex : ∃ n s', stepOs (callF E n) ops s = some s' ∧ K s'
structure CallW (E : Env) (f : FuncId) (args : List AVal) (m : Mem) (K : AVal → Mem → Prop) : Prop where
  ex : ∃ n v m', callF E n (.func f) args m = some (v, m') ∧ K v m'
structure BodyW (E : Env) (fn : AFn) (args : List AVal) (m : Mem) (K : AVal → Mem → Prop) : Prop where
  ex : ∃ n v m', body E n fn args m = some (v, m') ∧ K v m'

/-- Behind the first of two. -/
inductive seqK (E : Env) (b : AC) (Q : Ex → St → Prop) : Ex → St → Prop where
  | n {s : St} (h : Wp E b s Q) : seqK E b Q .normal s
  | r {s : St} (h : Q .ret s) : seqK E b Q .ret s
  | x {s : St} {i : Nat} (h : Q (.exit i) s) : seqK E b Q (.exit i) s
inductive blkK (id : Nat) (Q : Ex → St → Prop) : Ex → St → Prop where
  | n {s : St} (h : Q .normal s) : blkK id Q .normal s
  | r {s : St} (h : Q .ret s) : blkK id Q .ret s
  | x {s : St} (h : Q .normal s) : blkK id Q (.exit id) s
  | y {s : St} {j : Nat} (hj : j ≠ id) (h : Q (.exit j) s) : blkK id Q (.exit j) s

section
variable {Q : Ex → St → Prop} {s : St}
theorem Wp.mono {c : AC} {Q' : Ex → St → Prop} (h : Wp E c s Q) (hq : ∀ e s', Q e s' → Q' e s') : Wp E c s Q' :=
  let ⟨n, e, s', h1, h2⟩ := h; ⟨n, e, s', h1, hq _ _ h2⟩
theorem aw_skip (h : Q .normal s) : Wp E .skip s Q := ⟨1, .normal, s, rfl, h⟩
theorem aw_ret (h : Q .ret s) : Wp E .ret s Q := ⟨1, .ret, s, rfl, h⟩
theorem aw_exit {id : Nat} (h : Q (.exit id) s) : Wp E (.exit id) s Q := ⟨1, .exit id, s, rfl, h⟩
theorem aw_scope {c : AC} (h : Wp E c s Q) : Wp E (.scope c) s Q := let ⟨n, e, s', h1, h2⟩ := h; ⟨n + 1, e, s', by rw [run]; exact h1, h2⟩
theorem aw_seq {a b : AC} (h : Wp E a s (seqK E b Q)) : Wp E (.seq a b) s Q := by
  obtain ⟨n, e, s1, h1, h2⟩ := h
  cases h2 with
  | n h2 =>
    obtain ⟨k, e, s2, h3, h4⟩ := h2
    refine ⟨max n k + 1, e, s2, ?_, h4⟩
    rw [run, run_le (Nat.le_max_left n k) h1]
    exact run_le (Nat.le_max_right n k) h3
  | x h2 => exact ⟨n + 1, .exit _, s1, by rw [run, h1], h2⟩
  | r h2 => exact ⟨n + 1, .ret, s1, by rw [run, h1], h2⟩
theorem aw_blk {id : Nat} {c : AC} (h : Wp E c s (blkK id Q)) : Wp E (.blk id c) s Q := by
  obtain ⟨n, e, s1, h1, h2⟩ := h
  cases h2 with
  | n h2 => exact ⟨n + 1, .normal, s1, by rw [run, h1], h2⟩
  | r h2 => exact ⟨n + 1, .ret, s1, by rw [run, h1], h2⟩
  | x h2 => exact ⟨n + 1, .normal, s1, by rw [run, h1]; simp only [if_true], h2⟩
  | y hj h2 => exact ⟨n + 1, .exit _, s1, by rw [run, h1]; simp only [if_neg hj], h2⟩
theorem aw_loop {c : AC} (h : Wp E c s (seqK E (.loop c) Q)) : Wp E (.loop c) s Q := by
  obtain ⟨n, e, s1, h1, h2⟩ := h
  cases h2 with
  | n h2 =>
    obtain ⟨k, e, s2, h3, h4⟩ := h2
    refine ⟨max n k + 1, e, s2, ?_, h4⟩
    rw [run, run_le (Nat.le_max_left n k) h1]
    exact run_le (Nat.le_max_right n k) h3
  | x h2 => exact ⟨n + 1, .exit _, s1, by rw [run, h1], h2⟩
  | r h2 => exact ⟨n + 1, .ret, s1, by rw [run, h1], h2⟩
theorem aw_cond {c : Arg} {a b : AC} {t : Bool} (hc : c.get s.slots = some (.sc (.bool t))) (h : Wp E (if t then a else b) s Q) : Wp E (.cond c a b) s Q := by
  obtain ⟨n, e, s1, h1, h2⟩ := h
  refine ⟨n + 1, e, s1, ?_, h2⟩
  rw [run, hc]
  cases t with
  | true => exact h1
  | false => exact h1
theorem aw_cond_if {c : Arg} {a b : AC} {t : Bool} (hc : c.get s.slots = some (.sc (.bool t))) (h1 : t = true → Wp E a s Q) (h2 : t = false → Wp E b s Q) : Wp E (.cond c a b) s Q := by
  cases t with
  | true => exact aw_cond hc (h1 rfl)
  | false => exact aw_cond hc (h2 rfl)
theorem aw_reg {ops : List AO} (h : OpsW E ops s (Q .normal)) : Wp E (.reg ops false) s Q := by
  obtain ⟨n, s1, h1, h2⟩ := h
  exact ⟨n + 1, .normal, s1, by rw [run]; simp [h1], h2⟩
theorem aw_still {ops : List AO} (hs : still E ops = true) (h : OpsW E ops s (Q .normal)) : Wp E (.reg ops true) s Q := by
  obtain ⟨n, s1, h1, h2⟩ := h
  exact ⟨n + 1, .normal, s1, by rw [run]; simp [h1, hs], h2⟩

variable {K : St → Prop}
theorem ops_nil (h : K s) : OpsW E [] s K := ⟨0, s, rfl, h⟩
theorem ops_cons {o : AO} {l : List AO} {v : AVal} {m : Mem} (hg : wantedA s.slots o.guard = some true) (hv : opVal s.slots s.mem o.op = some (v, m)) (h : OpsW E l ⟨setDst s.slots o.dst v, m⟩ K) : OpsW E (o :: l) s K := by
  obtain ⟨n, s1, h1, h2⟩ := h
  refine ⟨n, s1, ?_, h2⟩
  have : stepVal (callF E n) s.slots s.mem o.op = some (v, m) := by
    unfold stepVal
    split
    · rename_i heq
      rw [heq] at hv
      simp [opVal] at hv
    · exact hv
  rw [stepOs, stepO, hg]
  simp only [this]
  exact h1
theorem ops_skip {o : AO} {l : List AO} (hg : wantedA s.slots o.guard = some false) (h : OpsW E l ⟨setDst s.slots o.dst (.tup []), s.mem⟩ K) : OpsW E (o :: l) s K := by
  obtain ⟨n, s1, h1, h2⟩ := h
  refine ⟨n, s1, ?_, h2⟩
  rw [stepOs, stepO, hg]
  exact h1
theorem ops_call {o : AO} {l : List AO} {f : Arg} {asq : List Arg} {g : FuncId} {first cap vs : List AVal} (hg : wantedA s.slots o.guard = some true) (ho : o.op = .call f asq) (hf : f.get s.slots = some (.fn (.func g) first cap)) (ha : argAll s.slots asq = some vs)
    (h : CallW E g (first ++ vs ++ cap) s.mem fun v m => OpsW E l ⟨setDst s.slots o.dst v, m⟩ K) : OpsW E (o :: l) s K := by
  obtain ⟨n, v, m, h1, k, s1, h2, h3⟩ := h
  refine ⟨max n k, s1, ?_, h3⟩
  rw [stepOs, stepO, hg]
  simp only [stepVal, ho, hf, ha]
  rw [callF_le (Nat.le_max_left n k) _ _ _ _ h1]
  exact stepOs_mono (callF_le (Nat.le_max_right n k)) h2

/-! Calls -/
variable {f : FuncId} {fn : AFn} {args : List AVal} {m : Mem} {R : AVal → Mem → Prop}
theorem CallW.mono {R' : AVal → Mem → Prop} (h : CallW E f args m R) (hr : ∀ v m', R v m' → R' v m') : CallW E f args m R' :=
  let ⟨n, v, m', h1, h2⟩ := h; ⟨n, v, m', h1, hr _ _ h2⟩
theorem BodyW.mono {R' : AVal → Mem → Prop} (h : BodyW E fn args m R) (hr : ∀ v m', R v m' → R' v m') : BodyW E fn args m R' :=
  let ⟨n, v, m', h1, h2⟩ := h; ⟨n, v, m', h1, hr _ _ h2⟩
theorem call_open (hm : E.mode f = .open_) (hf : E.fns f = some fn) (h : BodyW E fn args ⟨m.heap, m.next, m.next⟩ fun v m' => R v ⟨m'.heap, m'.next, min m.low m'.low⟩) : CallW E f args m R := by
  obtain ⟨n, v, m', h1, h2⟩ := h
  exact ⟨n + 1, v, _, by rw [callF, hm]; simp only [hf, h1], h2⟩
theorem call_flat (hm : E.mode f = .iso false) (hf : E.fns f = some fn) {vs : List AVal} (hv : viewAll m args = some vs) (h : BodyW E fn vs ⟨.nil, 0, 0⟩ fun v m' => (v.flat || (v.bare && args.all AVal.bare)) = true ∧ R v m) : CallW E f args m R := by
  obtain ⟨n, v, m', h1, h2, h3⟩ := h
  exact ⟨n + 1, v, m, by rw [callF, hm]; simp only [hf, hv, h1, Bool.false_eq_true, if_false, if_pos h2], h3⟩
theorem call_frz (hm : E.mode f = .iso true) (hf : E.fns f = some fn) {vs : List AVal} (hb : args.all AVal.bare = true) (h : BodyW E fn args ⟨.nil, 0, 0⟩ fun v m' => ∃ u, view m' 64 v = some u ∧ R u m) (hv : viewAll m args = some args) : CallW E f args m R := by
  obtain ⟨n, v, m', h1, u, h2, h3⟩ := h
  exact ⟨n + 1, u, m, by rw [callF, hm]; simp only [hf, hv, h1, if_true, hb, h2], h3⟩
theorem viewAll_of_bare {m : Mem} : ∀ {l : List AVal}, l.all AVal.bare = true → viewAll m l = some l
  | [], _ => rfl
  | v :: r, h => by
    simp only [List.all_cons, Bool.and_eq_true] at h
    unfold viewAll
    rw [if_pos h.1, viewAll_of_bare h.2]
/-- What a body hands back. -/
def retK (fn : AFn) (R : AVal → Mem → Prop) : Ex → St → Prop
  | .exit _, _ => False
  | _, s => ∃ vs, results1 s fn.results = some vs ∧ R (resultV vs) s.mem
theorem body_of (hl : args.length ≤ fn.ntmps) (h : Wp E fn.code ⟨argSlots args 0 .nil, m⟩ (retK fn R)) : BodyW E fn args m R := by
  obtain ⟨n, e, s, h1, h2⟩ := h
  cases e with
  | normal =>
    obtain ⟨vs, h3, h4⟩ := h2
    exact ⟨n + 1, resultV vs, s.mem, by rw [body, if_pos hl, h1]; simp [h3], h4⟩
  | ret =>
    obtain ⟨vs, h3, h4⟩ := h2
    exact ⟨n + 1, resultV vs, s.mem, by rw [body, if_pos hl, h1]; simp [h3], h4⟩
  | exit id => exact h2.elim
end
end
end Go.Am
