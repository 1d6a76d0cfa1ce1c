/- Parts of the proof, joined by program: AmCode, AmWp. -/
import Derived.Test.YtfaphhcloanhnaaPa2
import Derived.Test.YtfaphhcloanhnaaPa3
import Derived.KernelRfl
import Derived.Test.YtfaphhcloanhnaaPa1
set_option linter.unusedSimpArgs false
set_option linter.unusedVariables false
namespace Go.Proofs.Ytfaphhcloanhnaa
open Go.Am
def tbl : List (FuncId × AFn) := [(f_phasorlaw20_RouteHomes, c_phasorlaw20_RouteHomes), (f_route_Line, c_route_Line), (f_route_Ring, c_route_Ring), (f_route_Grid, c_route_Grid), (f_phasorref20_Right, c_phasorref20_Right), (f_phasorlaw20_num, c_phasorlaw20_num), (f_route_Check, c_route_Check), (f_phasorlaw20_alive, c_phasorlaw20_alive), (f_route_Far, c_route_Far), (f_phasorlaw20_ints, c_phasorlaw20_ints), (f_route_Path, c_route_Path), (f_phasorref08_Copy, c_phasorref08_Copy), (f_route_Fits, c_route_Fits), (f_route_Route, c_route_Route), (f_phasorlaw20_routed, c_phasorlaw20_routed), (f_phasorref08_Same, c_phasorref08_Same), (f_route_Home, c_route_Home), (f_phasorref20_Home, c_phasorref20_Home), (f_route_line, c_route_line), (f_phasorref20_far, c_phasorref20_far), (f_slices_Contains_int_int, c_slices_Contains_int_int), (f_route_steps, c_route_steps), (f_route_near, c_route_near), (f_route_far, c_route_far), (f_route_path, c_route_path), (f_phasorref20_step, c_phasorref20_step), (f_circuit_Check, c_circuit_Check), (f_route_Fits_1, c_route_Fits_1), (f_slices_ContainsFunc_api_Op_api_Op, c_slices_ContainsFunc_api_Op_api_Op), (f_phasorref08_May, c_phasorref08_May), (f_route_Route_1, c_route_Route_1), (f_circuit_Copy, c_circuit_Copy), (f_route_laid_swap, c_route_laid_swap), (f_phasorref20_laid_swap, c_phasorref20_laid_swap), (f_phasorref20_laid_routed, c_phasorref20_laid_routed), (f_phasorref08_SameOp, c_phasorref08_SameOp), (f_slices_Clone_int_int, c_slices_Clone_int_int), (f_route_Home_1, c_route_Home_1), (f_route_up, c_route_up), (f_slices_IndexFunc_int_int, c_slices_IndexFunc_int_int), (f_route_Home_2, c_route_Home_2), (f_slices_Index_int_int, c_slices_Index_int_int), (f_slices_Reverse_int_int, c_slices_Reverse_int_int), (f_phasorref20_apart, c_phasorref20_apart), (f_phasorref20_among, c_phasorref20_among), (f_phasorref20_next, c_phasorref20_next), (f_slices_Compact_int_int, c_slices_Compact_int_int), (f_route_path_1, c_route_path_1), (f_circuit_may, c_circuit_may), (f_slices_IndexFunc_api_Op_api_Op, c_slices_IndexFunc_api_Op_api_Op), (f_phasorref08_Check, c_phasorref08_Check), (f_route_swap, c_route_swap), (f_phasorref08_ints, c_phasorref08_ints), (f_route_up_1, c_route_up_1), (f_phasorref20_parent, c_phasorref20_parent), (f_gate_Check, c_gate_Check), (f_phasorref08_Op, c_phasorref08_Op), (f_gate_Arity, c_gate_Arity), (f_phasorref06_Check, c_phasorref06_Check), (f_phasorref08_unlike, c_phasorref08_unlike), (f_gate_of, c_gate_of), (f_phasorref06_Is, c_phasorref06_Is), (f_phasorref06_Arity, c_phasorref06_Arity), (f_gate_table, c_gate_table)]
def fnsT (f : FuncId) : Option AFn := (tbl.find? fun p => p.1 == f).map (·.2)
theorem n_phasorlaw20_RouteHomes : fnsT f_phasorlaw20_RouteHomes = some c_phasorlaw20_RouteHomes := by kernel_rfl
theorem n_phasorref20_Right : fnsT f_phasorref20_Right = some c_phasorref20_Right := by kernel_rfl
theorem n_phasorlaw20_num : fnsT f_phasorlaw20_num = some c_phasorlaw20_num := by kernel_rfl
theorem n_route_Check : fnsT f_route_Check = some c_route_Check := by kernel_rfl
theorem n_phasorlaw20_alive : fnsT f_phasorlaw20_alive = some c_phasorlaw20_alive := by kernel_rfl
theorem n_phasorlaw20_ints : fnsT f_phasorlaw20_ints = some c_phasorlaw20_ints := by kernel_rfl
theorem n_phasorref08_Copy : fnsT f_phasorref08_Copy = some c_phasorref08_Copy := by kernel_rfl
theorem n_phasorlaw20_routed : fnsT f_phasorlaw20_routed = some c_phasorlaw20_routed := by kernel_rfl
theorem n_phasorref08_Same : fnsT f_phasorref08_Same = some c_phasorref08_Same := by kernel_rfl
theorem n_route_Home : fnsT f_route_Home = some c_route_Home := by kernel_rfl
theorem n_phasorref20_Home : fnsT f_phasorref20_Home = some c_phasorref20_Home := by kernel_rfl
theorem n_phasorref20_far : fnsT f_phasorref20_far = some c_phasorref20_far := by kernel_rfl
theorem n_slices_Contains_int_int : fnsT f_slices_Contains_int_int = some c_slices_Contains_int_int := by kernel_rfl
theorem n_route_steps : fnsT f_route_steps = some c_route_steps := by kernel_rfl
theorem n_route_near : fnsT f_route_near = some c_route_near := by kernel_rfl
theorem n_phasorref20_step : fnsT f_phasorref20_step = some c_phasorref20_step := by kernel_rfl
theorem n_circuit_Check : fnsT f_circuit_Check = some c_circuit_Check := by kernel_rfl
theorem n_phasorref08_May : fnsT f_phasorref08_May = some c_phasorref08_May := by kernel_rfl
theorem n_circuit_Copy : fnsT f_circuit_Copy = some c_circuit_Copy := by kernel_rfl
theorem n_route_laid_swap : fnsT f_route_laid_swap = some c_route_laid_swap := by kernel_rfl
theorem n_phasorref20_laid_swap : fnsT f_phasorref20_laid_swap = some c_phasorref20_laid_swap := by kernel_rfl
theorem n_phasorref20_laid_routed : fnsT f_phasorref20_laid_routed = some c_phasorref20_laid_routed := by kernel_rfl
theorem n_phasorref08_SameOp : fnsT f_phasorref08_SameOp = some c_phasorref08_SameOp := by kernel_rfl
theorem n_slices_Clone_int_int : fnsT f_slices_Clone_int_int = some c_slices_Clone_int_int := by kernel_rfl
theorem n_route_up : fnsT f_route_up = some c_route_up := by kernel_rfl
theorem n_slices_IndexFunc_int_int : fnsT f_slices_IndexFunc_int_int = some c_slices_IndexFunc_int_int := by kernel_rfl
theorem n_route_Home_2 : fnsT f_route_Home_2 = some c_route_Home_2 := by kernel_rfl
theorem n_slices_Index_int_int : fnsT f_slices_Index_int_int = some c_slices_Index_int_int := by kernel_rfl
theorem n_slices_Reverse_int_int : fnsT f_slices_Reverse_int_int = some c_slices_Reverse_int_int := by kernel_rfl
theorem n_phasorref20_apart : fnsT f_phasorref20_apart = some c_phasorref20_apart := by kernel_rfl
theorem n_phasorref20_among : fnsT f_phasorref20_among = some c_phasorref20_among := by kernel_rfl
theorem n_phasorref20_next : fnsT f_phasorref20_next = some c_phasorref20_next := by kernel_rfl
theorem n_slices_Compact_int_int : fnsT f_slices_Compact_int_int = some c_slices_Compact_int_int := by kernel_rfl
theorem n_circuit_may : fnsT f_circuit_may = some c_circuit_may := by kernel_rfl
theorem n_phasorref08_Check : fnsT f_phasorref08_Check = some c_phasorref08_Check := by kernel_rfl
theorem n_route_swap : fnsT f_route_swap = some c_route_swap := by kernel_rfl
theorem n_phasorref08_ints : fnsT f_phasorref08_ints = some c_phasorref08_ints := by kernel_rfl
theorem n_route_up_1 : fnsT f_route_up_1 = some c_route_up_1 := by kernel_rfl
theorem n_phasorref20_parent : fnsT f_phasorref20_parent = some c_phasorref20_parent := by kernel_rfl
theorem n_gate_Check : fnsT f_gate_Check = some c_gate_Check := by kernel_rfl
theorem n_phasorref08_Op : fnsT f_phasorref08_Op = some c_phasorref08_Op := by kernel_rfl
theorem n_gate_Arity : fnsT f_gate_Arity = some c_gate_Arity := by kernel_rfl
theorem n_phasorref06_Check : fnsT f_phasorref06_Check = some c_phasorref06_Check := by kernel_rfl
theorem n_phasorref08_unlike : fnsT f_phasorref08_unlike = some c_phasorref08_unlike := by kernel_rfl
theorem n_gate_of : fnsT f_gate_of = some c_gate_of := by kernel_rfl
theorem n_phasorref06_Is : fnsT f_phasorref06_Is = some c_phasorref06_Is := by kernel_rfl
theorem n_phasorref06_Arity : fnsT f_phasorref06_Arity = some c_phasorref06_Arity := by kernel_rfl
theorem n_gate_table : fnsT f_gate_table = some c_gate_table := by kernel_rfl
end Go.Proofs.Ytfaphhcloanhnaa
namespace Go.Am

def CfLe (cf cf' : CallF) : Prop := ∀ g args m r, cf g args m = some r → cf' g args m = some r

section
variable {cf cf' : CallF}
theorem stepVal_mono (h : CfLe cf cf') {s : Tr AVal} {m : Mem} {op : AOp} {r : AVal × Mem} (hv : stepVal cf s m op = some r) : stepVal cf' s m op = some r := by
  unfold stepVal at hv ⊢
  split at hv
  · split at hv
    · exact h _ _ _ _ hv
    · simp at hv
  · exact hv
theorem stepO_mono (h : CfLe cf cf') {o : AO} {s s' : St} (hv : stepO cf o s = some s') : stepO cf' o s = some s' := by
  unfold stepO at hv ⊢
  split at hv
  · split at hv
    · rename_i v m hs
      rw [stepVal_mono h hs]
      exact hv
    · simp at hv
  · exact hv
  · simp at hv
theorem stepOs_mono (h : CfLe cf cf') : ∀ {l : List AO} {s s' : St}, stepOs cf l s = some s' → stepOs cf' l s = some s'
  | [], s, s', hv => hv
  | o :: l, s, s', hv => by
    unfold stepOs at hv ⊢
    split at hv
    · rename_i s1 h1
      rw [stepO_mono h h1]
      exact stepOs_mono h hv
    · simp at hv
theorem effO_mono (h : CfLe cf cf') {o : AO} {s : St} {e : Eff} (hv : effO cf o s = some e) : effO cf' o s = some e := by
  unfold effO at hv ⊢
  simp only at hv ⊢
  split at hv
  · split at hv
    · split at hv
      · split at hv
        · rename_i hs
          rw [if_pos (by assumption), stepVal_mono h hs]
          exact hv
        · simp at hv
      · simp at hv
    · simp at hv
  · exact hv
  · simp at hv
theorem drawOs_mono (h : CfLe cf cf') : ∀ {l : List AO} {s : St} {r : St × List Eff}, drawOs cf l s = some r → drawOs cf' l s = some r
  | [], s, r, hv => hv
  | o :: l, s, r, hv => by
    unfold drawOs at hv ⊢
    split at hv
    · rename_i e he
      rw [effO_mono h he]
      simp only
      split at hv
      · rename_i s1 es h1
        rw [drawOs_mono h h1]
        exact hv
      · simp at hv
    · simp at hv
theorem drawn_mono (h : CfLe cf cf') {l : List AO} {s s' : St} (hv : drawn cf l s = some s') : drawn cf' l s = some s' := by
  unfold drawn at hv ⊢
  split at hv
  · rename_i s1 es h1
    rw [drawOs_mono h h1]
    exact hv
  · simp at hv
end

section
variable {E : Env}
structure Mono (E : Env) (n : Nat) : Prop where
  run : ∀ c s r, run E n c s = some r → run E (n + 1) c s = some r
  call : CfLe (callF E n) (callF E (n + 1))
  body : ∀ f args m r, body E n f args m = some r → body E (n + 1) f args m = some r

theorem mono_step {n : Nat} (ih : Mono E n) : Mono E (n + 1) := by
  refine ⟨fun c s r h => ?_, fun g args m r h => ?_, fun f args m r h => ?_⟩
  · cases c with
    | skip => simpa [Am.run] using h
    | exit id => simpa [Am.run] using h
    | ret => simpa [Am.run] using h
    | scope c => rw [Am.run] at h ⊢; exact ih.run _ _ _ h
    | reg ops d =>
      rw [Am.run] at h ⊢
      split at h
      · rename_i s' hs
        have : (if (d && !still E ops) = true then drawn (callF E (n + 1)) ops s else stepOs (callF E (n + 1)) ops s) = some s' := by
          split at hs
          · rw [if_pos (by assumption)]; exact drawn_mono ih.call hs
          · rw [if_neg (by assumption)]; exact stepOs_mono ih.call hs
        rw [this]
        exact h
      · simp at h
    | seq a b =>
      rw [Am.run] at h ⊢
      split at h
      · rename_i s' hs
        rw [ih.run _ _ _ hs]
        exact ih.run _ _ _ h
      · rename_i r' hne
        rw [ih.run _ _ _ h]
        split
        · rename_i e
          cases e
          exact absurd h (hne _)
        · rfl
    | cond c a b =>
      rw [Am.run] at h ⊢
      split at h
      · exact ih.run _ _ _ h
      · exact ih.run _ _ _ h
      · simp at h
    | blk id c =>
      rw [Am.run] at h ⊢
      split at h
      · rename_i j s' hs
        rw [ih.run _ _ _ hs]
        exact h
      · rename_i r' hne
        rw [ih.run _ _ _ h]
        split
        · rename_i e
          cases e
          exact absurd h (hne _ _)
        · rfl
    | loop c =>
      rw [Am.run] at h ⊢
      split at h
      · rename_i s' hs
        rw [ih.run _ _ _ hs]
        exact ih.run _ _ _ h
      · rename_i r' hne
        rw [ih.run _ _ _ h]
        split
        · rename_i e
          cases e
          exact absurd h (hne _)
        · rfl
  · cases g with
    | func f =>
      rw [callF] at h ⊢
      split at h
      · exact h
      · split at h
        · simp at h
        · rename_i fn hf
          split at h
          · rename_i v m' hb
            rw [ih.body _ _ _ _ hb]
            exact h
          · simp at h
      · split at h
        · simp at h
        · rename_i fn hf
          split at h
          · simp at h
          · rename_i vs hvs
            split at h
            · rename_i v m' hb
              rw [ih.body _ _ _ _ hb]
              exact h
            · simp at h
      · split at h
        · simp at h
        · rename_i fn hf
          split at h
          · rename_i hb
            rw [if_pos hb]
            split at h
            · rename_i v m' hb'
              rw [ih.body _ _ _ _ hb']
              exact h
            · simp at h
          · simp at h
    | _ => simp [callF] at h
  · rw [Am.body] at h ⊢
    split at h
    · rw [if_pos (by assumption)]
      split at h
      · rename_i s hr
        rw [ih.run _ _ _ hr]
        exact h
      · rename_i s hr
        rw [ih.run _ _ _ hr]
        exact h
      · simp at h
    · simp at h

theorem mono : ∀ n, Mono E n
  | 0 => ⟨fun c s r h => by simp [Am.run] at h, fun g args m r h => by simp [callF] at h, fun f args m r h => by simp [Am.body] at h⟩
  | n + 1 => mono_step (mono n)

theorem run_le {n k : Nat} (h : n ≤ k) {c : AC} {s : St} {r : Ex × St} (hr : run E n c s = some r) : run E k c s = some r := by
  induction h with
  | refl => exact hr
  | step _ ih => exact (mono _).run _ _ _ ih
theorem callF_le {n k : Nat} (h : n ≤ k) : CfLe (callF E n) (callF E k) := by
  induction h with
  | refl => exact fun _ _ _ _ h => h
  | step _ ih => exact fun g a m r hr => (mono _).call _ _ _ _ (ih g a m r hr)
/-! ### Without fuel -/
structure Wp (E : Env) (c : AC) (s : St) (Q : Ex → St → Prop) : Prop where
  ex : ∃ n ex s', run E n c s = some (ex, s') ∧ Q ex s'
structure OpsW (E : Env) (ops : List AO) (s : St) (K : St → Prop) : Prop where
  ex : ∃ n s', stepOs (callF E n) ops s = some s' ∧ K s'
structure CallW (E : Env) (f : FuncId) (args : List AVal) (m : Mem) (K : AVal → Mem → Prop) : Prop where
  ex : ∃ n v m', callF E n (.func f) args m = some (v, m') ∧ K v m'
structure BodyW (E : Env) (fn : AFn) (args : List AVal) (m : Mem) (K : AVal → Mem → Prop) : Prop where
  ex : ∃ n v m', body E n fn args m = some (v, m') ∧ K v m'

/-- Behind the first of two. -/
inductive seqK (E : Env) (b : AC) (Q : Ex → St → Prop) : Ex → St → Prop where
  | n {s : St} (h : Wp E b s Q) : seqK E b Q .normal s
  | r {s : St} (h : Q .ret s) : seqK E b Q .ret s
  | x {s : St} {i : Nat} (h : Q (.exit i) s) : seqK E b Q (.exit i) s
inductive blkK (id : Nat) (Q : Ex → St → Prop) : Ex → St → Prop where
  | n {s : St} (h : Q .normal s) : blkK id Q .normal s
  | r {s : St} (h : Q .ret s) : blkK id Q .ret s
  | x {s : St} (h : Q .normal s) : blkK id Q (.exit id) s
  | y {s : St} {j : Nat} (hj : j ≠ id) (h : Q (.exit j) s) : blkK id Q (.exit j) s

section
variable {Q : Ex → St → Prop} {s : St}
theorem Wp.mono {c : AC} {Q' : Ex → St → Prop} (h : Wp E c s Q) (hq : ∀ e s', Q e s' → Q' e s') : Wp E c s Q' :=
  let ⟨n, e, s', h1, h2⟩ := h; ⟨n, e, s', h1, hq _ _ h2⟩
theorem aw_skip (h : Q .normal s) : Wp E .skip s Q := ⟨1, .normal, s, rfl, h⟩
theorem aw_ret (h : Q .ret s) : Wp E .ret s Q := ⟨1, .ret, s, rfl, h⟩
theorem aw_exit {id : Nat} (h : Q (.exit id) s) : Wp E (.exit id) s Q := ⟨1, .exit id, s, rfl, h⟩
theorem aw_scope {c : AC} (h : Wp E c s Q) : Wp E (.scope c) s Q := let ⟨n, e, s', h1, h2⟩ := h; ⟨n + 1, e, s', by rw [run]; exact h1, h2⟩
theorem aw_seq {a b : AC} (h : Wp E a s (seqK E b Q)) : Wp E (.seq a b) s Q := by
  obtain ⟨n, e, s1, h1, h2⟩ := h
  cases h2 with
  | n h2 =>
    obtain ⟨k, e, s2, h3, h4⟩ := h2
    refine ⟨max n k + 1, e, s2, ?_, h4⟩
    rw [run, run_le (Nat.le_max_left n k) h1]
    exact run_le (Nat.le_max_right n k) h3
  | x h2 => exact ⟨n + 1, .exit _, s1, by rw [run, h1], h2⟩
  | r h2 => exact ⟨n + 1, .ret, s1, by rw [run, h1], h2⟩
theorem aw_blk {id : Nat} {c : AC} (h : Wp E c s (blkK id Q)) : Wp E (.blk id c) s Q := by
  obtain ⟨n, e, s1, h1, h2⟩ := h
  cases h2 with
  | n h2 => exact ⟨n + 1, .normal, s1, by rw [run, h1], h2⟩
  | r h2 => exact ⟨n + 1, .ret, s1, by rw [run, h1], h2⟩
  | x h2 => exact ⟨n + 1, .normal, s1, by rw [run, h1]; simp only [if_true], h2⟩
  | y hj h2 => exact ⟨n + 1, .exit _, s1, by rw [run, h1]; simp only [if_neg hj], h2⟩
theorem aw_loop {c : AC} (h : Wp E c s (seqK E (.loop c) Q)) : Wp E (.loop c) s Q := by
  obtain ⟨n, e, s1, h1, h2⟩ := h
  cases h2 with
  | n h2 =>
    obtain ⟨k, e, s2, h3, h4⟩ := h2
    refine ⟨max n k + 1, e, s2, ?_, h4⟩
    rw [run, run_le (Nat.le_max_left n k) h1]
    exact run_le (Nat.le_max_right n k) h3
  | x h2 => exact ⟨n + 1, .exit _, s1, by rw [run, h1], h2⟩
  | r h2 => exact ⟨n + 1, .ret, s1, by rw [run, h1], h2⟩
theorem aw_cond {c : Arg} {a b : AC} {t : Bool} (hc : c.get s.slots = some (.sc (.bool t))) (h : Wp E (if t then a else b) s Q) : Wp E (.cond c a b) s Q := by
  obtain ⟨n, e, s1, h1, h2⟩ := h
  refine ⟨n + 1, e, s1, ?_, h2⟩
  rw [run, hc]
  cases t with
  | true => exact h1
  | false => exact h1
theorem aw_cond_if {c : Arg} {a b : AC} {t : Bool} (hc : c.get s.slots = some (.sc (.bool t))) (h1 : t = true → Wp E a s Q) (h2 : t = false → Wp E b s Q) : Wp E (.cond c a b) s Q := by
  cases t with
  | true => exact aw_cond hc (h1 rfl)
  | false => exact aw_cond hc (h2 rfl)
theorem aw_reg {ops : List AO} (h : OpsW E ops s (Q .normal)) : Wp E (.reg ops false) s Q := by
  obtain ⟨n, s1, h1, h2⟩ := h
  exact ⟨n + 1, .normal, s1, by rw [run]; simp [h1], h2⟩
theorem aw_still {ops : List AO} (hs : still E ops = true) (h : OpsW E ops s (Q .normal)) : Wp E (.reg ops true) s Q := by
  obtain ⟨n, s1, h1, h2⟩ := h
  exact ⟨n + 1, .normal, s1, by rw [run]; simp [h1, hs], h2⟩

variable {K : St → Prop}
theorem ops_nil (h : K s) : OpsW E [] s K := ⟨0, s, rfl, h⟩
theorem ops_cons {o : AO} {l : List AO} {v : AVal} {m : Mem} (hg : wantedA s.slots o.guard = some true) (hv : opVal s.slots s.mem o.op = some (v, m)) (h : OpsW E l ⟨setDst s.slots o.dst v, m⟩ K) : OpsW E (o :: l) s K := by
  obtain ⟨n, s1, h1, h2⟩ := h
  refine ⟨n, s1, ?_, h2⟩
  have : stepVal (callF E n) s.slots s.mem o.op = some (v, m) := by
    unfold stepVal
    split
    · rename_i heq
      rw [heq] at hv
      simp [opVal] at hv
    · exact hv
  rw [stepOs, stepO, hg]
  simp only [this]
  exact h1
theorem ops_skip {o : AO} {l : List AO} (hg : wantedA s.slots o.guard = some false) (h : OpsW E l ⟨setDst s.slots o.dst (.tup []), s.mem⟩ K) : OpsW E (o :: l) s K := by
  obtain ⟨n, s1, h1, h2⟩ := h
  refine ⟨n, s1, ?_, h2⟩
  rw [stepOs, stepO, hg]
  exact h1
theorem ops_call {o : AO} {l : List AO} {f : Arg} {asq : List Arg} {g : FuncId} {first cap vs : List AVal} (hg : wantedA s.slots o.guard = some true) (ho : o.op = .call f asq) (hf : f.get s.slots = some (.fn (.func g) first cap)) (ha : argAll s.slots asq = some vs)
    (h : CallW E g (first ++ vs ++ cap) s.mem fun v m => OpsW E l ⟨setDst s.slots o.dst v, m⟩ K) : OpsW E (o :: l) s K := by
  obtain ⟨n, v, m, h1, k, s1, h2, h3⟩ := h
  refine ⟨max n k, s1, ?_, h3⟩
  rw [stepOs, stepO, hg]
  simp only [stepVal, ho, hf, ha]
  rw [callF_le (Nat.le_max_left n k) _ _ _ _ h1]
  exact stepOs_mono (callF_le (Nat.le_max_right n k)) h2

/-! Calls -/
variable {f : FuncId} {fn : AFn} {args : List AVal} {m : Mem} {R : AVal → Mem → Prop}
theorem CallW.mono {R' : AVal → Mem → Prop} (h : CallW E f args m R) (hr : ∀ v m', R v m' → R' v m') : CallW E f args m R' :=
  let ⟨n, v, m', h1, h2⟩ := h; ⟨n, v, m', h1, hr _ _ h2⟩
theorem BodyW.mono {R' : AVal → Mem → Prop} (h : BodyW E fn args m R) (hr : ∀ v m', R v m' → R' v m') : BodyW E fn args m R' :=
  let ⟨n, v, m', h1, h2⟩ := h; ⟨n, v, m', h1, hr _ _ h2⟩
theorem call_open (hm : E.mode f = .open_) (hf : E.fns f = some fn) (h : BodyW E fn args ⟨m.heap, m.next, m.next⟩ fun v m' => R v ⟨m'.heap, m'.next, min m.low m'.low⟩) : CallW E f args m R := by
  obtain ⟨n, v, m', h1, h2⟩ := h
  exact ⟨n + 1, v, _, by rw [callF, hm]; simp only [hf, h1], h2⟩
theorem call_fresh (hm : E.mode f = .fresh) (hf : E.fns f = some fn) (hb : args.all AVal.bare = true) (h : BodyW E fn args ⟨.nil, m.next, m.next⟩ fun v m' => R v ⟨mergeNew m.heap m'.heap m.next (m'.next - m.next), m'.next, m.low⟩) : CallW E f args m R := by
  obtain ⟨n, v, m', h1, h2⟩ := h
  exact ⟨n + 1, v, _, by rw [callF, hm]; simp only [hf, hb, if_true, h1], h2⟩
theorem call_known (hm : E.mode f = .known) {v : AVal} {m' : Mem} (hk : E.known f args m = some (v, m')) (h : R v m') : CallW E f args m R :=
  ⟨1, v, m', by rw [callF, hm]; exact hk, h⟩
theorem call_flat (hm : E.mode f = .iso false) (hf : E.fns f = some fn) {vs : List AVal} (hv : viewAll m args = some vs) (h : BodyW E fn vs ⟨.nil, 0, 0⟩ fun v m' => (v.flat || (v.bare && args.all AVal.bare)) = true ∧ R v m) : CallW E f args m R := by
  obtain ⟨n, v, m', h1, h2, h3⟩ := h
  exact ⟨n + 1, v, m, by rw [callF, hm]; simp only [hf, hv, h1, Bool.false_eq_true, if_false, if_pos h2], h3⟩
theorem call_frz (hm : E.mode f = .iso true) (hf : E.fns f = some fn) {vs : List AVal} (hb : args.all AVal.bare = true) (h : BodyW E fn args ⟨.nil, 0, 0⟩ fun v m' => ∃ u, view m' 64 v = some u ∧ R u m) (hv : viewAll m args = some args) : CallW E f args m R := by
  obtain ⟨n, v, m', h1, u, h2, h3⟩ := h
  exact ⟨n + 1, u, m, by rw [callF, hm]; simp only [hf, hv, h1, if_true, hb, h2], h3⟩
theorem viewAll_of_bare {m : Mem} : ∀ {l : List AVal}, l.all AVal.bare = true → viewAll m l = some l
  | [], _ => rfl
  | v :: r, h => by
    simp only [List.all_cons, Bool.and_eq_true] at h
    unfold viewAll
    rw [if_pos h.1, viewAll_of_bare h.2]
/-- What a body hands back. -/
def retK (fn : AFn) (R : AVal → Mem → Prop) : Ex → St → Prop
  | .exit _, _ => False
  | _, s => ∃ vs, results1 s fn.results = some vs ∧ R (resultV vs) s.mem
theorem body_of (hl : args.length ≤ fn.ntmps) (h : Wp E fn.code ⟨argSlots args 0 .nil, m⟩ (retK fn R)) : BodyW E fn args m R := by
  obtain ⟨n, e, s, h1, h2⟩ := h
  cases e with
  | normal =>
    obtain ⟨vs, h3, h4⟩ := h2
    exact ⟨n + 1, resultV vs, s.mem, by rw [body, if_pos hl, h1]; simp [h3], h4⟩
  | ret =>
    obtain ⟨vs, h3, h4⟩ := h2
    exact ⟨n + 1, resultV vs, s.mem, by rw [body, if_pos hl, h1]; simp [h3], h4⟩
  | exit id => exact h2.elim
end
end
end Go.Am
