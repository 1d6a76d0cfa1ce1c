/- Parts of the proof, joined by program: AmCodeOk, AmRow, AmRow2, AmRow3, RtL0. -/
import Derived.Test.YtfaphhcloanhnaaPa4
import Derived.Test.YtfaphhcloanhnaaPa12
import Derived.Test.YtfaphhcloanhnaaChecked
import Derived.KernelRfl
import Derived.Test.YtfaphhcloanhnaaPa27
import Derived.ChangeStays
import Derived.ChangeArms
import Derived.WideShapes
import Derived.RowKit3
import Derived.ChangeSame
import Derived.ChangeBears
import Derived.Test.YtfaphhcloanhnaaPa22
import Derived.Test.YtfaphhcloanhnaaPa8
import Derived.Test.YtfaphhcloanhnaaRows
set_option linter.unusedSimpArgs false
set_option linter.unusedVariables false
namespace Go.Proofs.Ytfaphhcloanhnaa
open Go.Am
set_option maxRecDepth 100000
theorem k_phasorlaw20_RouteHomes : compFn Try.prog Try.f7 = some c_phasorlaw20_RouteHomes := by kernel_rfl
theorem k_route_Line : compFn Try.prog Try.f8 = some c_route_Line := by kernel_rfl
theorem k_route_Ring : compFn Try.prog Try.f10 = some c_route_Ring := by kernel_rfl
theorem k_route_Grid : compFn Try.prog Try.f12 = some c_route_Grid := by kernel_rfl
theorem k_phasorref20_Right : compFn Try.prog Try.f14 = some c_phasorref20_Right := by kernel_rfl
theorem k_phasorlaw20_num : compFn Try.prog Try.f15 = some c_phasorlaw20_num := by kernel_rfl
theorem k_route_Check : compFn Try.prog Try.f16 = some c_route_Check := by kernel_rfl
theorem k_phasorlaw20_alive : compFn Try.prog Try.f18 = some c_phasorlaw20_alive := by kernel_rfl
theorem k_route_Far : compFn Try.prog Try.f19 = some c_route_Far := by kernel_rfl
theorem k_phasorlaw20_ints : compFn Try.prog Try.f21 = some c_phasorlaw20_ints := by kernel_rfl
theorem k_route_Path : compFn Try.prog Try.f22 = some c_route_Path := by kernel_rfl
theorem k_phasorref08_Copy : compFn Try.prog Try.f24 = some c_phasorref08_Copy := by kernel_rfl
theorem k_route_Fits : compFn Try.prog Try.f25 = some c_route_Fits := by kernel_rfl
theorem k_route_Route : compFn Try.prog Try.f27 = some c_route_Route := by kernel_rfl
theorem k_phasorlaw20_routed : compFn Try.prog Try.f29 = some c_phasorlaw20_routed := by kernel_rfl
theorem k_phasorref08_Same : compFn Try.prog Try.f30 = some c_phasorref08_Same := by kernel_rfl
theorem k_route_Home : compFn Try.prog Try.f31 = some c_route_Home := by kernel_rfl
theorem k_phasorref20_Home : compFn Try.prog Try.f32 = some c_phasorref20_Home := by kernel_rfl
theorem k_route_line : compFn Try.prog Try.f33 = some c_route_line := by kernel_rfl
theorem k_phasorref20_far : compFn Try.prog Try.f34 = some c_phasorref20_far := by kernel_rfl
theorem k_slices_Contains_int_int : compFn Try.prog Try.f35 = some c_slices_Contains_int_int := by kernel_rfl
theorem k_route_steps : compFn Try.prog Try.f36 = some c_route_steps := by kernel_rfl
theorem k_route_near : compFn Try.prog Try.f37 = some c_route_near := by kernel_rfl
theorem k_route_far : compFn Try.prog Try.f38 = some c_route_far := by kernel_rfl
theorem k_route_path : compFn Try.prog Try.f39 = some c_route_path := by kernel_rfl
theorem k_phasorref20_step : compFn Try.prog Try.f40 = some c_phasorref20_step := by kernel_rfl
theorem k_circuit_Check : compFn Try.prog Try.f41 = some c_circuit_Check := by kernel_rfl
theorem k_route_Fits_1 : compFn Try.prog Try.f42 = some c_route_Fits_1 := by kernel_rfl
theorem k_slices_ContainsFunc_api_Op_api_Op : compFn Try.prog Try.f43 = some c_slices_ContainsFunc_api_Op_api_Op := by kernel_rfl
theorem k_phasorref08_May : compFn Try.prog Try.f44 = some c_phasorref08_May := by kernel_rfl
theorem k_route_Route_1 : compFn Try.prog Try.f45 = some c_route_Route_1 := by kernel_rfl
theorem k_circuit_Copy : compFn Try.prog Try.f46 = some c_circuit_Copy := by kernel_rfl
theorem k_route_laid_swap : compFn Try.prog Try.f47 = some c_route_laid_swap := by kernel_rfl
theorem k_phasorref20_laid_swap : compFn Try.prog Try.f48 = some c_phasorref20_laid_swap := by kernel_rfl
theorem k_phasorref20_laid_routed : compFn Try.prog Try.f49 = some c_phasorref20_laid_routed := by kernel_rfl
theorem k_phasorref08_SameOp : compFn Try.prog Try.f50 = some c_phasorref08_SameOp := by kernel_rfl
theorem k_slices_Clone_int_int : compFn Try.prog Try.f51 = some c_slices_Clone_int_int := by kernel_rfl
theorem k_route_Home_1 : compFn Try.prog Try.f53 = some c_route_Home_1 := by kernel_rfl
theorem k_route_up : compFn Try.prog Try.f54 = some c_route_up := by kernel_rfl
theorem k_slices_IndexFunc_int_int : compFn Try.prog Try.f55 = some c_slices_IndexFunc_int_int := by kernel_rfl
theorem k_route_Home_2 : compFn Try.prog Try.f56 = some c_route_Home_2 := by kernel_rfl
theorem k_slices_Index_int_int : compFn Try.prog Try.f57 = some c_slices_Index_int_int := by kernel_rfl
theorem k_slices_Reverse_int_int : compFn Try.prog Try.f58 = some c_slices_Reverse_int_int := by kernel_rfl
theorem k_phasorref20_apart : compFn Try.prog Try.f59 = some c_phasorref20_apart := by kernel_rfl
theorem k_phasorref20_among : compFn Try.prog Try.f60 = some c_phasorref20_among := by kernel_rfl
theorem k_phasorref20_next : compFn Try.prog Try.f61 = some c_phasorref20_next := by kernel_rfl
theorem k_slices_Compact_int_int : compFn Try.prog Try.f63 = some c_slices_Compact_int_int := by kernel_rfl
theorem k_route_path_1 : compFn Try.prog Try.f64 = some c_route_path_1 := by kernel_rfl
theorem k_circuit_may : compFn Try.prog Try.f65 = some c_circuit_may := by kernel_rfl
theorem k_slices_IndexFunc_api_Op_api_Op : compFn Try.prog Try.f66 = some c_slices_IndexFunc_api_Op_api_Op := by kernel_rfl
theorem k_phasorref08_Check : compFn Try.prog Try.f67 = some c_phasorref08_Check := by kernel_rfl
theorem k_route_swap : compFn Try.prog Try.f68 = some c_route_swap := by kernel_rfl
theorem k_phasorref08_ints : compFn Try.prog Try.f69 = some c_phasorref08_ints := by kernel_rfl
theorem k_route_up_1 : compFn Try.prog Try.f72 = some c_route_up_1 := by kernel_rfl
theorem k_phasorref20_parent : compFn Try.prog Try.f73 = some c_phasorref20_parent := by kernel_rfl
theorem k_gate_Check : compFn Try.prog Try.f75 = some c_gate_Check := by kernel_rfl
theorem k_phasorref08_Op : compFn Try.prog Try.f76 = some c_phasorref08_Op := by kernel_rfl
theorem k_gate_Arity : compFn Try.prog Try.f96 = some c_gate_Arity := by kernel_rfl
theorem k_phasorref06_Check : compFn Try.prog Try.f97 = some c_phasorref06_Check := by kernel_rfl
theorem k_phasorref08_unlike : compFn Try.prog Try.f98 = some c_phasorref08_unlike := by kernel_rfl
theorem k_gate_of : compFn Try.prog Try.f108 = some c_gate_of := by kernel_rfl
theorem k_phasorref06_Is : compFn Try.prog Try.f109 = some c_phasorref06_Is := by kernel_rfl
theorem k_phasorref06_Arity : compFn Try.prog Try.f110 = some c_phasorref06_Arity := by kernel_rfl
theorem k_gate_table : compFn Try.prog Try.f113 = some c_gate_table := by kernel_rfl
theorem tbl_ok : ∀ p ∈ tbl, ∃ fn, Try.prog.funcs[p.1]? = some fn ∧ (fn.name == "runtime.NumGoroutine") = false ∧ compFn Try.prog fn = some p.2 := by
  unfold tbl
  simp only [List.forall_mem_cons]
  exact ⟨⟨Try.f7, Try.func7, by kernel_rfl, k_phasorlaw20_RouteHomes⟩, ⟨Try.f8, Try.func8, by kernel_rfl, k_route_Line⟩, ⟨Try.f10, Try.func10, by kernel_rfl, k_route_Ring⟩, ⟨Try.f12, Try.func12, by kernel_rfl, k_route_Grid⟩, ⟨Try.f14, Try.func14, by kernel_rfl, k_phasorref20_Right⟩, ⟨Try.f15, Try.func15, by kernel_rfl, k_phasorlaw20_num⟩, ⟨Try.f16, Try.func16, by kernel_rfl, k_route_Check⟩, ⟨Try.f18, Try.func18, by kernel_rfl, k_phasorlaw20_alive⟩, ⟨Try.f19, Try.func19, by kernel_rfl, k_route_Far⟩, ⟨Try.f21, Try.func21, by kernel_rfl, k_phasorlaw20_ints⟩, ⟨Try.f22, Try.func22, by kernel_rfl, k_route_Path⟩, ⟨Try.f24, Try.func24, by kernel_rfl, k_phasorref08_Copy⟩, ⟨Try.f25, Try.func25, by kernel_rfl, k_route_Fits⟩, ⟨Try.f27, Try.func27, by kernel_rfl, k_route_Route⟩, ⟨Try.f29, Try.func29, by kernel_rfl, k_phasorlaw20_routed⟩, ⟨Try.f30, Try.func30, by kernel_rfl, k_phasorref08_Same⟩, ⟨Try.f31, Try.func31, by kernel_rfl, k_route_Home⟩, ⟨Try.f32, Try.func32, by kernel_rfl, k_phasorref20_Home⟩, ⟨Try.f33, Try.func33, by kernel_rfl, k_route_line⟩, ⟨Try.f34, Try.func34, by kernel_rfl, k_phasorref20_far⟩, ⟨Try.f35, Try.func35, by kernel_rfl, k_slices_Contains_int_int⟩, ⟨Try.f36, Try.func36, by kernel_rfl, k_route_steps⟩, ⟨Try.f37, Try.func37, by kernel_rfl, k_route_near⟩, ⟨Try.f38, Try.func38, by kernel_rfl, k_route_far⟩, ⟨Try.f39, Try.func39, by kernel_rfl, k_route_path⟩, ⟨Try.f40, Try.func40, by kernel_rfl, k_phasorref20_step⟩, ⟨Try.f41, Try.func41, by kernel_rfl, k_circuit_Check⟩, ⟨Try.f42, Try.func42, by kernel_rfl, k_route_Fits_1⟩, ⟨Try.f43, Try.func43, by kernel_rfl, k_slices_ContainsFunc_api_Op_api_Op⟩, ⟨Try.f44, Try.func44, by kernel_rfl, k_phasorref08_May⟩, ⟨Try.f45, Try.func45, by kernel_rfl, k_route_Route_1⟩, ⟨Try.f46, Try.func46, by kernel_rfl, k_circuit_Copy⟩, ⟨Try.f47, Try.func47, by kernel_rfl, k_route_laid_swap⟩, ⟨Try.f48, Try.func48, by kernel_rfl, k_phasorref20_laid_swap⟩, ⟨Try.f49, Try.func49, by kernel_rfl, k_phasorref20_laid_routed⟩, ⟨Try.f50, Try.func50, by kernel_rfl, k_phasorref08_SameOp⟩, ⟨Try.f51, Try.func51, by kernel_rfl, k_slices_Clone_int_int⟩, ⟨Try.f53, Try.func53, by kernel_rfl, k_route_Home_1⟩, ⟨Try.f54, Try.func54, by kernel_rfl, k_route_up⟩, ⟨Try.f55, Try.func55, by kernel_rfl, k_slices_IndexFunc_int_int⟩, ⟨Try.f56, Try.func56, by kernel_rfl, k_route_Home_2⟩, ⟨Try.f57, Try.func57, by kernel_rfl, k_slices_Index_int_int⟩, ⟨Try.f58, Try.func58, by kernel_rfl, k_slices_Reverse_int_int⟩, ⟨Try.f59, Try.func59, by kernel_rfl, k_phasorref20_apart⟩, ⟨Try.f60, Try.func60, by kernel_rfl, k_phasorref20_among⟩, ⟨Try.f61, Try.func61, by kernel_rfl, k_phasorref20_next⟩, ⟨Try.f63, Try.func63, by kernel_rfl, k_slices_Compact_int_int⟩, ⟨Try.f64, Try.func64, by kernel_rfl, k_route_path_1⟩, ⟨Try.f65, Try.func65, by kernel_rfl, k_circuit_may⟩, ⟨Try.f66, Try.func66, by kernel_rfl, k_slices_IndexFunc_api_Op_api_Op⟩, ⟨Try.f67, Try.func67, by kernel_rfl, k_phasorref08_Check⟩, ⟨Try.f68, Try.func68, by kernel_rfl, k_route_swap⟩, ⟨Try.f69, Try.func69, by kernel_rfl, k_phasorref08_ints⟩, ⟨Try.f72, Try.func72, by kernel_rfl, k_route_up_1⟩, ⟨Try.f73, Try.func73, by kernel_rfl, k_phasorref20_parent⟩, ⟨Try.f75, Try.func75, by kernel_rfl, k_gate_Check⟩, ⟨Try.f76, Try.func76, by kernel_rfl, k_phasorref08_Op⟩, ⟨Try.f96, Try.func96, by kernel_rfl, k_gate_Arity⟩, ⟨Try.f97, Try.func97, by kernel_rfl, k_phasorref06_Check⟩, ⟨Try.f98, Try.func98, by kernel_rfl, k_phasorref08_unlike⟩, ⟨Try.f108, Try.func108, by kernel_rfl, k_gate_of⟩, ⟨Try.f109, Try.func109, by kernel_rfl, k_phasorref06_Is⟩, ⟨Try.f110, Try.func110, by kernel_rfl, k_phasorref06_Arity⟩, ⟨Try.f113, Try.func113, by kernel_rfl, k_gate_table⟩,
    fun _ h => absurd h List.not_mem_nil⟩
end Go.Proofs.Ytfaphhcloanhnaa
namespace Go.Am

section
variable (P : Program) {H : Type}

/-- What was read, of a type: its cells. -/
def encD : Nat → TypeId → DataW H → List AVal
  | 0, _, _ => []
  | d + 1, t, x => match P.underlying t, x with
    | some .bool, .lit (.bool b) => [abool b]
    | some (.int _), .lit (.int k n) => [.sc (.int k n)]
    | some .string, .lit (.string l) => [.sc (.string ⟨l.toArray⟩)]
    | some (.pointer _), .nil => [.sc (.pointer none)]
    | some (.pointer e), .ptr y => [.ro (encD d e y)]
    | some (.slice _), .nil => [anil]
    | some (.slice e), .slice es sp => [.rs (es.flatMap (encD d e)) es.length (some (es.length + sp.length))]
    | some (.struct fs), .agg ys => (List.zipWith (fun f y => encD d (Field.type f) y) fs.toList ys).flatten
    | some (.array _ e), .agg ys => ys.flatMap (encD d e)
    | _, _ => []

/-- Fields, one behind the other without a gap. -/
def tightFs (P : Program) : List Field → Nat → Bool
  | [], _ => true
  | f :: r, off => f.offset == off && tightFs P r (off + P.cellsOf f.type)
/-- Types whose readings these are. -/
def plainT : Nat → TypeId → Bool
  | 0, _ => false
  | d + 1, t => match P.underlying t with
    | some .bool => true
    | some (.int _) => true
    | some .string => true
    | some (.pointer e) => plainT d e
    | some (.slice e) => plainT d e && decide (0 < P.cellsOf e)
    | some (.struct fs) => fs.toList.all (fun f => plainT d f.type) && tightFs P fs.toList 0 && P.cellsOf t == (fs.toList.map fun f => P.cellsOf f.type).sum
    | some (.array n e) => plainT d e && P.cellsOf t == n * P.cellsOf e
    | _ => false
end

section
variable {P : Program} {H : Type} {enc : TypeId × Value → H} {w : World} {ι : Inj} {S : Nat → Prop}

/-- Cells that stand in a row, each known. -/
theorem repL_flat {α : Type} (f : α → List AVal) (z : Nat) : ∀ (l : List α) (cs : List Value), cs.length = l.length * z → (∀ (i : Nat) a, l[i]? = some a → RepL ι S w (f a) ((cs.drop (i * z)).take z)) → RepL ι S w (l.flatMap f) cs
  | [], cs, hl, h => by
    have : cs = [] := List.length_eq_zero_iff.1 (by simpa using hl)
    subst this
    exact ⟨rfl, fun j c v hc => by simp at hc⟩
  | a :: r, cs, hl, h => by
    have h0 := h 0 a rfl
    rw [Nat.zero_mul, List.drop_zero] at h0
    have hr := repL_flat f z r (cs.drop z) (by simp at hl ⊢; rw [hl, Nat.succ_mul]; omega) (fun i b hb => by
      have := h (i + 1) b (by simpa using hb)
      rw [List.drop_drop]
      rw [Nat.succ_mul] at this
      rw [Nat.add_comm z (i * z)]
      exact this)
    have := h0.append hr
    rw [List.take_append_drop] at this
    simpa using this

theorem cell_spot {a : Addr} {v : Value} (h : w.cell? a = some v) : a.spot = none ∧ a.block < w.heap.size := by
  unfold World.cell? at h
  cases hs : a.spot with
  | some x =>
    simp only [hs, Option.isSome_some, if_true] at h
    split at h <;> simp at h
  | none =>
    simp only [hs, Option.isSome_none, Bool.false_eq_true, if_false] at h
    refine ⟨rfl, ?_⟩
    cases hh : w.heap[a.block]? with
    | none => rw [hh] at h; simp at h
    | some o => exact (Array.getElem?_eq_some_iff.1 hh).1

theorem cells?_get {a : Addr} {n : Nat} {cs : List Value} (h : w.cells? 0 a n = some cs) : cs.length = n ∧ ∀ i, i < n → ∃ v, cs[i]? = some v ∧ w.cell? (a.add i) = some v := by
  unfold World.cells? at h
  rw [if_pos (Nat.zero_le _)] at h
  have h1 := mapM_some_length h
  refine ⟨by simpa using h1, fun i hi => ?_⟩
  have := mapM_some_get h i i (by simp [hi])
  have hl : i < cs.length := by simp at h1; omega
  exact ⟨cs[i], by simp [hl], by rw [this]; simp [hl]⟩

/-- A row of elements that stays. -/
theorem row_rep {a : Addr} {z k : Nat} {asq : List AVal} {us : List (List Value)} (hus : us.length = k) (hz : ∀ u ∈ us, u.length = z) (hcell : ∀ i u, us[i]? = some u → w.cells? 0 (a.add (i * z)) z = some u)
    (hrep : RepL ι S w asq us.flatten) (hS : ∀ b, b < w.heap.size → S b) :
    ∃ vs : Nat → Value, (0 < asq.length → a.spot = none ∧ S a.block) ∧ (∀ j, j < asq.length → w.cell? ⟨a.block, a.off + j, none⟩ = some (vs j)) ∧ (∀ (j : Nat) c, asq[j]? = some c → Rep ι S w c (vs j)) := by
  have hlen : us.flatten.length = k * z := by
    clear hcell hrep
    induction us generalizing k with
    | nil => simp at hus; subst hus; simp
    | cons u r ih =>
      simp at hus
      have := ih (k := r.length) rfl (fun x hx => hz x (by simp [hx]))
      simp only [List.flatten_cons, List.length_append, this, hz u (by simp)]
      rw [← hus, Nat.succ_mul]; omega
  have hsp : 0 < k * z → a.spot = none ∧ a.block < w.heap.size := by
    intro hp
    have hz0 : 0 < z := Nat.pos_of_mul_pos_left hp
    have hk0 : 0 < us.length := by rw [hus]; exact Nat.pos_of_mul_pos_right hp
    obtain ⟨k1, k2⟩ := cells?_get (hcell 0 us[0] (by simp [hk0]))
    obtain ⟨v, _, q2⟩ := k2 0 hz0
    have e : (a.add (0 * z)).add 0 = a := by simp [Addr.add]
    rw [e] at q2
    exact cell_spot q2
  have hflat : ∀ (us : List (List Value)) (j : Nat) (hz : ∀ u ∈ us, u.length = z) (hz0 : 0 < z) (hi : j / z < us.length), us.flatten[j]? = us[j / z][j % z]? := by
    intro us
    induction us with
    | nil => intro j hz hz0 hi; simp at hi
    | cons u r ih =>
      intro j hz hz0 hi
      have hu := hz u (by simp)
      rw [List.flatten_cons]
      by_cases hlt : j < z
      · rw [List.getElem?_append_left (by omega)]
        simp [Nat.div_eq_of_lt hlt, Nat.mod_eq_of_lt hlt]
      · rw [List.getElem?_append_right (by omega), hu]
        have hj : j = (j - z) + z := by omega
        have hd : j / z = (j - z) / z + 1 := by
          conv => lhs; rw [hj]
          exact Nat.add_div_right _ hz0
        have hm : j % z = (j - z) % z := by
          conv => lhs; rw [hj]
          exact Nat.add_mod_right _ _
        have hr : (j - z) / z < r.length := by simp [hd] at hi; exact hi
        rw [ih (j - z) (fun x hx => hz x (by simp [hx])) hz0 hr, hm]
        simp only [hd, List.getElem_cons_succ]
  have hget : ∀ j, j < k * z → ∃ v, us.flatten[j]? = some v ∧ w.cell? ⟨a.block, a.off + j, none⟩ = some v := by
    intro j hj
    have hp : 0 < k * z := by omega
    have hz0 : 0 < z := Nat.pos_of_mul_pos_left hp
    have hi : j / z < us.length := by rw [hus]; exact Nat.div_lt_of_lt_mul (by rw [Nat.mul_comm]; exact hj)
    obtain ⟨k1, k2⟩ := cells?_get (hcell (j / z) us[j / z] (by simp [hi]))
    obtain ⟨v, q1, q2⟩ := k2 (j % z) (Nat.mod_lt _ hz0)
    refine ⟨v, (hflat us j hz hz0 hi).trans q1, ?_⟩
    rw [addr_eta a (hsp hp).1, addr_add_mk, addr_add_mk] at q2
    rw [Nat.add_assoc, Nat.mul_comm, Nat.div_add_mod] at q2
    exact q2
  refine ⟨fun j => us.flatten.getD j default, fun hp => ?_, fun j hj => ?_, fun j c hc => ?_⟩
  · have : 0 < k * z := by rw [← hlen, ← hrep.1]; exact hp
    exact ⟨(hsp this).1, hS _ (hsp this).2⟩
  · have hj' : j < k * z := by rw [← hlen, ← hrep.1]; exact hj
    obtain ⟨v, h1, h2⟩ := hget j hj'
    rw [h2]
    simp [h1]
  · have hj' : j < k * z := by rw [← hlen, ← hrep.1]; exact (List.getElem?_eq_some_iff.1 hc).1
    obtain ⟨v, h1, h2⟩ := hget j hj'
    refine hrep.2 j c _ hc ?_
    rw [h1]
    simp [h1]

theorem repL_flatten {α : Type} (f : α → List AVal) : ∀ (l : List α) (us : List (List Value)), l.length = us.length → (∀ (i : Nat) a u, l[i]? = some a → us[i]? = some u → RepL ι S w (f a) u) → RepL ι S w (l.flatMap f) us.flatten
  | [], [], hl, h => ⟨rfl, fun j c v hc => by simp at hc⟩
  | [], _ :: _, hl, h => by simp at hl
  | _ :: _, [], hl, h => by simp at hl
  | a :: r, u :: us, hl, h => by
    have h0 := h 0 a u rfl rfl
    have hr := repL_flatten f r us (by simpa using hl) fun i b v hb hv => h (i + 1) b v (by simpa using hb) (by simpa using hv)
    simpa using h0.append hr

theorem repL_fields (f : Field → DataW H → List AVal) : ∀ (fs : List Field) (ys : List (DataW H)) (off : Nat) (cs : List Value), fs.length = ys.length → tightFs P fs off = true → off + (fs.map fun f => P.cellsOf f.type).sum ≤ cs.length →
    (∀ (i : Nat) g y, fs[i]? = some g → ys[i]? = some y → RepL ι S w (f g y) ((cs.drop g.offset).take (P.cellsOf g.type))) →
    RepL ι S w (List.zipWith f fs ys).flatten ((cs.drop off).take (fs.map fun f => P.cellsOf f.type).sum)
  | [], [], off, cs, hl, ht, hle, h => by simp; exact ⟨rfl, fun j c v hc => by simp at hc⟩
  | [], _ :: _, off, cs, hl, ht, hle, h => by simp at hl
  | _ :: _, [], off, cs, hl, ht, hle, h => by simp at hl
  | g :: fs, y :: ys, off, cs, hl, ht, hle, h => by
    simp only [tightFs, Bool.and_eq_true, beq_iff_eq] at ht
    simp only [List.map_cons, List.sum_cons] at hle ⊢
    have h0 := h 0 g y rfl rfl
    rw [ht.1] at h0
    have hr := repL_fields f fs ys (off + P.cellsOf g.type) cs (by simpa using hl) ht.2 (by omega) fun i g' y' hg hy => h (i + 1) g' y' (by simpa using hg) (by simpa using hy)
    have := h0.append hr
    rw [← List.drop_drop, List.take_add.symm] at this
    simpa using this

theorem trod_array {e : TypeId} {k fuel : Nat} {base : Nat} {spare : Nat → Bool} {held : Bool} {t : TypeId} {cs : List Value} {x : DataW H × List MemPlace} (ht : P.underlying t = some (.array k e)) (h : DataW.trod enc P w base spare held fuel t cs = some x) :
    ∃ (xs : List (DataW H × List MemPlace)) (n : Nat), fuel = n + 1 ∧ x = (.agg (xs.map (·.1)), xs.flatMap (·.2)) ∧ cs.length = P.cellsOf t ∧ xs.length = k ∧
      ∀ i, i < k → DataW.trod enc P w base spare held n e ((cs.drop (i * P.cellsOf e)).take (P.cellsOf e)) = xs[i]? := by
  cases fuel with
  | zero => simp [DataW.trod] at h
  | succ n =>
    unfold DataW.trod at h
    rw [ht] at h
    split at h <;> simp_all
    obtain ⟨hl, xs, hp, hd⟩ := h
    exact ⟨xs, hd.symm, by simpa using mapM_some_length hp, fun i hi => by simpa using mapM_some_get hp i i (by simp [hi])⟩

theorem trod_rep (hS : ∀ b, b < w.heap.size → S b) {held : Bool} : ∀ (d n : Nat) (t : TypeId) (cs : List Value) (x : DataW H × List MemPlace), plainT P d t = true → DataW.trod enc P w 0 (fun _ => true) held n t cs = some x →
    RepL ι S w (encD P d t x.1) cs ∧ ∀ a ∈ encD P d t x.1, a.one = true
  | 0, n, t, cs, x, hp, h => by simp [plainT] at hp
  | d + 1, n, t, cs, x, hp, h => by
    have one : ∀ {a : AVal} {v : Value}, Rep ι S w a v → RepL ι S w [a] [v] := fun hr => ⟨rfl, fun j c u hc hu => by
      cases j with
      | zero => simp at hc hu; subst hc hu; exact hr
      | succ j => simp at hc⟩
    unfold plainT at hp
    split at hp
    · rename_i ht
      obtain ⟨b, rfl, rfl⟩ := DataW.trod_bool ht h
      simp only [encD, ht]
      exact ⟨one (.sc rfl), by simp [abool, AVal.one]⟩
    · rename_i k ht
      obtain ⟨b, rfl, rfl, _⟩ := DataW.trod_int ht h
      simp only [encD, ht]
      exact ⟨one (.sc rfl), by simp [AVal.one]⟩
    · rename_i ht
      obtain ⟨b, rfl, rfl, _⟩ := DataW.trod_string ht h
      simp only [encD, ht]
      exact ⟨one (.sc rfl), by simp [AVal.one]⟩
    · rename_i e ht
      rcases DataW.trod_pointer ht h with ⟨rfl, rfl⟩ | ⟨a, cs', y, m, rfl, rfl, rfl, hc, hy⟩
      · simp only [encD, ht]
        exact ⟨one (.sc rfl), by simp [AVal.one]⟩
      · simp only [encD, ht]
        obtain ⟨r1, r2⟩ := trod_rep hS d m e cs' y hp hy
        obtain ⟨c1, c2⟩ := cells?_get hc
        obtain ⟨vs, q1, q2, q3⟩ := row_rep (a := a) (z := P.cellsOf e) (k := 1) (asq := encD P d e y.1) (us := [cs']) rfl (fun u hu => by simp at hu; subst hu; exact c1) (fun i u hu => by
          cases i with
          | zero => simp at hu; subst hu; simpa [Addr.add] using hc
          | succ i => simp at hu) (by simpa using r1) hS
        exact ⟨one (.ro vs q1 q2 q3 r2), by simp [AVal.one]⟩
    · rename_i e ht
      simp only [Bool.and_eq_true] at hp
      replace hp := hp.1
      rcases DataW.trod_slice ht h with ⟨rfl, rfl⟩ | ⟨a, len, cap, elems, rest, m, rfl, rfl, rfl, _, hlc, _, hel, hE, hR, _⟩
      · simp only [encD, ht]
        exact ⟨one (.sc rfl), by simp [AVal.one, anil]⟩
      · obtain ⟨hrl, hR⟩ := hR rfl
        simp only [encD, ht, List.length_map]
        have hall : ∀ i (y : DataW H × List MemPlace), (elems ++ rest)[i]? = some y → ∃ u, w.cells? 0 (a.add (i * P.cellsOf e)) (P.cellsOf e) = some u ∧ DataW.trod enc P w 0 (fun _ => true) held m e u = some y := by
          intro i y hi
          by_cases hlt : i < len
          · rw [List.getElem?_append_left (by omega)] at hi
            have := hE i hlt
            rw [hi, Option.bind_eq_some_iff] at this
            exact this
          · rw [List.getElem?_append_right (by omega), hel] at hi
            have hj : i - len < cap - len := by have := (List.getElem?_eq_some_iff.1 hi).1; omega
            have := hR (i - len) hj
            rw [hi, Option.bind_eq_some_iff] at this
            rw [show len + (i - len) = i by omega] at this
            exact this
        have hlen : (elems ++ rest).length = cap := by simp; omega
        have hus : ∀ i u, ((List.range cap).map fun i => (w.cells? 0 (a.add (i * P.cellsOf e)) (P.cellsOf e)).getD [])[i]? = some u → i < cap ∧ w.cells? 0 (a.add (i * P.cellsOf e)) (P.cellsOf e) = some u := by
          intro i u hu
          have hi : i < cap := by have := (List.getElem?_eq_some_iff.1 hu).1; simpa using this
          obtain ⟨u', k1, _⟩ := hall i (elems ++ rest)[i] (by simp [hlen, hi])
          simp [hi, k1] at hu
          subst hu
          exact ⟨hi, k1⟩
        obtain ⟨vs, q1, q2, q3⟩ := row_rep (ι := ι) (a := a) (z := P.cellsOf e) (k := cap) (asq := (elems ++ rest).flatMap fun y => encD P d e y.1) (us := (List.range cap).map fun i => (w.cells? 0 (a.add (i * P.cellsOf e)) (P.cellsOf e)).getD []) (by simp)
          (fun u hu => by
            obtain ⟨i, hi⟩ := List.getElem?_of_mem hu
            exact (cells?_get (hus i u hi).2).1) (fun i u hu => (hus i u hu).2)
          (repL_flatten _ _ _ (by rw [hlen]; simp) fun i y u hy hu => by
            obtain ⟨u', k1, k2⟩ := hall i y hy
            have := (hus i u hu).2
            rw [k1] at this
            cases this
            exact (trod_rep hS d m e _ y hp k2).1) hS
        have ef : (elems.map (·.1)).flatMap (encD P d e) = elems.flatMap fun y => encD P d e y.1 := by
          rw [List.flatMap_map]
        rw [ef]
        rw [List.flatMap_append] at q1 q2 q3
        replace q1 : 0 < (elems.flatMap fun y => encD P d e y.1).length → a.spot = none ∧ S a.block := fun h => q1 (by rw [List.length_append]; omega)
        replace q2 := fun j (h : j < (elems.flatMap fun y => encD P d e y.1).length) => q2 j (by rw [List.length_append]; omega)
        replace q3 : ∀ (j : Nat) c, (elems.flatMap fun y => encD P d e y.1)[j]? = some c → Rep ι S w c (vs j) := fun j c h => q3 j c (by rw [List.getElem?_append_left (List.getElem?_eq_some_iff.1 h).1]; exact h)
        have hcap : elems.length + rest.length = cap := by simpa using hlen
        rw [hcap, hel]
        refine ⟨one (.rs vs hlc (fun k hk => by simpa using hk) q1 q2 q3 fun c hc => ?_), by simp [AVal.one]⟩
        obtain ⟨y, hy, hc⟩ := List.mem_flatMap.1 hc
        obtain ⟨i, hi⟩ := List.getElem?_of_mem hy
        obtain ⟨u', k1, k2⟩ := hall i y (by rw [List.getElem?_append_left (List.getElem?_eq_some_iff.1 hi).1]; exact hi)
        exact (trod_rep hS d m e _ y hp k2).2 c hc
    · rename_i fs ht
      simp only [Bool.and_eq_true, beq_iff_eq] at hp
      obtain ⟨⟨hp1, hp2⟩, hp3⟩ := hp
      obtain ⟨xs, m, rfl, rfl, hl, hxl, hx⟩ := DataW.trod_struct ht h
      simp only [encD, ht]
      have hfx : ∀ (i : Nat) g y, fs.toList[i]? = some g → (xs.map (·.1))[i]? = some y → RepL ι S w (encD P d g.type y) ((cs.drop g.offset).take (P.cellsOf g.type)) ∧ ∀ a ∈ encD P d g.type y, a.one = true := by
        intro i g y hg hy
        have := hx i g (by simpa using hg)
        simp only [List.getElem?_map, Option.map_eq_some_iff] at hy
        obtain ⟨z, hz, rfl⟩ := hy
        rw [hz] at this
        exact trod_rep hS d m g.type _ z (List.all_eq_true.1 hp1 g (List.mem_of_getElem? hg)) this
      refine ⟨?_, fun a ha => ?_⟩
      · have := repL_fields (P := P) (fun g y => encD P d g.type y) fs.toList (xs.map (·.1)) 0 cs (by simp [hxl]) hp2 (by rw [hl, hp3]; omega) (fun i g y hg hy => (hfx i g y hg hy).1)
        rw [← hp3, ← hl] at this
        simpa using this
      · obtain ⟨l, hl', ha⟩ := List.mem_flatten.1 ha
        obtain ⟨i, hi⟩ := List.getElem?_of_mem hl'
        rw [List.getElem?_zipWith] at hi
        split at hi
        · rename_i g y hg hy
          simp only [Option.some.injEq] at hi
          subst hi
          exact (hfx i g y hg hy).2 a ha
        · simp at hi
    · rename_i k e ht
      simp only [Bool.and_eq_true, beq_iff_eq] at hp
      obtain ⟨xs, m, rfl, rfl, hl, hxl, hx⟩ := trod_array ht h
      simp only [encD, ht]
      have hfx : ∀ (i : Nat) y, (xs.map (·.1))[i]? = some y → RepL ι S w (encD P d e y) ((cs.drop (i * P.cellsOf e)).take (P.cellsOf e)) ∧ ∀ a ∈ encD P d e y, a.one = true := by
        intro i y hy
        have hi : i < k := by have := (List.getElem?_eq_some_iff.1 hy).1; simpa [hxl] using this
        have := hx i hi
        simp only [List.getElem?_map, Option.map_eq_some_iff] at hy
        obtain ⟨z, hz, rfl⟩ := hy
        rw [hz] at this
        exact trod_rep hS d m e _ z hp.1 this
      refine ⟨repL_flat _ (P.cellsOf e) _ cs (by rw [hl, hp.2]; simp [hxl]) fun i y hy => (hfx i y hy).1, fun a ha => ?_⟩
      obtain ⟨y, hy, ha⟩ := List.mem_flatMap.1 ha
      obtain ⟨i, hi⟩ := List.getElem?_of_mem hy
      exact (hfx i y hi).2 a ha
    · simp at hp
end
end Go.Am
namespace Go.Am

/-- A parameter's value. -/
def valD (P : Program) {H : Type} (d : Nat) (t : TypeId) (x : DataW H) : AVal :=
  match P.underlying t with
  | some (.struct _) => .agg (encD P d t x)
  | some (.array _ _) => .agg (encD P d t x)
  | _ => (encD P d t x).headD (.tup [])

section
variable {P : Program} {H : Type} {enc : TypeId × Value → H} {w w' : World} {ι : Inj} {S : Nat → Prop}

theorem val_rep (hS : ∀ b, b < w.heap.size → S b) {held : Bool} {d : Nat} {t : TypeId} {v : Value} {x : DataW H} {ps : List MemPlace} {r : Reach} {base : Nat} (hp : plainT P d t = true) (hv : Value.okWide P w r base t v) (h : DataW.Trod enc P w 0 (fun _ => true) held t v x ps) : Rep ι S w (valD P d t x) v := by
  obtain ⟨n, h⟩ := h
  obtain ⟨h1, _⟩ := trod_rep (ι := ι) hS d n t _ _ hp h
  cases d with
  | zero => simp [plainT] at hp
  | succ d =>
  have one : ∀ {a : List AVal} {u : Value}, RepL ι S w a [u] → Rep ι S w (a.headD (.tup [])) u := by
    intro a u hr
    match a, hr with
    | [c], hr => exact hr.2 0 c u rfl rfl
    | [], hr => exact absurd hr.1 (by simp)
    | _ :: _ :: _, hr => exact absurd hr.1 (by simp)
  unfold plainT at hp
  split at hp
  · rename_i ht
    obtain ⟨b, rfl⟩ := WideShapes.okWide_bool ht hv
    simp only [valD, ht]
    exact one h1
  · rename_i k ht
    obtain ⟨b, rfl⟩ := WideShapes.okWide_int ht hv
    simp only [valD, ht]
    exact one h1
  · rename_i ht
    obtain ⟨b, rfl⟩ := WideShapes.okWide_string ht hv
    simp only [valD, ht]
    exact one h1
  · rename_i e ht
    obtain ⟨b, rfl⟩ := WideShapes.okWide_pointer ht hv
    simp only [valD, ht]
    exact one h1
  · rename_i e ht
    obtain ⟨b, l, c, rfl⟩ := WideShapes.okWide_slice ht hv
    simp only [valD, ht]
    exact one h1
  · rename_i fs ht
    obtain ⟨cs, rfl, _⟩ := WideShapes.okWide_struct ht hv
    simp only [valD, ht]
    exact rep_agg_mk h1
  · rename_i n e ht
    simp only [Value.okWide, ht] at hv
    obtain ⟨cs, rfl, _⟩ := hv
    simp only [valD, ht]
    exact rep_agg_mk h1
  · simp at hp

theorem tight_take : ∀ (fs : List Field) (off : Nat), tightFs P fs off = true → ∀ (j : Nat) f, fs[j]? = some f → f.offset = off + ((fs.take j).map fun f => P.cellsOf f.type).sum
  | [], off, h, j, f, hf => by simp at hf
  | g :: fs, off, h, j, f, hf => by
    simp only [tightFs, Bool.and_eq_true, beq_iff_eq] at h
    cases j with
    | zero => simp at hf; subst hf; simp [h.1]
    | succ j =>
      have := tight_take fs _ h.2 j f (by simpa using hf)
      rw [this]
      simp
      omega

theorem kids_plain : Kids P (fun t => ∃ d, plainT P d t = true) := by
  refine ⟨fun {t e} h ht => ?_, fun {t e} h ht => ?_, fun {t e n} h ht => ?_, fun {t fs} h ht => ?_, fun {t k e} h ht => ?_⟩
  all_goals
    obtain ⟨d, h⟩ := h
    cases d with
    | zero => simp [plainT] at h
    | succ d => ?_
  all_goals simp only [plainT, ht] at h
  · exact ⟨d, h⟩
  · simp only [Bool.and_eq_true] at h
    exact ⟨d, h.1⟩
  · simp only [Bool.and_eq_true, beq_iff_eq] at h
    exact ⟨⟨d, h.1⟩, h.2⟩
  · simp only [Bool.and_eq_true, beq_iff_eq] at h
    refine ⟨fun f hf => ⟨d, List.all_eq_true.1 h.1.1 f hf⟩, h.2, fun j f hf => ?_⟩
    have := tight_take _ _ h.1.2 j f hf
    simpa using this
  · simp at h

/-- What was there has not turned. -/
structure StillW (w w' : World) : Prop where
  kept : w.keptBut w' fun _ => False
  frz : ∀ a : Addr, a.block < w.heap.size → w'.frozen? a = w.frozen? a
  size : w.heap.size ≤ w'.heap.size
theorem still_of (h : WStep (fun _ => False) w w') : StillW w w' := by
  refine ⟨⟨h.os, h.output, fun i hi => ?_⟩, fun a ha => ?_, h.size⟩
  · rw [h.keep i hi (fun f => f)]
    split
    · rename_i h1 h2
      rw [h1] at h2
      cases h2
      exact ⟨rfl, rfl, rfl, fun _ _ => rfl⟩
    · rename_i h1 h2
      rw [h1] at h2
      cases h2
      exact .inr ⟨rfl, rfl⟩
    · rfl
  · unfold World.frozen?
    rw [h.keep _ ha (fun f => f)]
open Go.ChangeShapes Go.WideShapes in
/-- As the kit's 'post_of_same'; of frozen cells those that were there count. -/
theorem post_of_still {f : Func} {s : ChangeSpec} {apart fresh handsOn again : Bool} {W W' : World} {args : Array Value} {v : Value} {ds gs : List (DataW H)} {before pa pv : List MemPlace}
    (hW : DataW.Whole enc P f.params.toList s.vars apart W args.toList ds gs before)
    (hres : ∀ (b : Nat) (sp : Nat → Bool) (hd : Bool), DataW.TrodAll enc P W' b sp hd f.resultTypes.toList (v.resultList f.resultTypes.size) (s.fn H (ds ++ gs)).results [])
    (hargs : ∀ sp : Nat → Bool, (∀ p ∈ before, sp p.block = true) → DataW.TrodAll enc P W' 0 sp true f.params.toList args.toList (s.fn H (ds ++ gs)).args pa)
    (hvars : ∀ sp : Nat → Bool, (∀ p ∈ before, sp p.block = true) → DataW.TrodVars enc P W' sp s.vars (s.fn H (ds ++ gs)).vars pv)
    (hps : before = pa ++ pv) (hst : StillW W W')
    (hok : ∀ (j : Nat) (t : TypeId) (r : Value), f.resultTypes[j]? = some t → (v.resultList f.resultTypes.size)[j]? = some r → Value.okWide P W' .any 0 t r) :
    s.post enc P f apart fresh handsOn again W args v W' := by
  have hlt : ∀ p ∈ before, p.block < W.heap.size := fun p hp => hW.lt p hp
  have hold : ∀ p ∈ before, (fun b => decide (b < W.heap.size)) p.block = true := fun p hp => by simpa using hW.lt p hp
  refine ⟨ds, gs, before, [], pa, pv, hW, hres _ _ _, hargs _ hold, hvars _ hold, World.keptBut_mono (fun p hp => hp.elim) hst.kept, fun _ => ?_⟩
  obtain ⟨_, _, _, _, _, hz, hn⟩ := hW
  refine ⟨hok, _, _, ([] ++ pa) ++ pv, ⟨[] ++ pa, pv, trodAll_append (hargs _ (fun _ _ => rfl)) (hres _ _ _), hvars _ (fun _ _ => rfl), rfl, ?_, ?_⟩, ?_⟩
  · intro b off hp
    have hp' : MemPlace.cell b off ∈ before := by rw [hps]; simpa using hp
    rw [hst.frz ⟨b, off, none⟩ (hlt _ hp')]
    exact hz b off hp'
  · intro ha
    have := hn ha
    rw [hps] at this
    simpa using this
  · intro p hp _
    rw [hps]
    simpa using hp

theorem same_of (h : WStep (fun _ => False) w w') {p : MemPlace} (hp : p.block < w.heap.size) : w.sameAt w' p := by
  cases p with
  | cell b off => exact cell?_of_heap (a := ⟨b, off, none⟩) (h.keep b hp (fun f => f))
  | map b => exact h.keep b hp (fun f => f)

theorem trodAll_again {sp : Nat → Bool} (h : WStep (fun _ => False) w w') : ∀ {ts : List TypeId} {vs : List Value} {ds : List (DataW H)} {ps : List MemPlace}, (∀ t ∈ ts, ∃ d, plainT P d t = true) → DataW.TrodAll enc P w 0 (fun _ => true) true ts vs ds ps → (∀ p ∈ ps, sp p.block = true) →
    DataW.TrodAll enc P w' 0 sp true ts vs ds ps
  | [], [], [], ps, hp, ht, hs => ht
  | t :: ts, v :: vs, d :: ds, ps, hp, ⟨p, q, ⟨n, h1⟩, h2, e⟩, hs => by
    subst e
    refine ⟨p, q, ⟨n, DataW.trod_stays kids_plain (fun {t e} hT hu => ?_) (fun hh => by cases hh) (hp t (by simp)) h1 (fun x hx => same_of h (DataW.trod_lt n _ _ _ h1 x hx)) (fun x hx => hs x (by simp [hx]))⟩,
      trodAll_again h (fun t' ht' => hp t' (by simp [ht'])) h2 (fun x hx => hs x (by simp [hx])), rfl⟩
    obtain ⟨d, hT⟩ := hT
    cases d with
    | zero => simp [plainT] at hT
    | succ d =>
      simp only [plainT, hu, Bool.and_eq_true, decide_eq_true_eq] at hT
      exact hT.2
  | [], [], _ :: _, ps, hp, ht, hs => by simp [DataW.TrodAll] at ht
  | [], _ :: _, _, ps, hp, ht, hs => by simp [DataW.TrodAll] at ht
  | _ :: _, [], _, ps, hp, ht, hs => by simp [DataW.TrodAll] at ht
  | _ :: _, _ :: _, [], ps, hp, ht, hs => by simp [DataW.TrodAll] at ht

theorem vals_rep (hS : ∀ b, b < w.heap.size → S b) {k : Nat} {r : Reach} {base : Nat} : ∀ {ts : List TypeId} {vs : List Value} {ds : List (DataW H)} {ps : List MemPlace}, (∀ t ∈ ts, plainT P k t = true) → (∀ (j : Nat) t v, ts[j]? = some t → vs[j]? = some v → Value.okWide P w r base t v) →
    DataW.TrodAll enc P w 0 (fun _ => true) true ts vs ds ps → RepL ι S w (List.zipWith (valD P k) ts ds) vs
  | [], [], [], ps, hp, hv, ht => ⟨rfl, fun j c v hc => by simp at hc⟩
  | t :: ts, v :: vs, d :: ds, ps, hp, hv, ⟨p, q, h1, h2, e⟩ => by
    have h0 : Rep ι S w (valD P k t d) v := val_rep hS (hp t (by simp)) (hv 0 t v rfl rfl) h1
    have hr : RepL ι S w (List.zipWith (valD P k) ts ds) vs := vals_rep hS (fun t' ht' => hp t' (by simp [ht'])) (fun j t' v' hj hv' => hv (j + 1) t' v' (by simpa using hj) (by simpa using hv')) h2
    refine ⟨by simp [← hr.1], fun j c u hc hu => ?_⟩
    cases j with
    | zero => simp at hc hu; subst hc hu; exact h0
    | succ j => exact hr.2 j c u (by simpa using hc) (by simpa using hu)
  | [], [], _ :: _, ps, hp, hv, ht => by simp [DataW.TrodAll] at ht
  | [], _ :: _, _, ps, hp, hv, ht => by simp [DataW.TrodAll] at ht
  | _ :: _, [], _, ps, hp, hv, ht => by simp [DataW.TrodAll] at ht
  | _ :: _, _ :: _, [], ps, hp, hv, ht => by simp [DataW.TrodAll] at ht

/-- What a law's row asks, of the evaluator's answer. -/
theorem law_calls {E : Env} (hE : EnvOk P E) {f : FuncId} {ts : List TypeId} {args : Array Value} {ds : List (DataW H)} {ps : List MemPlace} {k : Nat} {r : Reach} {base : Nat} (hp : ∀ t ∈ ts, plainT P k t = true)
    (hv : ∀ (j : Nat) t v, ts[j]? = some t → args.toList[j]? = some v → Value.okWide P w r base t v) (ht : DataW.TrodAll enc P w 0 (fun _ => true) true ts args.toList ds ps)
    {n : Nat} {b : Bool} {m' : Mem} (hlaw : callF E n (.func f) (List.zipWith (valD P k) ts ds) ⟨.nil, 0, 0⟩ = some (abool b, m')) :
    Calls P f args w fun e w' => e = .returned (.bool b) ∧ StillW w w' ∧ ∀ sp : Nat → Bool, (∀ p ∈ ps, sp p.block = true) → DataW.TrodAll enc P w' 0 sp true ts args.toList ds ps := by
  have hsim := sim_of hE hlaw (fun _ => none) (fun b => b < w.heap.size) w args.toList (vals_rep (fun _ h => h) hp hv ht) (mrel_none fun _ h => h) (fun _ _ _ => rfl)
  rw [show args.toList.toArray = args by simp] at hsim
  refine hsim.mono fun e w' ⟨u, ι', S', he, hpost⟩ => ?_
  have hstep : WStep (fun _ => False) w w' := hpost.step.mono fun b _ h => own_none h
  have hu := rep_bool hpost.rep
  subst hu
  exact ⟨he, still_of hstep, fun sp hs => trodAll_again hstep (fun t ht => ⟨k, hp t ht⟩) ht hs⟩
end
end Go.Am
namespace Go.Am
/-- What a reading of this type looks like. -/
def shD (P : Program) {H : Type} : Nat → TypeId → DataW H → Prop
  | 0, _, _ => False
  | d + 1, t, x => match P.underlying t with
    | some .bool => ∃ b, x = .lit (.bool b)
    | some (.int k) => ∃ n, x = .lit (.int k n) ∧ (Lit.int k n).wf = true
    | some .string => ∃ l, x = .lit (.string l)
    | some (.pointer e) => x = .nil ∨ ∃ y, x = .ptr y ∧ shD P d e y
    | some (.slice e) => x = .nil ∨ ∃ es sp, x = .slice es sp ∧ ∀ y ∈ es, shD P d e y
    | some (.struct fs) => ∃ ys, x = .agg ys ∧ ys.length = fs.size ∧ ∀ (i : Nat) f y, fs[i]? = some f → ys[i]? = some y → shD P d (Field.type f) y
    | some (.array k e) => ∃ ys, x = .agg ys ∧ ys.length = k ∧ ∀ y ∈ ys, shD P d e y
    | _ => False
section
variable {P : Program} {H : Type} {enc : TypeId × Value → H} {w : World}
theorem trod_sh {held : Bool} : ∀ (d n : Nat) (t : TypeId) (cs : List Value) (x : DataW H × List MemPlace), plainT P d t = true → DataW.trod enc P w 0 (fun _ => true) held n t cs = some x → shD P d t x.1
  | 0, n, t, cs, x, hp, h => by simp [plainT] at hp
  | d + 1, n, t, cs, x, hp, h => by
    unfold plainT at hp
    split at hp
    · rename_i ht
      obtain ⟨b, -, rfl⟩ := DataW.trod_bool ht h
      simp only [shD, ht]
      exact ⟨b, rfl⟩
    · rename_i k ht
      obtain ⟨m, -, rfl, hw⟩ := DataW.trod_int ht h
      simp only [shD, ht]
      exact ⟨m, rfl, hw⟩
    · rename_i ht
      obtain ⟨s, -, rfl, -⟩ := DataW.trod_string ht h
      simp only [shD, ht]
      exact ⟨_, rfl⟩
    · rename_i e ht
      simp only [shD, ht]
      rcases DataW.trod_pointer ht h with ⟨-, rfl⟩ | ⟨a, cs', y, m, -, -, rfl, -, hy⟩
      · exact .inl rfl
      · exact .inr ⟨_, rfl, trod_sh d m e _ y hp hy⟩
    · rename_i e ht
      simp only [shD, ht]
      simp only [Bool.and_eq_true] at hp
      rcases DataW.trod_slice ht h with ⟨-, rfl⟩ | ⟨a, len, cap, elems, rest, m, -, -, rfl, -, -, -, hel, hE, -, -⟩
      · exact .inl rfl
      · refine .inr ⟨_, _, rfl, fun y hy => ?_⟩
        obtain ⟨z, hz, rfl⟩ := List.mem_map.1 hy
        obtain ⟨i, hi⟩ := List.getElem?_of_mem hz
        have hlt : i < len := by have := (List.getElem?_eq_some_iff.1 hi).1; omega
        have := hE i hlt
        rw [hi, Option.bind_eq_some_iff] at this
        obtain ⟨u, -, k2⟩ := this
        exact trod_sh d m e _ z hp.1 k2
    · rename_i fs ht
      simp only [shD, ht]
      simp only [Bool.and_eq_true] at hp
      obtain ⟨xs, m, -, rfl, -, hl, hf⟩ := DataW.trod_struct ht h
      refine ⟨_, rfl, by simp [hl], fun i f y h1 h2 => ?_⟩
      rw [List.getElem?_map, Option.map_eq_some_iff] at h2
      obtain ⟨z, hz, rfl⟩ := h2
      have := hf i f h1
      rw [hz] at this
      exact trod_sh d m f.type _ z (List.all_eq_true.1 hp.1.1 f (by
        have : f ∈ fs.toList := by
          rw [← Array.getElem?_toList] at h1
          exact List.mem_of_getElem? h1
        exact this)) this
    · rename_i k e ht
      simp only [shD, ht]
      simp only [Bool.and_eq_true] at hp
      obtain ⟨xs, m, -, rfl, -, hl, hf⟩ := trod_array ht h
      refine ⟨_, rfl, by simp [hl], fun y hy => ?_⟩
      obtain ⟨z, hz, rfl⟩ := List.mem_map.1 hy
      obtain ⟨i, hi⟩ := List.getElem?_of_mem hz
      have hlt : i < k := by have := (List.getElem?_eq_some_iff.1 hi).1; omega
      have := hf i hlt
      rw [hi] at this
      exact trod_sh d m e _ z hp.1 this
    · simp at hp
end
section
variable {P : Program} {H : Type} {d : Nat} {t : TypeId} {x : DataW H}
theorem shD_int {k : IntKind} (ht : P.underlying t = some (.int k)) (h : shD P (d + 1) t x) : ∃ n, x = .lit (.int k n) ∧ (Lit.int k n).wf = true ∧ encD P (d + 1) t x = [.sc (.int k n)] := by
  rw [shD] at h
  simp only [ht] at h
  obtain ⟨n, rfl, hw⟩ := h
  exact ⟨n, rfl, hw, by simp only [encD, ht]⟩
theorem shD_slice {e : TypeId} (ht : P.underlying t = some (.slice e)) (h : shD P (d + 1) t x) : (x = .nil ∧ encD P (d + 1) t x = [anil]) ∨ ∃ es sp, x = .slice es sp ∧ (∀ y ∈ es, shD P d e y) ∧ encD P (d + 1) t x = [.rs (es.flatMap (encD P d e)) es.length (some (es.length + sp.length))] := by
  rw [shD] at h
  simp only [ht] at h
  rcases h with rfl | ⟨es, sp, rfl, hy⟩
  · exact .inl ⟨rfl, by simp only [encD, ht]⟩
  · exact .inr ⟨es, sp, rfl, hy, by simp only [encD, ht]⟩
theorem shD_struct {fs : Array Field} (ht : P.underlying t = some (.struct fs)) (h : shD P (d + 1) t x) : ∃ ys, x = .agg ys ∧ ys.length = fs.size ∧ (∀ (i : Nat) f y, fs[i]? = some f → ys[i]? = some y → shD P d (Field.type f) y) ∧ encD P (d + 1) t x = (List.zipWith (fun f y => encD P d (Field.type f) y) fs.toList ys).flatten ∧ valD P (d + 1) t x = .agg (encD P (d + 1) t x) := by
  rw [shD] at h
  simp only [ht] at h
  obtain ⟨ys, rfl, h1, h2⟩ := h
  exact ⟨ys, rfl, h1, h2, by simp only [encD, ht], by unfold valD; simp only [ht]⟩
theorem shD_array {k : Nat} {e : TypeId} (ht : P.underlying t = some (.array k e)) (h : shD P (d + 1) t x) : ∃ ys, x = .agg ys ∧ ys.length = k ∧ (∀ y ∈ ys, shD P d e y) ∧ encD P (d + 1) t x = ys.flatMap (encD P d e) := by
  rw [shD] at h
  simp only [ht] at h
  obtain ⟨ys, rfl, h1, h2⟩ := h
  exact ⟨ys, rfl, h1, h2, by simp only [encD, ht]⟩
end
end Go.Am
namespace Go.Proofs.Ytfaphhcloanhnaa
open Go.Am Go.Proofs
set_option maxRecDepth 100000
section
variable {H : Type}
theorem two {α : Type} {l : List α} (h : l.length = 2) : ∃ a b, l = [a, b] := by
  match l, h with
  | [a, b], _ => exact ⟨a, b, rfl⟩
theorem sh_pair {d : Nat} {x : DataW H} (h : shD Try.prog (d + 2) 50 x) : 2 ≤ Rows.uptoBulk x ∧ ∃ a b : Int, encD Try.prog (d + 2) 50 x = [aint a, aint b] := by
  obtain ⟨ys, rfl, hl, hy, e⟩ := shD_array Try.underlying50 h
  obtain ⟨a, b, rfl⟩ := two hl
  obtain ⟨m, rfl, -, e1⟩ := shD_int Try.underlying3 (hy a (by simp))
  obtain ⟨n, -, -, e2⟩ := shD_int Try.underlying3 (hy b (by simp))
  refine ⟨by simp only [Rows.uptoBulk, Rows.uptoBulkAll]; omega, m, n, ?_⟩
  rw [e, List.flatMap_cons, List.flatMap_cons, List.flatMap_nil, e1, e2]
  rfl
theorem sh_pairs {d : Nat} {x : DataW H} (h : shD Try.prog (d + 3) 22 x) : ∃ (s : AVal) (ps : List (Int × Int)), encD Try.prog (d + 3) 22 x = [s] ∧ SlP s ps ∧ 2 * ps.length ≤ Rows.uptoBulk x := by
  rcases shD_slice Try.underlying22 h with ⟨rfl, e⟩ | ⟨es, sp, rfl, hy, e⟩
  · exact ⟨anil, [], e, .inl ⟨rfl, rfl, rfl⟩, by simp⟩
  · have : ∃ ps : List (Int × Int), es.flatMap (encD Try.prog (d + 2) 50) = pcells ps ∧ ps.length = es.length ∧ 2 * es.length ≤ Rows.uptoBulkAll es := by
      clear e h sp
      induction es with
      | nil => exact ⟨[], rfl, rfl, by simp⟩
      | cons e r ih =>
        obtain ⟨h5, a, b, h1⟩ := sh_pair (d := d) (hy e (by simp))
        obtain ⟨ps, h2, h3, h4⟩ := ih fun y hy' => hy y (by simp [hy'])
        refine ⟨(a, b) :: ps, ?_, by simp [h3], by simp only [Rows.uptoBulkAll, List.length_cons]; omega⟩
        rw [List.flatMap_cons, h1, h2]
        rfl
    obtain ⟨ps, h1, h2, h3⟩ := this
    refine ⟨_, ps, e, .inr ⟨some (es.length + sp.length), by rw [h1, h2]⟩, by simp only [Rows.uptoBulk]; omega⟩
theorem sh_coupling {d : Nat} {x : DataW H} (h : shD Try.prog (d + 4) 24 x) : ∃ (N : Int) (s : AVal) (ps : List (Int × Int)), valD Try.prog (d + 4) 24 x = .agg [aint N, s] ∧ SlP s ps ∧ 2 * ps.length ≤ Rows.uptoBulk x := by
  obtain ⟨ys, rfl, hl, hy, e, ev⟩ := shD_struct Try.underlying24 h
  obtain ⟨a, b, rfl⟩ := two hl
  obtain ⟨n, -, -, e1⟩ := shD_int (d := d + 2) Try.underlying3 (hy 0 _ a rfl rfl)
  obtain ⟨s, ps, e2, h2, h3⟩ := sh_pairs (d := d) (hy 1 _ b rfl rfl)
  refine ⟨n, s, ps, ?_, h2, by simp only [Rows.uptoBulk, Rows.uptoBulkAll]; omega⟩
  rw [ev, e]
  show AVal.agg (List.flatten [encD Try.prog (d + 3) 3 a, encD Try.prog (d + 3) 22 b]) = _
  rw [e1, e2]
  rfl
end
end Go.Proofs.Ytfaphhcloanhnaa
