/- Parts of the proof, joined by program: CiCD, RwO1, CiCC, RwR1, RwR2, RwR3, RwP1, RwP2, RwO2, RwO3, CiCG. -/
import Derived.Test.YtmflheoafeenfaaGreatPa19
set_option linter.unusedSimpArgs false
set_option linter.unusedVariables false
namespace Go.Proofs.YtmflheoafeenfaaGreat
open Go.Am
set_option maxRecDepth 4000
structure OpD where
  kind : Int
  gate : Int
  qs : List Int
  bit : Int
  ifc : Int
  whn : Int
  deriving DecidableEq, Inhabited
structure CircD where
  qubits : Int
  bits : Int
  ops : List OpD
  deriving DecidableEq, Inhabited
def opCells (q : AVal) (o : OpD) : List AVal := [aint o.kind, aint o.gate, q, aint o.bit, aint o.ifc, aint o.whn]
/-- The cells of a row of operations. -/
inductive OpsC : List AVal → List OpD → Prop where
  | nil : OpsC [] []
  | cons {q : AVal} {o : OpD} {cs : List AVal} {os : List OpD} (hq : SlI q o.qs) (hb : o.qs.length < 2 ^ 62) (h : OpsC cs os) : OpsC (opCells q o ++ cs) (o :: os)
def OpsA (v : AVal) (os : List OpD) : Prop := ∃ cs, RowA v cs os.length ∧ OpsC cs os ∧ os.length < 2 ^ 62
def CircA (v : AVal) (c : CircD) : Prop := ∃ s, v = .agg [aint c.qubits, aint c.bits, s] ∧ OpsA s c.ops
theorem OpsC.length {cs : List AVal} {os : List OpD} (h : OpsC cs os) : cs.length = os.length * 6 := by
  induction h with
  | nil => rfl
  | cons hq hb h ih => simp only [opCells, List.cons_append, List.nil_append, List.length_cons, ih]; omega
/-- One operation out of a row. -/
structure OpAt (cs : List AVal) (k : Nat) (q : AVal) (o : OpD) : Prop where
  hq : SlI q o.qs
  b : o.qs.length < 2 ^ 62
  lt : k * 6 < cs.length
  seg : seg (cs.drop (k * 6)) 0 6 = some (opCells q o)
  f0 : (cs.drop (k * 6))[0]? = some (aint o.kind)
  f1 : ((cs.drop (k * 6)).drop 1)[0]? = some (aint o.gate)
  f2 : ((cs.drop (k * 6)).drop 2)[0]? = some q
  f3 : ((cs.drop (k * 6)).drop 3)[0]? = some (aint o.bit)
  f4 : ((cs.drop (k * 6)).drop 4)[0]? = some (aint o.ifc)
  f5 : ((cs.drop (k * 6)).drop 5)[0]? = some (aint o.whn)
  l6 : 6 ≤ (cs.drop (k * 6)).length
theorem OpsC.at {cs : List AVal} {os : List OpD} (h : OpsC cs os) : ∀ {k : Nat}, k < os.length → ∃ q, OpAt cs k q (os.getD k default) := by
  induction h with
  | nil => intro k hk; simp at hk
  | @cons q o cs os hq hb h ih =>
    intro k hk
    cases k with
    | zero =>
      refine ⟨q, ?_⟩
      have hl : (opCells q o ++ cs).length = cs.length + 6 := by simp [opCells]
      constructor <;> simp_all [opCells, Am.seg]
    | succ k =>
      obtain ⟨q', h1⟩ := ih (k := k) (by simpa using hk)
      have e : (opCells q o ++ cs).drop ((k + 1) * 6) = cs.drop (k * 6) := by
        have : (k + 1) * 6 = (opCells q o).length + k * 6 := by simp [opCells]; omega
        rw [this, List.drop_append, Nat.add_sub_cancel_left, List.drop_of_length_le (by omega), List.nil_append]
      refine ⟨q', ?_⟩
      have e2 : (o :: os).getD (k + 1) default = os.getD k default := by simp
      rw [e2]
      have hl : (opCells q o ++ cs).length = cs.length + 6 := by simp [opCells]
      exact ⟨h1.hq, h1.b, by rw [hl]; have := h1.lt; omega, by rw [e]; exact h1.seg, by rw [e]; exact h1.f0, by rw [e]; exact h1.f1, by rw [e]; exact h1.f2, by rw [e]; exact h1.f3, by rw [e]; exact h1.f4, by rw [e]; exact h1.f5, by rw [e]; exact h1.l6⟩
theorem OpsC.getE {cs : List AVal} {os : List OpD} {k : Nat} (h : OpsC cs os) (hk : k < os.length) : ∃ q, SlI q (os.getD k default).qs ∧ (os.getD k default).qs.length < 2 ^ 62 ∧ k * 6 < cs.length ∧ Am.seg (cs.drop (k * 6)) 0 6 = some (opCells q (os.getD k default)) := by
  obtain ⟨q, ha⟩ := h.at hk
  exact ⟨q, ha.hq, ha.b, ha.lt, ha.seg⟩
theorem OpsC.bare {cs : List AVal} {os : List OpD} (h : OpsC cs os) : ∀ c ∈ cs, c.bare = true := by
  induction h with
  | nil => intro c hc; simp at hc
  | @cons q o cs os hq hb h ih =>
    intro c hc
    simp only [opCells, List.cons_append, List.nil_append, List.mem_cons] at hc
    rcases hc with rfl | rfl | rfl | rfl | rfl | rfl | hc
    · rfl
    · rfl
    · exact bare_SlI hq
    · rfl
    · rfl
    · rfl
    · exact ih c hc
theorem OpsA.bare {v : AVal} {os : List OpD} (h : OpsA v os) : v.bare = true := by
  obtain ⟨cs, h1, h2, -⟩ := h
  exact bare_Row h1 h2.bare
theorem CircA.bare {v : AVal} {c : CircD} (h : CircA v c) : v.bare = true := by
  obtain ⟨s, rfl, h⟩ := h
  simp [AVal.bare, bareAll, aint, h.bare]

/-! What may be -/
def okAt (n : Int) (l : List Int) (i : Nat) : Prop := 0 ≤ l.getD i 0 ∧ l.getD i 0 < n ∧ ∀ j, j < i → l.getD j 0 ≠ l.getD i 0
def Qs (n : Int) (l : List Int) : Prop := ∀ i, i < l.length → okAt n l i
def arity (k : Int) : Int := if k < 1 ∨ 20 < k then 0 else if k ≤ 10 then 1 else if k ≤ 17 then 2 else 3
/-- Which error: no kind, wires that may not be, none. -/
def gateE (k : Int) (l : List Int) (n e : Int) : Prop := (e = 0 ∧ arity k ≠ 0 ∧ (l.length : Int) = arity k ∧ Qs n l) ∨ (e = 60 ∧ arity k = 0) ∨ (e = 61 ∧ arity k ≠ 0 ∧ ¬((l.length : Int) = arity k ∧ Qs n l))
def condOk (o : OpD) (b : Int) : Prop := (o.ifc = -1 ∧ o.whn = 0) ∨ (0 ≤ o.ifc ∧ o.ifc < b ∧ (o.whn = 0 ∨ o.whn = 1))
def OpOk (o : OpD) (n b : Int) : Prop :=
  (o.kind = 1 ∧ arity o.gate ≠ 0 ∧ (o.qs.length : Int) = arity o.gate ∧ Qs n o.qs ∧ o.bit = 0 ∧ condOk o b) ∨
  (o.kind = 2 ∧ o.gate = 0 ∧ o.ifc = -1 ∧ o.whn = 0 ∧ o.qs.length = 1 ∧ Qs n o.qs ∧ 0 ≤ o.bit ∧ o.bit < b) ∨
  (o.kind = 3 ∧ o.gate = 0 ∧ o.ifc = -1 ∧ o.whn = 0 ∧ o.qs.length = 1 ∧ Qs n o.qs ∧ o.bit = 0) ∨
  (o.kind = 4 ∧ o.gate = 0 ∧ o.ifc = -1 ∧ o.whn = 0 ∧ o.qs.length ≠ 0 ∧ Qs n o.qs ∧ o.bit = 0)
structure CircOk (c : CircD) : Prop where
  q0 : 0 ≤ c.qubits
  q1 : c.qubits ≤ 64
  b0 : 0 ≤ c.bits
  b1 : c.bits ≤ 64
  len : c.ops.length ≤ 4096
  ok : ∀ k, k < c.ops.length → OpOk (c.ops.getD k default) c.qubits c.bits
theorem mem_take_iff {l : List Int} {x : Int} {k : Nat} (hk : k ≤ l.length) : x ∈ l.take k ↔ ∃ j, j < k ∧ l.getD j 0 = x := by
  rw [List.mem_take_iff_getElem]
  constructor
  · rintro ⟨j, hj, e⟩
    exact ⟨j, by omega, by simp [List.getD_eq_getElem?_getD, List.getElem?_eq_getElem (show j < l.length by omega), e]⟩
  · rintro ⟨j, hj, e⟩
    exact ⟨j, by omega, by simpa [List.getD_eq_getElem?_getD, List.getElem?_eq_getElem (show j < l.length by omega)] using e⟩
theorem okAt_iff {n : Int} {l : List Int} {k : Nat} (hk : k < l.length) : okAt n l k ↔ 0 ≤ l.getD k 0 ∧ l.getD k 0 < n ∧ l.getD k 0 ∉ l.take k := by
  unfold okAt
  rw [mem_take_iff (by omega)]
  constructor
  · rintro ⟨h1, h2, h3⟩
    exact ⟨h1, h2, fun ⟨j, hj, e⟩ => h3 j hj e⟩
  · rintro ⟨h1, h2, h3⟩
    exact ⟨h1, h2, fun j hj e => h3 ⟨j, hj, e⟩⟩
end Go.Proofs.YtmflheoafeenfaaGreat
namespace Go.Proofs.YtmflheoafeenfaaGreat
open Go.Am
set_option maxRecDepth 4000
def takesB (o : OpD) : Bool := decide (o.kind = 2) || decide (o.kind = 3)
def setsB (a b : OpD) : Bool := decide (a.kind = 2) && (decide (0 ≤ b.ifc) && decide (a.bit = b.ifc))
def meetB (a b : OpD) : Bool := a.qs.any fun q => b.qs.contains q
def touchB (a b : OpD) : Bool := meetB a b || ((takesB a && takesB b) || (setsB a b || setsB b a))
theorem meetB_iff {a b : OpD} : meetB a b = true ↔ ∃ q, q ∈ a.qs ∧ q ∈ b.qs := by simp [meetB]
theorem meetB_comm (a b : OpD) : meetB a b = meetB b a := by
  rw [Bool.eq_iff_iff, meetB_iff, meetB_iff]
  exact ⟨fun ⟨q, h1, h2⟩ => ⟨q, h2, h1⟩, fun ⟨q, h1, h2⟩ => ⟨q, h2, h1⟩⟩
theorem touchB_comm (a b : OpD) : touchB a b = touchB b a := by
  unfold touchB
  rw [meetB_comm a b, Bool.and_comm (takesB a), Bool.or_comm (setsB a b)]
def cmpI (a b : Int) : Int := if a < b then -1 else if b < a then 1 else 0
def orI (x y : Int) : Int := if x = 0 then y else x
def cmpL : List Int → List Int → Int
  | [], [] => 0
  | [], _ :: _ => -1
  | _ :: _, [] => 1
  | a :: asq, b :: bs => orI (cmpI a b) (cmpL asq bs)
def cmpO (a b : OpD) : Int := orI (cmpI a.kind b.kind) (orI (cmpI a.gate b.gate) (orI (cmpL a.qs b.qs) (orI (cmpI a.bit b.bit) (orI (cmpI a.ifc b.ifc) (cmpI a.whn b.whn)))))
def lessB (a b : OpD) : Bool := decide (cmpO a b < 0)
/-- None of those ahead touches it. -/
def freeB (l : List OpD) (j : Nat) : Bool := (l.take j).all fun x => !touchB x (l.getD j default)
def bestTo (l : List OpD) : Nat → Int
  | 0 => -1
  | k + 1 => if freeB l k = true ∧ (bestTo l k < 0 ∨ lessB (l.getD k default) (l.getD (bestTo l k).toNat default) = true) then (k : Int) else bestTo l k
def bestI (l : List OpD) : Nat := (bestTo l l.length).toNat
def ordF : Nat → List OpD → List OpD
  | 0, _ => []
  | n + 1, l => l.getD (bestI l) default :: ordF n (l.eraseIdx (bestI l))
def ordL (l : List OpD) : List OpD := ordF l.length l
/-- What the best of the first k is. -/
structure BestAt (l : List OpD) (k b : Nat) : Prop where
  lt : b < k
  free : freeB l b = true
  least : ∀ j, j < k → freeB l j = true → lessB (l.getD j default) (l.getD b default) = false
theorem freeB_iff {l : List OpD} {j : Nat} (hj : j < l.length) : freeB l j = true ↔ ∀ i, i < j → touchB (l.getD i default) (l.getD j default) = false := by
  unfold freeB
  rw [List.all_eq_true]
  constructor
  · intro h i hi
    have := h (l.getD i default) (by
      rw [List.mem_take_iff_getElem]
      exact ⟨i, by omega, by simp [show i < l.length by omega]⟩)
    simpa using this
  · intro h x hx
    rw [List.mem_take_iff_getElem] at hx
    obtain ⟨i, hi, rfl⟩ := hx
    have := h i (by omega)
    simp [show i < l.length by omega] at this
    simp [this]
end Go.Proofs.YtmflheoafeenfaaGreat
namespace Go.Proofs.YtmflheoafeenfaaGreat
open Go.Am
set_option maxRecDepth 4000
set_option maxHeartbeats 8000000
variable {E : Env} {L : Hp}
/-- A slice of numbers in a box of its own, or nil. -/
def OwnI (u : AVal) (l : List Int) (B : Hp) : Prop := (u = anil ∧ l = [] ∧ B = []) ∨ ∃ id cap, u = .sl id 0 l.length 1 cap ∧ B = [(id, l.map aint)]
theorem OwnI.isOne {u : AVal} {l : List Int} {B : Hp} (h : OwnI u l B) : u.one = true := by
  rcases h with ⟨rfl, -, -⟩ | ⟨id, cap, rfl, -⟩ <;> rfl
theorem OwnI.view {u : AVal} {l : List Int} {B M : Hp} (h : OwnI u l B) (k : Nat) (hM : ∀ id c, In id c B → In id c M) : ∃ q, ViewO M (k + 2) u q ∧ SlI q l := by
  rcases h with ⟨rfl, rfl, rfl⟩ | ⟨id, cap, rfl, rfl⟩
  · exact ⟨anil, vo_sc, .inl ⟨rfl, rfl, rfl⟩⟩
  · exact ⟨.rs (l.map aint) l.length cap, vo_sl (hM _ _ .here) (by rw [Nat.mul_one]; exact seg_full (by simp)) (vl_sc (sc_ints l)), .inr ⟨cap, rfl⟩⟩
inductive OpsB : List AVal → List OpD → Hp → Prop where
  | nil : OpsB [] [] []
  | snoc {cs : List AVal} {os : List OpD} {H B : Hp} {u : AVal} {o : OpD} (h : OpsB cs os H) (hq : OwnI u o.qs B) (hb : o.qs.length < 2 ^ 62) : OpsB (cs ++ opCells u o) (os ++ [o]) (H ++ B)
def CircO (v : AVal) (c : CircD) (B : Hp) : Prop := ∃ s cs Bs H, v = .agg [aint c.qubits, aint c.bits, s] ∧ BufO 6 s cs c.ops.length Bs ∧ OpsB cs c.ops H ∧ c.ops.length < 2 ^ 62 ∧ B = Bs ++ H
theorem OpsC.snoc {cs : List AVal} {os : List OpD} {q : AVal} {o : OpD} (h : OpsC cs os) (hq : SlI q o.qs) (hb : o.qs.length < 2 ^ 62) : OpsC (cs ++ opCells q o) (os ++ [o]) := by
  induction h with
  | nil => have := OpsC.cons hq hb .nil; simpa using this
  | cons hq' hb' h ih => rw [List.append_assoc]; exact .cons hq' hb' ih
theorem OpsB.view {cs : List AVal} {os : List OpD} {H M : Hp} (h : OpsB cs os H) (k : Nat) (hM : ∀ id c, In id c H → In id c M) : ∃ us, ViewL M (k + 2) cs us ∧ OpsC us os := by
  induction h with
  | nil => exact ⟨[], vl_nil, .nil⟩
  | @snoc cs os H B u o h hq hb ih =>
    obtain ⟨us, h1, h2⟩ := ih fun id c hi => hM id c hi.appl
    obtain ⟨q, h3, h4⟩ := hq.view k fun id c hi => hM id c hi.app
    refine ⟨us ++ opCells q o, vl_app h1 ?_, h2.snoc h4 hb⟩
    exact vl_cons vo_sc (vl_cons vo_sc (vl_cons h3 (vl_cons vo_sc (vl_cons vo_sc (vl_cons vo_sc vl_nil)))))
theorem bufInv {esz n : Nat} {v : AVal} {cs : List AVal} {B : Hp} (h : BufO esz v cs n B) : (v = anil ∧ cs = [] ∧ n = 0 ∧ B = []) ∨ ∃ id, v = .sl id 0 n esz none ∧ B = [(id, cs)] := by
  cases h with
  | nil => exact .inl ⟨rfl, rfl, rfl, rfl⟩
  | box _ _ => exact .inr ⟨_, rfl, rfl⟩
theorem CircO.view {v : AVal} {c : CircD} {B M : Hp} (h : CircO v c B) (k : Nat) (hM : ∀ id c, In id c B → In id c M) : ∃ u, ViewO M (k + 4) v u ∧ CircA u c := by
  obtain ⟨s, cs, Bs, H, rfl, hb, ho, hlt, rfl⟩ := h
  obtain ⟨us, h1, h2⟩ := ho.view k fun id c hi => hM id c hi.app
  have hlen := hb.length
  rcases bufInv hb with ⟨rfl, rfl, e, rfl⟩ | ⟨id, rfl, rfl⟩
  · have h3 := h2.length
    rw [e] at h3
    have h4 : us = [] := List.eq_nil_of_length_eq_zero (by simpa using h3)
    exact ⟨.agg [aint c.qubits, aint c.bits, anil], vo_agg (vl_cons vo_sc (vl_cons vo_sc (vl_cons vo_sc vl_nil))), anil, rfl, us, .inl ⟨rfl, e, h4⟩, h2, hlt⟩
  · exact ⟨_, vo_agg (vl_cons vo_sc (vl_cons vo_sc (vl_cons (vo_sl (hM _ _ (In.appl .here)) (seg_full hlen) h1) vl_nil))), _, rfl, us, .inr ⟨none, rfl⟩, h2, hlt⟩
/-- Of a size that can be. -/
structure Small (c : CircD) : Prop where
  ops : c.ops.length ≤ 1000000
  qs : ∀ k, k < c.ops.length → (c.ops.getD k default).qs.length ≤ 2000000
theorem Clone_open (hF : E.fns = fnsT) (hm : E.mode f_slices_Clone_int_int = .open_) {v : AVal} {l : List Int} (hv : SlI v l) (hl : l.length ≤ 2000000) : CallO E f_slices_Clone_int_int [v] L fun r L' => ∃ B, OwnI r l B ∧ L' = B ++ L := by
  refine CallO.to (callO_open hm (fns_of hF n_slices_Clone_int_int) ?_)
  have hv1 := RowA.isOne hv
  rcases hv with ⟨rfl, h0, h1⟩ | ⟨cap, rfl⟩
  · have : l = [] := List.eq_nil_of_length_eq_zero h0
    subst this
    refine bodyO_of (Nat.le_of_ble_eq_true rfl) ?_; generalize ht : argSlots _ 0 .nil = t; have h0 : t.get 0 = some _ := (by rw [← ht]; rfl); clear ht
    repeat (first | intro id | refine goq ?_)
    ((first | apply retO_r | apply retO_n); (focus (exact resq)))
    exact ⟨_, by exact subq, [], .inl ⟨rfl, rfl, rfl⟩, rfl⟩
  · have hrow : RowA (.rs (l.map aint) l.length cap) (l.map aint) l.length := .inr ⟨cap, rfl⟩
    refine bodyO_of (Nat.le_of_ble_eq_true rfl) ?_; generalize ht : argSlots _ 0 .nil = t; have h0 : t.get 0 = some _ := (by rw [← ht]; rfl); clear ht
    repeat (first | intro id | refine goq ?_)
    by_cases hl0 : l.length = 0
    · have : l = [] := List.eq_nil_of_length_eq_zero hl0
      subst this
      refine oo_append0 wanted_none (by exact slotq) rfl (by exact slotq) rfl ?_
      repeat (first | intro id | refine goq ?_)
      ((first | apply retO_r | apply retO_n); (focus (exact resq)))
      exact ⟨_, by exact subq, [(id, [])], .inr ⟨id, some 0, rfl, rfl⟩, rfl⟩
    · refine oo_appendF wanted_none (by exact slotq) .here (old := []) rfl rfl (by exact slotq) hrow (by omega) (by simp) (all_one_ints _) (by omega) (by omega) ?_
      intro id2
      repeat (first | intro id | refine goq ?_)
      ((first | apply retO_r | apply retO_n); (focus (exact resq)))
      exact ⟨_, by exact subq, [(id2, l.map aint)], .inr ⟨id2, none, by simp [resultV], rfl⟩, rfl⟩
theorem OpsB.one {cs : List AVal} {os : List OpD} {H : Hp} (h : OpsB cs os H) : cs.length = os.length * 6 := by
  induction h with
  | nil => rfl
  | snoc h hq hb ih => simp only [List.length_append, ih, opCells, List.length_cons, List.length_nil]; omega
theorem takeO_snoc {os : List OpD} {k : Nat} (hk : k < os.length) : os.take (k + 1) = os.take k ++ [os.getD k default] := by
  rw [List.take_succ_eq_append_getElem hk]
  simp [hk]
/-- The program's copy, round by round. -/
theorem ccopy_l0 (hF : E.fns = fnsT) (hmc : E.mode f_slices_Clone_int_int = .open_) {c : CircD} {s : AVal} {cs0 : List AVal} {i3 : Nat} (hr : RowA s cs0 c.ops.length) (hcs : OpsC cs0 c.ops) (hsm : Small c) :
    ∀ (d k : Nat) (t : Tr AVal) (a : AVal) (cs : List AVal) (B H : Hp), d + k = c.ops.length → t.get 3 = some (.ptr i3 0) → t.get 12 = some s → t.get 13 = some (aint c.ops.length) → t.get 14 = some (aint k) → BufO 6 a cs k B → OpsB cs (c.ops.take k) H →
    WpO E (.loop c_circuit_Copy_l0) t ((i3, [aint c.qubits, aint c.bits, a]) :: (B ++ (H ++ L))) (fun ex t' L' => ex = .exit 0 ∧ Keep [1, 2, 3] t t' ∧ ∃ a' cs' B' H', BufO 6 a' cs' c.ops.length B' ∧ OpsB cs' c.ops H' ∧ L' = (i3, [aint c.qubits, aint c.bits, a']) :: (B' ++ (H' ++ L))) := by
  have hs1 := RowA.isOne hr
  have hsm1 := hsm.ops
  intro d
  induction d with
  | zero =>
    intro k t a cs B H hk h3 h12 h13 h14 hb ho
    obtain rfl : k = c.ops.length := by omega
    refine wo_loop ?_
    repeat (first | intro id | refine goq ?_)
    rw [List.take_length] at ho
    exact ⟨rfl, by exact keepq, a, cs, B, H, hb, ho, rfl⟩
  | succ d ih =>
    intro k t a cs B H hk h3 h12 h13 h14 hb ho
    have hkl : k < c.ops.length := by omega
    obtain ⟨q, hq, hqb, hlt6, hseg⟩ := hcs.getE hkl
    have hql := hsm.qs k hkl
    have htk := takeO_snoc hkl
    generalize c.ops.getD k default = o at *
    have hq1 := RowA.isOne hq
    have ha1 := hb.isOne
    unfold opCells at hseg
    refine wo_loop ?_
    repeat (first | intro id | refine goq ?_)
    refine gok ?_
    refine (Clone_open hF hmc hq hql).mono ?_
    rintro u L' ⟨C, hu, rfl⟩
    have hu1 := hu.isOne
    repeat (first | intro id | refine goq ?_)
    have hb2 := hb.pushed (id := id) (nw := opCells u o) rfl (by simp only [opCells, List.all_cons, List.all_nil, hu1, Bool.and_true]; rfl)
    have ho2 := ho.snoc hu hqb
    rw [← htk] at ho2
    refine WpO.weak (WpO.mono (ih (k + 1) _ _ _ _ _ (by omega) ?_ ?_ ?_ ?_ hb2 ho2) ?_) ?_
    · exact slotq
    · exact slotq
    · exact slotq
    · exact slotq
    · rintro ex t' L' ⟨e1, e2, e3⟩
      exact ⟨e1, Keep.trans (by exact keepq) e2, e3⟩
    · rw [List.append_assoc]
      exact subq
/-- The program's copy: in boxes of its own. -/
theorem CCopy_open (hF : E.fns = fnsT) (hm : E.mode f_circuit_Copy = .open_) (hmc : E.mode f_slices_Clone_int_int = .open_) {c : CircD} {v : AVal} (hv : CircA v c) (hsm : Small c) : CallO E f_circuit_Copy [v] L fun r L' => ∃ B, CircO r c B ∧ L' = B ++ L := by
  refine CallO.to (callO_open hm (fns_of hF n_circuit_Copy) ?_)
  obtain ⟨s, rfl, cs, hr, hcs, hlt⟩ := hv
  have hs1 := RowA.isOne hr
  refine bodyO_of (Nat.le_of_ble_eq_true rfl) ?_; generalize ht : argSlots _ 0 .nil = t; have h0 : t.get 0 = some _ := (by rw [← ht]; rfl); clear ht
  repeat (first | intro id | refine goq ?_)
  rename_i i2
  refine WpO.mono (ccopy_l0 hF hmc hr hcs hsm c.ops.length 0 _ anil [] [] [] (by omega) ?_ ?_ ?_ ?_ .nil .nil) ?_
  · exact slotq
  · exact slotq
  · exact slotq
  · exact slotq
  rintro ex t' L' ⟨rfl, hK, a', cs', B', H', hb, ho, rfl⟩
  have g2 : t'.get 2 = some (.ptr i2 0) := (hK.ex 2 rfl).trans (by exact slotq)
  have g3 : t'.get 3 = some (.ptr id 0) := (hK.ex 3 rfl).trans (by exact slotq)
  have ha1 := hb.isOne
  repeat (first | intro id | refine goq ?_)
  ((first | apply retO_r | apply retO_n); (focus (exact resq)))
  exact ⟨B' ++ (H' ++ L), by exact subq, B' ++ H', ⟨a', cs', B', H', rfl, hb, ho, hlt, rfl⟩, (List.append_assoc _ _ _).symm⟩
/-- The document's copy, round by round. -/
theorem rcopy_l0 {c : CircD} {s : AVal} {cs0 : List AVal} {i1 i3 : Nat} (hr : RowA s cs0 c.ops.length) (hcs : OpsC cs0 c.ops) (hsm : Small c) :
    ∀ (d k : Nat) (t : Tr AVal) (a : AVal) (cs : List AVal) (B H : Hp), d + k = c.ops.length → t.get 1 = some (.ptr i1 0) → t.get 3 = some (.ptr i3 0) → t.get 4 = some (aint k) → BufO 6 a cs k B → OpsB cs (c.ops.take k) H →
    WpO E (.loop c_phasorref08_Copy_l0) t ((i3, [aint c.qubits, aint c.bits, a]) :: (i1, [aint c.qubits, aint c.bits, s]) :: (B ++ (H ++ L))) (fun ex t' L' => ex = .exit 0 ∧ Keep [1, 2, 3] t t' ∧ ∃ a' cs' B' H', BufO 6 a' cs' c.ops.length B' ∧ OpsB cs' c.ops H' ∧ L' = (i3, [aint c.qubits, aint c.bits, a']) :: (i1, [aint c.qubits, aint c.bits, s]) :: (B' ++ (H' ++ L))) := by
  have hs1 := RowA.isOne hr
  have hsm1 := hsm.ops
  intro d
  induction d with
  | zero =>
    intro k t a cs B H hk h1 h3 h4 hb ho
    obtain rfl : k = c.ops.length := by omega
    refine wo_loop ?_
    repeat (first | intro id | refine goq ?_)
    rw [List.take_length] at ho
    exact ⟨rfl, by exact keepq, a, cs, B, H, hb, ho, rfl⟩
  | succ d ih =>
    intro k t a cs B H hk h1 h3 h4 hb ho
    have hkl : k < c.ops.length := by omega
    obtain ⟨q, hq, hqb, hlt6, hseg⟩ := hcs.getE hkl
    have hql := hsm.qs k hkl
    have htk := takeO_snoc hkl
    generalize c.ops.getD k default = o at *
    have hq1 := RowA.isOne hq
    have ha1 := hb.isOne
    unfold opCells at hseg
    refine wo_loop ?_
    repeat (first | intro id | refine goq ?_)
    refine oo_appendR wanted_none (by exact slotq) .nil (by exact slotq) hq .nil (by simp) (all_one_ints _) (by omega) (by omega) ?_
    intro u C hu
    have hu1 := hu.isOne
    have hown : OwnI u o.qs C := by
      rcases bufInv hu with ⟨rfl, e1, e2, rfl⟩ | ⟨id, rfl, rfl⟩
      · have : o.qs = [] := List.eq_nil_of_length_eq_zero (by omega)
        exact .inl ⟨rfl, this, rfl⟩
      · exact .inr ⟨id, none, by simp, by simp⟩
    repeat (first | intro id | refine goq ?_)
    have hb2 := hb.pushed (id := id) (nw := opCells u o) rfl (by simp only [opCells, List.all_cons, List.all_nil, hu1, Bool.and_true]; rfl)
    have ho2 := ho.snoc hown hqb
    rw [← htk] at ho2
    refine WpO.weak (WpO.mono (ih (k + 1) _ _ _ _ _ (by omega) ?_ ?_ ?_ hb2 ho2) ?_) ?_
    · exact slotq
    · exact slotq
    · exact slotq
    · rintro ex t' L' ⟨e1, e2, e3⟩
      exact ⟨e1, Keep.trans (by exact keepq) e2, e3⟩
    · rw [List.append_assoc]
      exact subq
theorem RCopy_ok (hF : E.fns = fnsT) (hm : E.mode f_phasorref08_Copy = .iso true) {c : CircD} {v : AVal} (hv : CircA v c) (hsm : Small c) : CallO E f_phasorref08_Copy [v] L fun r L' => CircA r c ∧ L' = L := by
  refine callO_iso1 (R := fun r => CircA r c) hm (fns_of hF n_phasorref08_Copy) (by simp [hv.bare]) ?_
  obtain ⟨s, rfl, cs, hr, hcs, hlt⟩ := hv
  have hs1 := RowA.isOne hr
  refine bodyO_of (Nat.le_of_ble_eq_true rfl) ?_; generalize ht : argSlots _ 0 .nil = t; have h0 : t.get 0 = some _ := (by rw [← ht]; rfl); clear ht
  repeat (first | intro id | refine goq ?_)
  rename_i i1 i2
  refine WpO.weak (WpO.mono (rcopy_l0 (L := [(i2, [aint 0, aint 0, anil])]) (i1 := i1) (i3 := id) hr hcs hsm c.ops.length 0 _ anil [] [] [] (by omega) ?_ ?_ ?_ .nil .nil) ?_) ?_
  · exact slotq
  · exact slotq
  · exact slotq
  · rintro ex t' L' ⟨rfl, hK, a', cs', B', H', hb, ho, rfl⟩
    have g2 : t'.get 2 = some (.ptr i2 0) := (hK.ex 2 rfl).trans (by exact slotq)
    have g3 : t'.get 3 = some (.ptr id 0) := (hK.ex 3 rfl).trans (by exact slotq)
    have ha1 := hb.isOne
    repeat (first | intro id | refine goq ?_)
    ((first | apply retO_r | apply retO_n); (focus (exact resq)))
    have hcirc : CircO (.agg [aint c.qubits, aint c.bits, a']) c (B' ++ H') := ⟨a', cs', B', H', rfl, hb, ho, hlt, rfl⟩
    refine hcirc.view 60 (fun id c hi => ?_)
    repeat (first | (rw [← List.append_assoc]; exact hi.appl) | apply In.next)
  · simp only [List.nil_append]
    exact subq
end Go.Proofs.YtmflheoafeenfaaGreat
namespace Go.Proofs.YtmflheoafeenfaaGreat
open Go.Am
set_option maxRecDepth 4000
set_option maxHeartbeats 8000000
variable {E : Env} {L : Hp}
theorem vo_bareI {k : Nat} {q : AVal} {l : List Int} (hq : SlI q l) : ViewO L (k + 1) q q := by
  have hb := bare_SlI hq
  rcases hq with ⟨rfl, -, -⟩ | ⟨cap, rfl⟩
  · exact vo_sc
  · exact ⟨fun m hm => by simp only [view, hb, if_true]⟩
def opV (q : AVal) (o : OpD) : AVal := .agg (opCells q o)
theorem bare_opV {q : AVal} {o : OpD} (hq : SlI q o.qs) : (opV q o).bare = true := by simp [opV, opCells, AVal.bare, bareAll, aint, bare_SlI hq]
end Go.Proofs.YtmflheoafeenfaaGreat
namespace Go.Proofs.YtmflheoafeenfaaGreat
open Go.Am
set_option maxRecDepth 4000
set_option maxHeartbeats 8000000
variable {E : Env} {L : Hp}
end Go.Proofs.YtmflheoafeenfaaGreat
namespace Go.Proofs.YtmflheoafeenfaaGreat
open Go.Am
set_option maxRecDepth 4000
set_option maxHeartbeats 8000000
variable {E : Env} {L : Hp}
end Go.Proofs.YtmflheoafeenfaaGreat
namespace Go.Proofs.YtmflheoafeenfaaGreat
open Go.Am
set_option maxRecDepth 4000
set_option maxHeartbeats 8000000
variable {E : Env} {L : Hp}
end Go.Proofs.YtmflheoafeenfaaGreat
namespace Go.Proofs.YtmflheoafeenfaaGreat
open Go.Am
set_option maxRecDepth 4000
set_option maxHeartbeats 8000000
variable {E : Env} {L : Hp}
end Go.Proofs.YtmflheoafeenfaaGreat
namespace Go.Proofs.YtmflheoafeenfaaGreat
open Go.Am
set_option maxRecDepth 4000
def sgm (i j : Nat) : Nat := if j = i then i + 1 else if j = i + 1 then i else j
structure Swp (l l' : List OpD) (i : Nat) : Prop where
  len : l'.length = l.length
  lt : i + 1 < l.length
  h1 : ∀ j, j ≠ i → j ≠ i + 1 → l'.getD j default = l.getD j default
  h2 : l'.getD i default = l.getD (i + 1) default
  h3 : l'.getD (i + 1) default = l.getD i default
  ht : touchB (l.getD i default) (l.getD (i + 1) default) = false
theorem Swp.get {l l' : List OpD} {i : Nat} (h : Swp l l' i) (j : Nat) : l'.getD (sgm i j) default = l.getD j default := by
  unfold sgm
  split
  · rename_i e; subst e; exact h.h3
  · split
    · rename_i e; subst e; exact h.h2
    · exact h.h1 j (by assumption) (by assumption)
theorem Swp.free {l l' : List OpD} {i : Nat} (h : Swp l l' i) {j : Nat} (hj : j < l.length) : freeB l' (sgm i j) = true ↔ freeB l j = true := by
  have hlt := h.lt
  have hsj : sgm i j < l'.length := by rw [h.len]; unfold sgm; split; omega; split <;> omega
  rw [freeB_iff hsj, freeB_iff hj, h.get j]
  constructor
  · intro k m hm
    by_cases hx : j = i + 1 ∧ m = i
    · obtain ⟨rfl, rfl⟩ := hx
      exact h.ht
    · have := k (sgm i m) (by unfold sgm; (repeat' split) <;> omega)
      rw [h.get m] at this
      exact this
  · intro k m hm
    by_cases hx : j = i ∧ m = i
    · obtain ⟨rfl, rfl⟩ := hx
      rw [h.h2, touchB_comm]
      exact h.ht
    · have e : m = sgm i (sgm i m) := by unfold sgm; (repeat' split) <;> omega
      rw [e, h.get]
      refine k _ ?_
      unfold sgm at hm ⊢
      (repeat' (split at hm)) <;> (repeat' split) <;> omega
end Go.Proofs.YtmflheoafeenfaaGreat
namespace Go.Proofs.YtmflheoafeenfaaGreat
open Go.Am
set_option maxRecDepth 4000
def gO (l : List OpD) (j : Nat) : OpD := l.getD j default
def aliveL (n : Nat) (τ : List Nat) : List Nat := (List.range n).filter fun j => !τ.contains j
theorem mem_alive {n j : Nat} {τ : List Nat} : j ∈ aliveL n τ ↔ j < n ∧ j ∉ τ := by simp [aliveL]
def cntW (l : List OpD) (τ : List Nat) (j k : Nat) : Nat := ((aliveL k τ).filter fun i => touchB (gO l i) (gO l j)).length
/-- Of each operation: how many that touch it, ahead of it, are still there; -1: it is gone. -/
def W (l : List OpD) (τ : List Nat) (j : Nat) : Int := if τ.contains j then -1 else (cntW l τ j j : Int)
theorem cntW_zero {l : List OpD} {τ : List Nat} {j k : Nat} : cntW l τ j k = 0 ↔ ∀ i, i < k → i ∉ τ → touchB (gO l i) (gO l j) = false := by
  unfold cntW
  rw [List.length_eq_zero_iff, List.filter_eq_nil_iff]
  constructor
  · intro h i h1 h2
    simpa using h i (mem_alive.2 ⟨h1, h2⟩)
  · intro h i hi
    have := h i (mem_alive.1 hi).1 (mem_alive.1 hi).2
    simp [this]
theorem W_zero {l : List OpD} {τ : List Nat} {j : Nat} : W l τ j = 0 ↔ j ∉ τ ∧ ∀ i, i < j → i ∉ τ → touchB (gO l i) (gO l j) = false := by
  unfold W
  by_cases h : j ∈ τ
  · rw [if_pos (by simpa using h)]
    simp [h]
  · rw [if_neg (by simpa using h), ← cntW_zero]
    simp only [h, not_false_eq_true, true_and]
    omega
/-- What is gone was free when it went. -/
def Gone (l : List OpD) (τ : List Nat) : Prop := ∀ j, j ∈ τ → ∀ i, i < j → i ∉ τ → touchB (gO l i) (gO l j) = false
theorem Gone.cons {l : List OpD} {τ : List Nat} {b : Nat} (h : Gone l τ) (hb : W l τ b = 0) : Gone l (b :: τ) := by
  intro j hj i hi hn
  simp only [List.mem_cons, not_or] at hj hn
  rcases hj with rfl | hj
  · exact (W_zero.1 hb).2 i hi hn.2
  · exact h j hj i hi hn.2
end Go.Proofs.YtmflheoafeenfaaGreat
namespace Go.Proofs.YtmflheoafeenfaaGreat
open Go.Am
set_option maxRecDepth 4000
set_option maxHeartbeats 4000000
variable {E : Env} {L : Hp}
/-- The table of kinds. -/
def tableC : List AVal := match body { fns := fun _ => none, mode := fun _ => .open_, known := fun _ _ _ => none } 100 c_gate_table [] ⟨.nil, 0, 0⟩ with
  | some (.agg cs, _) => cs
  | _ => []
def tableM : Mem := match body { fns := fun _ => none, mode := fun _ => .open_, known := fun _ _ _ => none } 100 c_gate_table [] ⟨.nil, 0, 0⟩ with
  | some (_, m) => m
  | _ => ⟨.nil, 0, 0⟩
theorem table_run (E : Env) : ∃ m, body E 100 c_gate_table [] ⟨.nil, 0, 0⟩ = some (.agg tableC, m) := ⟨tableM, by kernel_rfl⟩
theorem tableC_len : tableC.length = 84 := by kernel_rfl
theorem tableC_flat : (AVal.agg tableC).flat = true := by kernel_rfl
theorem table_ok (hF : E.fns = fnsT) (hm : E.mode f_gate_table = .iso false) : CallO E f_gate_table [] L fun v L' => v = .agg tableC ∧ L' = L := by
  obtain ⟨m', h⟩ := table_run E
  refine ⟨fun m ho => (call_iso0 (R := fun v => v = .agg tableC) (vs := []) hm (fns_of hF n_gate_table) rfl ⟨100, _, m', h, tableC_flat, rfl⟩).mono ?_⟩
  rintro v m1 ⟨h1, rfl⟩
  exact ⟨L, ho, h1, rfl⟩
def isInt : Option AVal → Int → Bool
  | some (.sc (.int .i64 a)), n => a == n
  | _, _ => false
theorem isInt_eq {v : Option AVal} {n : Int} (h : isInt v n = true) : v = some (aint n) := by
  unfold isInt at h
  split at h
  · rename_i a
    have : a = n := by simpa using h
    rw [← this]; rfl
  · cases h
def rowC (k : Nat) : List AVal := if k < 1 ∨ 20 < k then [.sc (.string ⟨#[]⟩), aint 0, aint 0, aint 0] else (tableC.drop (k * 4)).take 4
def inverse (k : Int) : Int := if k < 1 ∨ 20 < k then 0 else if k = 5 ∨ k = 7 ∨ k = 9 ∨ k = 15 then k + 1 else if k = 6 ∨ k = 8 ∨ k = 10 ∨ k = 16 then k - 1 else k
theorem table_all : (List.range 21).all (fun k => k == 0 || (isInt ((rowC k)[1]?) (arity k) && isInt ((rowC k)[3]?) (inverse k))) = true := by kernel_rfl
/-- A kind's row, or none. -/
def RowK (k : Int) (r : List AVal) : Prop := r.length = 4 ∧ r[1]? = some (aint (arity k)) ∧ r[3]? = some (aint (inverse k))
theorem of_ok (hF : E.fns = fnsT) (hm : E.mode f_gate_of = .iso false) (hmt : E.mode f_gate_table = .iso false) {k : Int} : CallO E f_gate_of [aint k] L fun v L' => (∃ r, v = .agg r ∧ RowK k r) ∧ L' = L := by
  refine callO_iso0 (R := fun v => ∃ r, v = .agg r ∧ RowK k r) hm (fns_of hF n_gate_of) (vs_bare rfl vs_nil) ?_
  by_cases h1 : k < 1
  · refine bodyO_of (Nat.le_of_ble_eq_true rfl) ?_; generalize ht : argSlots _ 0 .nil = t; have h0 : t.get 0 = some _ := (by rw [← ht]; rfl); clear ht
    repeat (first | intro id | refine goq ?_)
    ((first | apply retO_r | apply retO_n); (focus (exact resq)))
    exact ⟨rfl, _, rfl, rfl, by simp [arity, h1, aint], by simp [inverse, h1, aint]⟩
  by_cases h2 : 20 < k
  · refine bodyO_of (Nat.le_of_ble_eq_true rfl) ?_; generalize ht : argSlots _ 0 .nil = t; have h0 : t.get 0 = some _ := (by rw [← ht]; rfl); clear ht
    repeat (first | intro id | refine goq ?_)
    ((first | apply retO_r | apply retO_n); (focus (exact resq)))
    exact ⟨rfl, _, rfl, rfl, by simp [arity, h2, aint], by simp [inverse, h2, aint]⟩
  obtain ⟨j, rfl⟩ : ∃ j : Nat, k = j := ⟨k.toNat, by omega⟩
  have hj := List.all_eq_true.1 table_all j (List.mem_range.2 (by omega))
  have h0 : (j == 0) = false := by simp; omega
  rw [h0, Bool.false_or, Bool.and_eq_true] at hj
  have e1 := isInt_eq hj.1
  have e2 := isInt_eq hj.2
  have hs : seg tableC (j * 4) 4 = some (rowC j) := by
    rw [seg, if_pos (by rw [tableC_len]; omega), rowC, if_neg (by omega)]
  have hl : (rowC j).length = 4 := by rw [rowC, if_neg (by omega)]; simp [tableC_len]; omega
  obtain ⟨a, b, c, d, hr⟩ : ∃ a b c d, rowC j = [a, b, c, d] := by
    match hq : rowC j, hl with
    | [a, b, c, d], _ => exact ⟨a, b, c, d, rfl⟩
  have hone : ∀ (i : Nat) (x : AVal), (rowC j)[i]? = some x → x.one = true := by
    intro i x hx
    have hm := List.mem_of_getElem? hx
    rw [rowC, if_neg (by omega)] at hm
    have hm2 := List.mem_of_mem_drop (List.mem_of_mem_take hm)
    have : tableC.all AVal.one = true := by kernel_rfl
    exact List.all_eq_true.1 this x hm2
  have hflat : (AVal.agg (rowC j)).flat = true := by
    have : tableC.all AVal.flat = true := by kernel_rfl
    have h4 : ∀ x ∈ rowC j, x.flat = true := by
      intro x hm
      rw [rowC, if_neg (by omega)] at hm
      exact List.all_eq_true.1 this x (List.mem_of_mem_drop (List.mem_of_mem_take hm))
    rw [hr] at h4 ⊢
    simp [AVal.flat, flatAll, h4]
  rw [hr] at hs e1 e2 hflat hone
  have o1 : a.one = true := hone 0 a rfl
  have o2 : b.one = true := hone 1 b rfl
  have o3 : c.one = true := hone 2 c rfl
  have o4 : d.one = true := hone 3 d rfl
  refine bodyO_of (Nat.le_of_ble_eq_true rfl) ?_; generalize ht : argSlots _ 0 .nil = t; have h0 : t.get 0 = some _ := (by rw [← ht]; rfl); clear ht
  repeat (first | intro id | refine goq ?_)
  refine gok ?_
  refine (table_ok hF hmt).mono ?_
  rintro v L' ⟨rfl, rfl⟩
  repeat (first | intro id | refine goq ?_)
  ((first | apply retO_r | apply retO_n); (focus (exact resq)))
  exact ⟨hflat, _, rfl, rfl, e1, e2⟩
theorem Arity_ok (hF : E.fns = fnsT) (hm : E.mode f_gate_Arity = .iso false) (hmo : E.mode f_gate_of = .iso false) (hmt : E.mode f_gate_table = .iso false) {k : Int} : CallO E f_gate_Arity [aint k] L fun v L' => v = aint (arity k) ∧ L' = L := by
  refine callO_iso0 hm (fns_of hF n_gate_Arity) (vs_bare rfl vs_nil) ?_
  refine bodyO_of (Nat.le_of_ble_eq_true rfl) ?_; generalize ht : argSlots _ 0 .nil = t; have h0 : t.get 0 = some _ := (by rw [← ht]; rfl); clear ht
  repeat (first | intro id | refine goq ?_)
  refine gok ?_
  refine (of_ok hF hmo hmt).mono ?_
  rintro v L' ⟨⟨r, rfl, -, hr, -⟩, rfl⟩
  repeat (first | intro id | refine goq ?_)
  ((first | apply retO_r | apply retO_n); (focus (exact resq)))
  exact ⟨rfl, rfl⟩
theorem Is_ok (hF : E.fns = fnsT) (hm : E.mode f_phasorref06_Is = .iso false) {k : Int} : CallO E f_phasorref06_Is [aint k] L fun v L' => v = abool (decide (arity k ≠ 0)) ∧ L' = L := by
  refine callO_iso0 hm (fns_of hF n_phasorref06_Is) (vs_bare rfl vs_nil) ?_
  refine bodyO_of (Nat.le_of_ble_eq_true rfl) ?_; generalize ht : argSlots _ 0 .nil = t; have h0 : t.get 0 = some _ := (by rw [← ht]; rfl); clear ht
  unfold arity
  repeat' (first | intro id | refine goq ?_ | (refine oo_guard (by exact slotq) (fun hc => ?_) (fun hc => ?_) <;> (fail_if_success (exact absurd hc (by decide))) <;> rw [hc] <;> (try simp only [decide_eq_true_eq, decide_eq_false_iff_not, ne_eq, Decidable.not_not] at hc)) | (refine wo_cond_if (by exact slotq) (fun hc => ?_) (fun hc => ?_) <;> (try simp only [decide_eq_true_eq, decide_eq_false_iff_not, ne_eq, Decidable.not_not] at hc)) | ((first | apply retO_r | apply retO_n); (focus (exact resq))))
  all_goals (refine ⟨rfl, ?_⟩; simp only [resultV, abool]; congr; simp; omega)
theorem refArity_ok (hF : E.fns = fnsT) (hm : E.mode f_phasorref06_Arity = .iso false) (hmi : E.mode f_phasorref06_Is = .iso false) {k : Int} : CallO E f_phasorref06_Arity [aint k] L fun v L' => v = aint (arity k) ∧ L' = L := by
  refine callO_iso0 hm (fns_of hF n_phasorref06_Arity) (vs_bare rfl vs_nil) ?_
  refine bodyO_of (Nat.le_of_ble_eq_true rfl) ?_; generalize ht : argSlots _ 0 .nil = t; have h0 : t.get 0 = some _ := (by rw [← ht]; rfl); clear ht
  repeat (first | intro id | refine goq ?_)
  refine gok ?_
  refine (Is_ok hF hmi).mono ?_
  rintro v L' ⟨rfl, rfl⟩
  have : arity k = if k < 1 ∨ 20 < k then 0 else if k ≤ 10 then 1 else if k ≤ 17 then 2 else 3 := rfl
  by_cases h : arity k = 0
  · rw [decide_eq_false (by simpa using h)]
    repeat (first | intro id | refine goq ?_)
    ((first | apply retO_r | apply retO_n); (focus (exact resq)))
    exact ⟨rfl, by rw [h]; rfl⟩
  · rw [decide_eq_true h]
    repeat' (first | intro id | refine goq ?_ | (refine oo_guard (by exact slotq) (fun hc => ?_) (fun hc => ?_) <;> (fail_if_success (exact absurd hc (by decide))) <;> rw [hc] <;> (try simp only [decide_eq_true_eq, decide_eq_false_iff_not, ne_eq, Decidable.not_not] at hc)) | (refine wo_cond_if (by exact slotq) (fun hc => ?_) (fun hc => ?_) <;> (try simp only [decide_eq_true_eq, decide_eq_false_iff_not, ne_eq, Decidable.not_not] at hc)) | ((first | apply retO_r | apply retO_n); (focus (exact resq))))
    all_goals (refine ⟨rfl, ?_⟩; simp only [resultV]; congr; split at this <;> omega)
end Go.Proofs.YtmflheoafeenfaaGreat
