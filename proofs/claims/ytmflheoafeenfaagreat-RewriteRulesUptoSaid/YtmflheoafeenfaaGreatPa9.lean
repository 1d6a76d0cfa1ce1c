/- Parts of the proof, joined by program: RwIP, CiCD, RwO1, CiCC, RwR1, RwR2. -/
import Derived.Test.YtmflheoafeenfaaGreatPa8
set_option linter.unusedSimpArgs false
set_option linter.unusedVariables false
namespace Go.Proofs.YtmflheoafeenfaaGreat
open Go.Am
set_option maxRecDepth 4000
set_option maxHeartbeats 4000000
variable {E : Env} {L : Hp}
theorem vo_fn {k : Nat} {g : Fn} {a b a' b' : List AVal} (h1 : ViewL L k a a') (h2 : ViewL L k b b') : ViewO L (k + 1) (.fn g a b) (.fn g a' b') := ⟨fun m hm => by simp only [view, h1.ex m hm, h2.ex m hm]⟩
theorem vo_ptr {k id off : Nat} {cs us : List AVal} (hi : In id cs L) (ho : off ≤ cs.length) (h : ViewL L k (cs.drop off) us) : ViewO L (k + 1) (.ptr id off) (.ro us) := ⟨fun m hm => by simp only [view, hm.get hi, ho, if_true, h.ex m hm, Option.map_some]⟩
/-- Where the first of a kind lies. -/
def IdxP (l : List Int) (p : Int → Bool) (i : Int) : Prop := (i = -1 ∧ ∀ j, j < l.length → p (l.getD j 0) = false) ∨ (∃ k : Nat, i = k ∧ k < l.length ∧ p (l.getD k 0) = true ∧ ∀ j, j < k → p (l.getD j 0) = false)
theorem indexP_l0 {g : FuncId} {cv : List AVal} {v : AVal} {l : List Int} {p : Int → Bool} (hv : SlI v l) (hlt : l.length < 2 ^ 62) (hc : ∀ j, j < l.length → CallO E g ([aint (l.getD j 0)] ++ cv) L fun r L' => r = abool (p (l.getD j 0)) ∧ L' = L) :
    ∀ (d k : Nat) (t : Tr AVal), d + k = l.length → t.get 0 = some v → t.get 1 = some (.fn (.func g) [] cv) → t.get 7 = some (aint l.length) → t.get 8 = some (aint k) → (∀ j, j < k → p (l.getD j 0) = false) →
    WpO E (.loop c_slices_IndexFunc_int_int_l0) t L (fun ex t' L' => L' = L ∧ ((ex = .exit 0 ∧ ∀ j, j < l.length → p (l.getD j 0) = false) ∨ (ex = .ret ∧ ∃ i, t'.get 4 = some (aint i) ∧ IdxP l p i))) := by
  have hv1 := RowA.isOne hv
  intro d
  induction d with
  | zero =>
    intro k t hk h0 h1 h7 h8 hno
    refine wo_loop ?_
    repeat (first | intro id | refine goq ?_)
    exact ⟨rfl, .inl ⟨rfl, fun j hj => hno j (by omega)⟩⟩
  | succ d ih =>
    intro k t hk h0 h1 h7 h8 hno
    have hkl : k < l.length := by omega
    have hcc := hc k hkl
    refine wo_loop ?_
    repeat (first | intro id | refine goq ?_)
    refine gok ?_
    refine hcc.mono ?_
    rintro r L' ⟨rfl, rfl⟩
    cases hp : p (l.getD k 0) with
    | true =>
      repeat (first | intro id | refine goq ?_)
      exact ⟨rfl, .inr ⟨rfl, k, by exact slotq, .inr ⟨k, rfl, hkl, hp, hno⟩⟩⟩
    | false =>
      repeat (first | intro id | refine goq ?_)
      refine ih (k + 1) _ ?_ ?_ ?_ ?_ ?_ ?_
      · omega
      · exact slotq
      · exact slotq
      · exact slotq
      · exact slotq
      · intro j hj
        by_cases e : j = k
        · subst e; exact hp
        · exact hno j (by omega)
theorem indexP_ok (hF : E.fns = fnsT) (hm : E.mode f_slices_IndexFunc_int_int = .iso false) {g : FuncId} {args cv : List AVal} {v : AVal} {l : List Int} {p : Int → Bool} (hw : ViewsO L args [v, .fn (.func g) [] cv]) (hv : SlI v l) (hlt : l.length < 2 ^ 62)
    (hc : ∀ j, j < l.length → CallO E g ([aint (l.getD j 0)] ++ cv) [] fun r L' => r = abool (p (l.getD j 0)) ∧ L' = []) :
    CallO E f_slices_IndexFunc_int_int args L fun r L' => (∃ i, r = aint i ∧ IdxP l p i) ∧ L' = L := by
  have hv1 := RowA.isOne hv
  refine callO_iso0 (R := fun r => ∃ i, r = aint i ∧ IdxP l p i) hm (fns_of hF n_slices_IndexFunc_int_int) hw ?_
  refine bodyO_of (Nat.le_of_ble_eq_true rfl) ?_; generalize ht : argSlots _ 0 .nil = t; have h0 : t.get 0 = some _ := (by rw [← ht]; rfl); have h1 : t.get 1 = some _ := (by rw [← ht]; rfl); clear ht
  repeat (first | intro id | refine goq ?_)
  refine WpO.mono (indexP_l0 (p := p) hv hlt hc l.length 0 _ (by omega) ?_ ?_ ?_ ?_ (fun j hj => by omega)) ?_
  · exact slotq
  · exact slotq
  · exact slotq
  · exact slotq
  rintro ex t1 L' ⟨rfl, ⟨rfl, hno⟩ | ⟨rfl, i, h4, hi⟩⟩
  · repeat (first | intro id | refine goq ?_)
    ((first | apply retO_r | apply retO_n); (focus (exact resq)))
    exact ⟨rfl, -1, rfl, .inl ⟨rfl, hno⟩⟩
  · repeat (first | intro id | refine goq ?_)
    ((first | apply retO_r | apply retO_n); (focus (exact resq)))
    exact ⟨rfl, i, rfl, hi⟩
theorem containsP_ok (hF : E.fns = fnsT) (hm : E.mode f_slices_ContainsFunc_int_int = .iso false) (hmi : E.mode f_slices_IndexFunc_int_int = .iso false) {g : FuncId} {args cv : List AVal} {v : AVal} {l : List Int} {p : Int → Bool} (hw : ViewsO L args [v, .fn (.func g) [] cv]) (hb : bareAll cv = true) (hv : SlI v l) (hlt : l.length < 2 ^ 62)
    (hc : ∀ j, j < l.length → CallO E g ([aint (l.getD j 0)] ++ cv) [] fun r L' => r = abool (p (l.getD j 0)) ∧ L' = []) :
    CallO E f_slices_ContainsFunc_int_int args L fun r L' => r = abool (l.any p) ∧ L' = L := by
  have hv1 := RowA.isOne hv
  refine callO_iso0 (R := fun r => r = abool (l.any p)) hm (fns_of hF n_slices_ContainsFunc_int_int) hw ?_
  refine bodyO_of (Nat.le_of_ble_eq_true rfl) ?_; generalize ht : argSlots _ 0 .nil = t; have h0 : t.get 0 = some _ := (by rw [← ht]; rfl); have h1 : t.get 1 = some _ := (by rw [← ht]; rfl); clear ht
  repeat (first | intro id | refine goq ?_)
  refine gok ?_
  refine (indexP_ok hF hmi (vs_bare (bare_SlI hv) (vs_bare (by simp [AVal.bare, bareAll, hb]) vs_nil)) hv hlt hc).mono ?_
  rintro r L' ⟨⟨i, rfl, ⟨rfl, hno⟩ | ⟨k, rfl, hk, hp, -⟩⟩, rfl⟩
  · have e : l.any p = false := by
      rw [List.any_eq_false]
      intro x hx
      obtain ⟨j, hj, rfl⟩ := List.getElem_of_mem hx
      have := hno j hj
      simpa [hj] using this
    rw [e]
    repeat (first | intro id | refine goq ?_)
    ((first | apply retO_r | apply retO_n); (focus (exact resq)))
    exact ⟨rfl, rfl⟩
  · have e : l.any p = true := by
      rw [List.any_eq_true]
      exact ⟨l.getD k 0, by simp [hk], hp⟩
    rw [e]
    repeat (first | intro id | refine goq ?_)
    ((first | apply retO_r | apply retO_n); (focus (exact resq)))
    exact ⟨rfl, rfl⟩
end Go.Proofs.YtmflheoafeenfaaGreat
namespace Go.Proofs.YtmflheoafeenfaaGreat
open Go.Am
set_option maxRecDepth 4000
structure OpD where
  kind : Int
  gate : Int
  qs : List Int
  bit : Int
  ifc : Int
  whn : Int
  deriving DecidableEq, Inhabited
structure CircD where
  qubits : Int
  bits : Int
  ops : List OpD
  deriving DecidableEq, Inhabited
def opCells (q : AVal) (o : OpD) : List AVal := [aint o.kind, aint o.gate, q, aint o.bit, aint o.ifc, aint o.whn]
/-- The cells of a row of operations. -/
inductive OpsC : List AVal → List OpD → Prop where
  | nil : OpsC [] []
  | cons {q : AVal} {o : OpD} {cs : List AVal} {os : List OpD} (hq : SlI q o.qs) (hb : o.qs.length < 2 ^ 62) (h : OpsC cs os) : OpsC (opCells q o ++ cs) (o :: os)
def OpsA (v : AVal) (os : List OpD) : Prop := ∃ cs, RowA v cs os.length ∧ OpsC cs os ∧ os.length < 2 ^ 62
def CircA (v : AVal) (c : CircD) : Prop := ∃ s, v = .agg [aint c.qubits, aint c.bits, s] ∧ OpsA s c.ops
theorem OpsC.length {cs : List AVal} {os : List OpD} (h : OpsC cs os) : cs.length = os.length * 6 := by
  induction h with
  | nil => rfl
  | cons hq hb h ih => simp only [opCells, List.cons_append, List.nil_append, List.length_cons, ih]; omega
/-- One operation out of a row. -/
structure OpAt (cs : List AVal) (k : Nat) (q : AVal) (o : OpD) : Prop where
  hq : SlI q o.qs
  b : o.qs.length < 2 ^ 62
  lt : k * 6 < cs.length
  seg : seg (cs.drop (k * 6)) 0 6 = some (opCells q o)
  f0 : (cs.drop (k * 6))[0]? = some (aint o.kind)
  f1 : ((cs.drop (k * 6)).drop 1)[0]? = some (aint o.gate)
  f2 : ((cs.drop (k * 6)).drop 2)[0]? = some q
  f3 : ((cs.drop (k * 6)).drop 3)[0]? = some (aint o.bit)
  f4 : ((cs.drop (k * 6)).drop 4)[0]? = some (aint o.ifc)
  f5 : ((cs.drop (k * 6)).drop 5)[0]? = some (aint o.whn)
  l6 : 6 ≤ (cs.drop (k * 6)).length
theorem OpsC.at {cs : List AVal} {os : List OpD} (h : OpsC cs os) : ∀ {k : Nat}, k < os.length → ∃ q, OpAt cs k q (os.getD k default) := by
  induction h with
  | nil => intro k hk; simp at hk
  | @cons q o cs os hq hb h ih =>
    intro k hk
    cases k with
    | zero =>
      refine ⟨q, ?_⟩
      have hl : (opCells q o ++ cs).length = cs.length + 6 := by simp [opCells]
      constructor <;> simp_all [opCells, Am.seg]
    | succ k =>
      obtain ⟨q', h1⟩ := ih (k := k) (by simpa using hk)
      have e : (opCells q o ++ cs).drop ((k + 1) * 6) = cs.drop (k * 6) := by
        have : (k + 1) * 6 = (opCells q o).length + k * 6 := by simp [opCells]; omega
        rw [this, List.drop_append, Nat.add_sub_cancel_left, List.drop_of_length_le (by omega), List.nil_append]
      refine ⟨q', ?_⟩
      have e2 : (o :: os).getD (k + 1) default = os.getD k default := by simp
      rw [e2]
      have hl : (opCells q o ++ cs).length = cs.length + 6 := by simp [opCells]
      exact ⟨h1.hq, h1.b, by rw [hl]; have := h1.lt; omega, by rw [e]; exact h1.seg, by rw [e]; exact h1.f0, by rw [e]; exact h1.f1, by rw [e]; exact h1.f2, by rw [e]; exact h1.f3, by rw [e]; exact h1.f4, by rw [e]; exact h1.f5, by rw [e]; exact h1.l6⟩
theorem OpsC.getE {cs : List AVal} {os : List OpD} {k : Nat} (h : OpsC cs os) (hk : k < os.length) : ∃ q, SlI q (os.getD k default).qs ∧ (os.getD k default).qs.length < 2 ^ 62 ∧ k * 6 < cs.length ∧ Am.seg (cs.drop (k * 6)) 0 6 = some (opCells q (os.getD k default)) := by
  obtain ⟨q, ha⟩ := h.at hk
  exact ⟨q, ha.hq, ha.b, ha.lt, ha.seg⟩
theorem OpsC.bare {cs : List AVal} {os : List OpD} (h : OpsC cs os) : ∀ c ∈ cs, c.bare = true := by
  induction h with
  | nil => intro c hc; simp at hc
  | @cons q o cs os hq hb h ih =>
    intro c hc
    simp only [opCells, List.cons_append, List.nil_append, List.mem_cons] at hc
    rcases hc with rfl | rfl | rfl | rfl | rfl | rfl | hc
    · rfl
    · rfl
    · exact bare_SlI hq
    · rfl
    · rfl
    · rfl
    · exact ih c hc
theorem OpsA.bare {v : AVal} {os : List OpD} (h : OpsA v os) : v.bare = true := by
  obtain ⟨cs, h1, h2, -⟩ := h
  exact bare_Row h1 h2.bare
theorem CircA.bare {v : AVal} {c : CircD} (h : CircA v c) : v.bare = true := by
  obtain ⟨s, rfl, h⟩ := h
  simp [AVal.bare, bareAll, aint, h.bare]

/-! What may be -/
def okAt (n : Int) (l : List Int) (i : Nat) : Prop := 0 ≤ l.getD i 0 ∧ l.getD i 0 < n ∧ ∀ j, j < i → l.getD j 0 ≠ l.getD i 0
def Qs (n : Int) (l : List Int) : Prop := ∀ i, i < l.length → okAt n l i
def arity (k : Int) : Int := if k < 1 ∨ 20 < k then 0 else if k ≤ 10 then 1 else if k ≤ 17 then 2 else 3
/-- Which error: no kind, wires that may not be, none. -/
def gateE (k : Int) (l : List Int) (n e : Int) : Prop := (e = 0 ∧ arity k ≠ 0 ∧ (l.length : Int) = arity k ∧ Qs n l) ∨ (e = 60 ∧ arity k = 0) ∨ (e = 61 ∧ arity k ≠ 0 ∧ ¬((l.length : Int) = arity k ∧ Qs n l))
def condOk (o : OpD) (b : Int) : Prop := (o.ifc = -1 ∧ o.whn = 0) ∨ (0 ≤ o.ifc ∧ o.ifc < b ∧ (o.whn = 0 ∨ o.whn = 1))
def OpOk (o : OpD) (n b : Int) : Prop :=
  (o.kind = 1 ∧ arity o.gate ≠ 0 ∧ (o.qs.length : Int) = arity o.gate ∧ Qs n o.qs ∧ o.bit = 0 ∧ condOk o b) ∨
  (o.kind = 2 ∧ o.gate = 0 ∧ o.ifc = -1 ∧ o.whn = 0 ∧ o.qs.length = 1 ∧ Qs n o.qs ∧ 0 ≤ o.bit ∧ o.bit < b) ∨
  (o.kind = 3 ∧ o.gate = 0 ∧ o.ifc = -1 ∧ o.whn = 0 ∧ o.qs.length = 1 ∧ Qs n o.qs ∧ o.bit = 0) ∨
  (o.kind = 4 ∧ o.gate = 0 ∧ o.ifc = -1 ∧ o.whn = 0 ∧ o.qs.length ≠ 0 ∧ Qs n o.qs ∧ o.bit = 0)
structure CircOk (c : CircD) : Prop where
  q0 : 0 ≤ c.qubits
  q1 : c.qubits ≤ 64
  b0 : 0 ≤ c.bits
  b1 : c.bits ≤ 64
  len : c.ops.length ≤ 4096
  ok : ∀ k, k < c.ops.length → OpOk (c.ops.getD k default) c.qubits c.bits
theorem mem_take_iff {l : List Int} {x : Int} {k : Nat} (hk : k ≤ l.length) : x ∈ l.take k ↔ ∃ j, j < k ∧ l.getD j 0 = x := by
  rw [List.mem_take_iff_getElem]
  constructor
  · rintro ⟨j, hj, e⟩
    exact ⟨j, by omega, by simp [List.getD_eq_getElem?_getD, List.getElem?_eq_getElem (show j < l.length by omega), e]⟩
  · rintro ⟨j, hj, e⟩
    exact ⟨j, by omega, by simpa [List.getD_eq_getElem?_getD, List.getElem?_eq_getElem (show j < l.length by omega)] using e⟩
theorem okAt_iff {n : Int} {l : List Int} {k : Nat} (hk : k < l.length) : okAt n l k ↔ 0 ≤ l.getD k 0 ∧ l.getD k 0 < n ∧ l.getD k 0 ∉ l.take k := by
  unfold okAt
  rw [mem_take_iff (by omega)]
  constructor
  · rintro ⟨h1, h2, h3⟩
    exact ⟨h1, h2, fun ⟨j, hj, e⟩ => h3 j hj e⟩
  · rintro ⟨h1, h2, h3⟩
    exact ⟨h1, h2, fun j hj e => h3 ⟨j, hj, e⟩⟩
end Go.Proofs.YtmflheoafeenfaaGreat
namespace Go.Proofs.YtmflheoafeenfaaGreat
open Go.Am
set_option maxRecDepth 4000
def takesB (o : OpD) : Bool := decide (o.kind = 2) || decide (o.kind = 3)
def setsB (a b : OpD) : Bool := decide (a.kind = 2) && (decide (0 ≤ b.ifc) && decide (a.bit = b.ifc))
def meetB (a b : OpD) : Bool := a.qs.any fun q => b.qs.contains q
def touchB (a b : OpD) : Bool := meetB a b || ((takesB a && takesB b) || (setsB a b || setsB b a))
theorem meetB_iff {a b : OpD} : meetB a b = true ↔ ∃ q, q ∈ a.qs ∧ q ∈ b.qs := by simp [meetB]
theorem meetB_comm (a b : OpD) : meetB a b = meetB b a := by
  rw [Bool.eq_iff_iff, meetB_iff, meetB_iff]
  exact ⟨fun ⟨q, h1, h2⟩ => ⟨q, h2, h1⟩, fun ⟨q, h1, h2⟩ => ⟨q, h2, h1⟩⟩
theorem touchB_comm (a b : OpD) : touchB a b = touchB b a := by
  unfold touchB
  rw [meetB_comm a b, Bool.and_comm (takesB a), Bool.or_comm (setsB a b)]
def cmpI (a b : Int) : Int := if a < b then -1 else if b < a then 1 else 0
def orI (x y : Int) : Int := if x = 0 then y else x
def cmpL : List Int → List Int → Int
  | [], [] => 0
  | [], _ :: _ => -1
  | _ :: _, [] => 1
  | a :: asq, b :: bs => orI (cmpI a b) (cmpL asq bs)
def cmpO (a b : OpD) : Int := orI (cmpI a.kind b.kind) (orI (cmpI a.gate b.gate) (orI (cmpL a.qs b.qs) (orI (cmpI a.bit b.bit) (orI (cmpI a.ifc b.ifc) (cmpI a.whn b.whn)))))
def lessB (a b : OpD) : Bool := decide (cmpO a b < 0)
/-- None of those ahead touches it. -/
def freeB (l : List OpD) (j : Nat) : Bool := (l.take j).all fun x => !touchB x (l.getD j default)
def bestTo (l : List OpD) : Nat → Int
  | 0 => -1
  | k + 1 => if freeB l k = true ∧ (bestTo l k < 0 ∨ lessB (l.getD k default) (l.getD (bestTo l k).toNat default) = true) then (k : Int) else bestTo l k
def bestI (l : List OpD) : Nat := (bestTo l l.length).toNat
def ordF : Nat → List OpD → List OpD
  | 0, _ => []
  | n + 1, l => l.getD (bestI l) default :: ordF n (l.eraseIdx (bestI l))
def ordL (l : List OpD) : List OpD := ordF l.length l
/-- What the best of the first k is. -/
structure BestAt (l : List OpD) (k b : Nat) : Prop where
  lt : b < k
  free : freeB l b = true
  least : ∀ j, j < k → freeB l j = true → lessB (l.getD j default) (l.getD b default) = false
theorem freeB_iff {l : List OpD} {j : Nat} (hj : j < l.length) : freeB l j = true ↔ ∀ i, i < j → touchB (l.getD i default) (l.getD j default) = false := by
  unfold freeB
  rw [List.all_eq_true]
  constructor
  · intro h i hi
    have := h (l.getD i default) (by
      rw [List.mem_take_iff_getElem]
      exact ⟨i, by omega, by simp [show i < l.length by omega]⟩)
    simpa using this
  · intro h x hx
    rw [List.mem_take_iff_getElem] at hx
    obtain ⟨i, hi, rfl⟩ := hx
    have := h i (by omega)
    simp [show i < l.length by omega] at this
    simp [this]
end Go.Proofs.YtmflheoafeenfaaGreat
namespace Go.Proofs.YtmflheoafeenfaaGreat
open Go.Am
set_option maxRecDepth 4000
set_option maxHeartbeats 8000000
variable {E : Env} {L : Hp}
/-- A slice of numbers in a box of its own, or nil. -/
def OwnI (u : AVal) (l : List Int) (B : Hp) : Prop := (u = anil ∧ l = [] ∧ B = []) ∨ ∃ id cap, u = .sl id 0 l.length 1 cap ∧ B = [(id, l.map aint)]
theorem OwnI.isOne {u : AVal} {l : List Int} {B : Hp} (h : OwnI u l B) : u.one = true := by
  rcases h with ⟨rfl, -, -⟩ | ⟨id, cap, rfl, -⟩ <;> rfl
theorem OwnI.view {u : AVal} {l : List Int} {B M : Hp} (h : OwnI u l B) (k : Nat) (hM : ∀ id c, In id c B → In id c M) : ∃ q, ViewO M (k + 2) u q ∧ SlI q l := by
  rcases h with ⟨rfl, rfl, rfl⟩ | ⟨id, cap, rfl, rfl⟩
  · exact ⟨anil, vo_sc, .inl ⟨rfl, rfl, rfl⟩⟩
  · exact ⟨.rs (l.map aint) l.length cap, vo_sl (hM _ _ .here) (by rw [Nat.mul_one]; exact seg_full (by simp)) (vl_sc (sc_ints l)), .inr ⟨cap, rfl⟩⟩
inductive OpsB : List AVal → List OpD → Hp → Prop where
  | nil : OpsB [] [] []
  | snoc {cs : List AVal} {os : List OpD} {H B : Hp} {u : AVal} {o : OpD} (h : OpsB cs os H) (hq : OwnI u o.qs B) (hb : o.qs.length < 2 ^ 62) : OpsB (cs ++ opCells u o) (os ++ [o]) (H ++ B)
def CircO (v : AVal) (c : CircD) (B : Hp) : Prop := ∃ s cs Bs H, v = .agg [aint c.qubits, aint c.bits, s] ∧ BufO 6 s cs c.ops.length Bs ∧ OpsB cs c.ops H ∧ c.ops.length < 2 ^ 62 ∧ B = Bs ++ H
theorem OpsC.snoc {cs : List AVal} {os : List OpD} {q : AVal} {o : OpD} (h : OpsC cs os) (hq : SlI q o.qs) (hb : o.qs.length < 2 ^ 62) : OpsC (cs ++ opCells q o) (os ++ [o]) := by
  induction h with
  | nil => have := OpsC.cons hq hb .nil; simpa using this
  | cons hq' hb' h ih => rw [List.append_assoc]; exact .cons hq' hb' ih
theorem OpsB.view {cs : List AVal} {os : List OpD} {H M : Hp} (h : OpsB cs os H) (k : Nat) (hM : ∀ id c, In id c H → In id c M) : ∃ us, ViewL M (k + 2) cs us ∧ OpsC us os := by
  induction h with
  | nil => exact ⟨[], vl_nil, .nil⟩
  | @snoc cs os H B u o h hq hb ih =>
    obtain ⟨us, h1, h2⟩ := ih fun id c hi => hM id c hi.appl
    obtain ⟨q, h3, h4⟩ := hq.view k fun id c hi => hM id c hi.app
    refine ⟨us ++ opCells q o, vl_app h1 ?_, h2.snoc h4 hb⟩
    exact vl_cons vo_sc (vl_cons vo_sc (vl_cons h3 (vl_cons vo_sc (vl_cons vo_sc (vl_cons vo_sc vl_nil)))))
theorem bufInv {esz n : Nat} {v : AVal} {cs : List AVal} {B : Hp} (h : BufO esz v cs n B) : (v = anil ∧ cs = [] ∧ n = 0 ∧ B = []) ∨ ∃ id, v = .sl id 0 n esz none ∧ B = [(id, cs)] := by
  cases h with
  | nil => exact .inl ⟨rfl, rfl, rfl, rfl⟩
  | box _ _ => exact .inr ⟨_, rfl, rfl⟩
theorem CircO.view {v : AVal} {c : CircD} {B M : Hp} (h : CircO v c B) (k : Nat) (hM : ∀ id c, In id c B → In id c M) : ∃ u, ViewO M (k + 4) v u ∧ CircA u c := by
  obtain ⟨s, cs, Bs, H, rfl, hb, ho, hlt, rfl⟩ := h
  obtain ⟨us, h1, h2⟩ := ho.view k fun id c hi => hM id c hi.app
  have hlen := hb.length
  rcases bufInv hb with ⟨rfl, rfl, e, rfl⟩ | ⟨id, rfl, rfl⟩
  · have h3 := h2.length
    rw [e] at h3
    have h4 : us = [] := List.eq_nil_of_length_eq_zero (by simpa using h3)
    exact ⟨.agg [aint c.qubits, aint c.bits, anil], vo_agg (vl_cons vo_sc (vl_cons vo_sc (vl_cons vo_sc vl_nil))), anil, rfl, us, .inl ⟨rfl, e, h4⟩, h2, hlt⟩
  · exact ⟨_, vo_agg (vl_cons vo_sc (vl_cons vo_sc (vl_cons (vo_sl (hM _ _ (In.appl .here)) (seg_full hlen) h1) vl_nil))), _, rfl, us, .inr ⟨none, rfl⟩, h2, hlt⟩
/-- Of a size that can be. -/
structure Small (c : CircD) : Prop where
  ops : c.ops.length ≤ 1000000
  qs : ∀ k, k < c.ops.length → (c.ops.getD k default).qs.length ≤ 2000000
theorem Clone_open (hF : E.fns = fnsT) (hm : E.mode f_slices_Clone_int_int = .open_) {v : AVal} {l : List Int} (hv : SlI v l) (hl : l.length ≤ 2000000) : CallO E f_slices_Clone_int_int [v] L fun r L' => ∃ B, OwnI r l B ∧ L' = B ++ L := by
  refine CallO.to (callO_open hm (fns_of hF n_slices_Clone_int_int) ?_)
  have hv1 := RowA.isOne hv
  rcases hv with ⟨rfl, h0, h1⟩ | ⟨cap, rfl⟩
  · have : l = [] := List.eq_nil_of_length_eq_zero h0
    subst this
    refine bodyO_of (Nat.le_of_ble_eq_true rfl) ?_; generalize ht : argSlots _ 0 .nil = t; have h0 : t.get 0 = some _ := (by rw [← ht]; rfl); clear ht
    repeat (first | intro id | refine goq ?_)
    ((first | apply retO_r | apply retO_n); (focus (exact resq)))
    exact ⟨_, by exact subq, [], .inl ⟨rfl, rfl, rfl⟩, rfl⟩
  · have hrow : RowA (.rs (l.map aint) l.length cap) (l.map aint) l.length := .inr ⟨cap, rfl⟩
    refine bodyO_of (Nat.le_of_ble_eq_true rfl) ?_; generalize ht : argSlots _ 0 .nil = t; have h0 : t.get 0 = some _ := (by rw [← ht]; rfl); clear ht
    repeat (first | intro id | refine goq ?_)
    by_cases hl0 : l.length = 0
    · have : l = [] := List.eq_nil_of_length_eq_zero hl0
      subst this
      refine oo_append0 wanted_none (by exact slotq) rfl (by exact slotq) rfl ?_
      repeat (first | intro id | refine goq ?_)
      ((first | apply retO_r | apply retO_n); (focus (exact resq)))
      exact ⟨_, by exact subq, [(id, [])], .inr ⟨id, some 0, rfl, rfl⟩, rfl⟩
    · refine oo_appendF wanted_none (by exact slotq) .here (old := []) rfl rfl (by exact slotq) hrow (by omega) (by simp) (all_one_ints _) (by omega) (by omega) ?_
      intro id2
      repeat (first | intro id | refine goq ?_)
      ((first | apply retO_r | apply retO_n); (focus (exact resq)))
      exact ⟨_, by exact subq, [(id2, l.map aint)], .inr ⟨id2, none, by simp [resultV], rfl⟩, rfl⟩
theorem OpsB.one {cs : List AVal} {os : List OpD} {H : Hp} (h : OpsB cs os H) : cs.length = os.length * 6 := by
  induction h with
  | nil => rfl
  | snoc h hq hb ih => simp only [List.length_append, ih, opCells, List.length_cons, List.length_nil]; omega
theorem takeO_snoc {os : List OpD} {k : Nat} (hk : k < os.length) : os.take (k + 1) = os.take k ++ [os.getD k default] := by
  rw [List.take_succ_eq_append_getElem hk]
  simp [hk]
/-- The program's copy, round by round. -/
theorem ccopy_l0 (hF : E.fns = fnsT) (hmc : E.mode f_slices_Clone_int_int = .open_) {c : CircD} {s : AVal} {cs0 : List AVal} {i3 : Nat} (hr : RowA s cs0 c.ops.length) (hcs : OpsC cs0 c.ops) (hsm : Small c) :
    ∀ (d k : Nat) (t : Tr AVal) (a : AVal) (cs : List AVal) (B H : Hp), d + k = c.ops.length → t.get 3 = some (.ptr i3 0) → t.get 12 = some s → t.get 13 = some (aint c.ops.length) → t.get 14 = some (aint k) → BufO 6 a cs k B → OpsB cs (c.ops.take k) H →
    WpO E (.loop c_circuit_Copy_l0) t ((i3, [aint c.qubits, aint c.bits, a]) :: (B ++ (H ++ L))) (fun ex t' L' => ex = .exit 0 ∧ Keep [1, 2, 3] t t' ∧ ∃ a' cs' B' H', BufO 6 a' cs' c.ops.length B' ∧ OpsB cs' c.ops H' ∧ L' = (i3, [aint c.qubits, aint c.bits, a']) :: (B' ++ (H' ++ L))) := by
  have hs1 := RowA.isOne hr
  have hsm1 := hsm.ops
  intro d
  induction d with
  | zero =>
    intro k t a cs B H hk h3 h12 h13 h14 hb ho
    obtain rfl : k = c.ops.length := by omega
    refine wo_loop ?_
    repeat (first | intro id | refine goq ?_)
    rw [List.take_length] at ho
    exact ⟨rfl, by exact keepq, a, cs, B, H, hb, ho, rfl⟩
  | succ d ih =>
    intro k t a cs B H hk h3 h12 h13 h14 hb ho
    have hkl : k < c.ops.length := by omega
    obtain ⟨q, hq, hqb, hlt6, hseg⟩ := hcs.getE hkl
    have hql := hsm.qs k hkl
    have htk := takeO_snoc hkl
    generalize c.ops.getD k default = o at *
    have hq1 := RowA.isOne hq
    have ha1 := hb.isOne
    unfold opCells at hseg
    refine wo_loop ?_
    repeat (first | intro id | refine goq ?_)
    refine gok ?_
    refine (Clone_open hF hmc hq hql).mono ?_
    rintro u L' ⟨C, hu, rfl⟩
    have hu1 := hu.isOne
    repeat (first | intro id | refine goq ?_)
    have hb2 := hb.pushed (id := id) (nw := opCells u o) rfl (by simp only [opCells, List.all_cons, List.all_nil, hu1, Bool.and_true]; rfl)
    have ho2 := ho.snoc hu hqb
    rw [← htk] at ho2
    refine WpO.weak (WpO.mono (ih (k + 1) _ _ _ _ _ (by omega) ?_ ?_ ?_ ?_ hb2 ho2) ?_) ?_
    · exact slotq
    · exact slotq
    · exact slotq
    · exact slotq
    · rintro ex t' L' ⟨e1, e2, e3⟩
      exact ⟨e1, Keep.trans (by exact keepq) e2, e3⟩
    · rw [List.append_assoc]
      exact subq
/-- The program's copy: in boxes of its own. -/
theorem CCopy_open (hF : E.fns = fnsT) (hm : E.mode f_circuit_Copy = .open_) (hmc : E.mode f_slices_Clone_int_int = .open_) {c : CircD} {v : AVal} (hv : CircA v c) (hsm : Small c) : CallO E f_circuit_Copy [v] L fun r L' => ∃ B, CircO r c B ∧ L' = B ++ L := by
  refine CallO.to (callO_open hm (fns_of hF n_circuit_Copy) ?_)
  obtain ⟨s, rfl, cs, hr, hcs, hlt⟩ := hv
  have hs1 := RowA.isOne hr
  refine bodyO_of (Nat.le_of_ble_eq_true rfl) ?_; generalize ht : argSlots _ 0 .nil = t; have h0 : t.get 0 = some _ := (by rw [← ht]; rfl); clear ht
  repeat (first | intro id | refine goq ?_)
  rename_i i2
  refine WpO.mono (ccopy_l0 hF hmc hr hcs hsm c.ops.length 0 _ anil [] [] [] (by omega) ?_ ?_ ?_ ?_ .nil .nil) ?_
  · exact slotq
  · exact slotq
  · exact slotq
  · exact slotq
  rintro ex t' L' ⟨rfl, hK, a', cs', B', H', hb, ho, rfl⟩
  have g2 : t'.get 2 = some (.ptr i2 0) := (hK.ex 2 rfl).trans (by exact slotq)
  have g3 : t'.get 3 = some (.ptr id 0) := (hK.ex 3 rfl).trans (by exact slotq)
  have ha1 := hb.isOne
  repeat (first | intro id | refine goq ?_)
  ((first | apply retO_r | apply retO_n); (focus (exact resq)))
  exact ⟨B' ++ (H' ++ L), by exact subq, B' ++ H', ⟨a', cs', B', H', rfl, hb, ho, hlt, rfl⟩, (List.append_assoc _ _ _).symm⟩
/-- The document's copy, round by round. -/
theorem rcopy_l0 {c : CircD} {s : AVal} {cs0 : List AVal} {i1 i3 : Nat} (hr : RowA s cs0 c.ops.length) (hcs : OpsC cs0 c.ops) (hsm : Small c) :
    ∀ (d k : Nat) (t : Tr AVal) (a : AVal) (cs : List AVal) (B H : Hp), d + k = c.ops.length → t.get 1 = some (.ptr i1 0) → t.get 3 = some (.ptr i3 0) → t.get 4 = some (aint k) → BufO 6 a cs k B → OpsB cs (c.ops.take k) H →
    WpO E (.loop c_phasorref08_Copy_l0) t ((i3, [aint c.qubits, aint c.bits, a]) :: (i1, [aint c.qubits, aint c.bits, s]) :: (B ++ (H ++ L))) (fun ex t' L' => ex = .exit 0 ∧ Keep [1, 2, 3] t t' ∧ ∃ a' cs' B' H', BufO 6 a' cs' c.ops.length B' ∧ OpsB cs' c.ops H' ∧ L' = (i3, [aint c.qubits, aint c.bits, a']) :: (i1, [aint c.qubits, aint c.bits, s]) :: (B' ++ (H' ++ L))) := by
  have hs1 := RowA.isOne hr
  have hsm1 := hsm.ops
  intro d
  induction d with
  | zero =>
    intro k t a cs B H hk h1 h3 h4 hb ho
    obtain rfl : k = c.ops.length := by omega
    refine wo_loop ?_
    repeat (first | intro id | refine goq ?_)
    rw [List.take_length] at ho
    exact ⟨rfl, by exact keepq, a, cs, B, H, hb, ho, rfl⟩
  | succ d ih =>
    intro k t a cs B H hk h1 h3 h4 hb ho
    have hkl : k < c.ops.length := by omega
    obtain ⟨q, hq, hqb, hlt6, hseg⟩ := hcs.getE hkl
    have hql := hsm.qs k hkl
    have htk := takeO_snoc hkl
    generalize c.ops.getD k default = o at *
    have hq1 := RowA.isOne hq
    have ha1 := hb.isOne
    unfold opCells at hseg
    refine wo_loop ?_
    repeat (first | intro id | refine goq ?_)
    refine oo_appendR wanted_none (by exact slotq) .nil (by exact slotq) hq .nil (by simp) (all_one_ints _) (by omega) (by omega) ?_
    intro u C hu
    have hu1 := hu.isOne
    have hown : OwnI u o.qs C := by
      rcases bufInv hu with ⟨rfl, e1, e2, rfl⟩ | ⟨id, rfl, rfl⟩
      · have : o.qs = [] := List.eq_nil_of_length_eq_zero (by omega)
        exact .inl ⟨rfl, this, rfl⟩
      · exact .inr ⟨id, none, by simp, by simp⟩
    repeat (first | intro id | refine goq ?_)
    have hb2 := hb.pushed (id := id) (nw := opCells u o) rfl (by simp only [opCells, List.all_cons, List.all_nil, hu1, Bool.and_true]; rfl)
    have ho2 := ho.snoc hown hqb
    rw [← htk] at ho2
    refine WpO.weak (WpO.mono (ih (k + 1) _ _ _ _ _ (by omega) ?_ ?_ ?_ hb2 ho2) ?_) ?_
    · exact slotq
    · exact slotq
    · exact slotq
    · rintro ex t' L' ⟨e1, e2, e3⟩
      exact ⟨e1, Keep.trans (by exact keepq) e2, e3⟩
    · rw [List.append_assoc]
      exact subq
theorem RCopy_ok (hF : E.fns = fnsT) (hm : E.mode f_phasorref08_Copy = .iso true) {c : CircD} {v : AVal} (hv : CircA v c) (hsm : Small c) : CallO E f_phasorref08_Copy [v] L fun r L' => CircA r c ∧ L' = L := by
  refine callO_iso1 (R := fun r => CircA r c) hm (fns_of hF n_phasorref08_Copy) (by simp [hv.bare]) ?_
  obtain ⟨s, rfl, cs, hr, hcs, hlt⟩ := hv
  have hs1 := RowA.isOne hr
  refine bodyO_of (Nat.le_of_ble_eq_true rfl) ?_; generalize ht : argSlots _ 0 .nil = t; have h0 : t.get 0 = some _ := (by rw [← ht]; rfl); clear ht
  repeat (first | intro id | refine goq ?_)
  rename_i i1 i2
  refine WpO.weak (WpO.mono (rcopy_l0 (L := [(i2, [aint 0, aint 0, anil])]) (i1 := i1) (i3 := id) hr hcs hsm c.ops.length 0 _ anil [] [] [] (by omega) ?_ ?_ ?_ .nil .nil) ?_) ?_
  · exact slotq
  · exact slotq
  · exact slotq
  · rintro ex t' L' ⟨rfl, hK, a', cs', B', H', hb, ho, rfl⟩
    have g2 : t'.get 2 = some (.ptr i2 0) := (hK.ex 2 rfl).trans (by exact slotq)
    have g3 : t'.get 3 = some (.ptr id 0) := (hK.ex 3 rfl).trans (by exact slotq)
    have ha1 := hb.isOne
    repeat (first | intro id | refine goq ?_)
    ((first | apply retO_r | apply retO_n); (focus (exact resq)))
    have hcirc : CircO (.agg [aint c.qubits, aint c.bits, a']) c (B' ++ H') := ⟨a', cs', B', H', rfl, hb, ho, hlt, rfl⟩
    refine hcirc.view 60 (fun id c hi => ?_)
    repeat (first | (rw [← List.append_assoc]; exact hi.appl) | apply In.next)
  · simp only [List.nil_append]
    exact subq
end Go.Proofs.YtmflheoafeenfaaGreat
namespace Go.Proofs.YtmflheoafeenfaaGreat
open Go.Am
set_option maxRecDepth 4000
set_option maxHeartbeats 8000000
variable {E : Env} {L : Hp}
theorem vo_bareI {k : Nat} {q : AVal} {l : List Int} (hq : SlI q l) : ViewO L (k + 1) q q := by
  have hb := bare_SlI hq
  rcases hq with ⟨rfl, -, -⟩ | ⟨cap, rfl⟩
  · exact vo_sc
  · exact ⟨fun m hm => by simp only [view, hb, if_true]⟩
def opV (q : AVal) (o : OpD) : AVal := .agg (opCells q o)
theorem bare_opV {q : AVal} {o : OpD} (hq : SlI q o.qs) : (opV q o).bare = true := by simp [opV, opCells, AVal.bare, bareAll, aint, bare_SlI hq]
theorem ab_ex {f : FuncId} {args : List AVal} {b : Bool} (h : CallO E f args L fun r L' => (∃ x, r = abool x ∧ x = b) ∧ L' = L) : CallO E f args L fun r L' => r = abool b ∧ L' = L :=
  h.mono (by rintro v L' ⟨⟨x, rfl, rfl⟩, rfl⟩; exact ⟨rfl, rfl⟩)
theorem ai_ex {f : FuncId} {args : List AVal} {b : Int} (h : CallO E f args L fun r L' => (∃ x, r = aint x ∧ x = b) ∧ L' = L) : CallO E f args L fun r L' => r = aint b ∧ L' = L :=
  h.mono (by rintro v L' ⟨⟨x, rfl, rfl⟩, rfl⟩; exact ⟨rfl, rfl⟩)
def plainB (o : OpD) : Bool := decide (o.kind = 1) && decide (o.ifc = -1)
theorem asks_ok (hF : E.fns = fnsT) (hm : E.mode f_rewrite_asks = .iso false) {q : AVal} {o : OpD} {args : List AVal} (hq : SlI q o.qs) (hv : ViewsO L args [opV q o]) : CallO E f_rewrite_asks args L fun r L' => r = abool (takesB o) ∧ L' = L := by
  refine ab_ex (callO_iso0 (R := fun r => ∃ x, r = abool x ∧ x = takesB o) hm (fns_of hF n_rewrite_asks) hv ?_)
  have hq1 := RowA.isOne hq
  unfold opV opCells
  refine bodyO_of (Nat.le_of_ble_eq_true rfl) ?_; generalize ht : argSlots _ 0 .nil = t; have h0 : t.get 0 = some _ := (by rw [← ht]; rfl); clear ht
  repeat' (first | intro id | refine goq ?_ | (refine oo_guard (by exact slotq) (fun hc => ?_) (fun hc => ?_) <;> (fail_if_success (exact absurd hc (by decide))) <;> rw [hc] <;> (try simp only [decide_eq_true_eq, decide_eq_false_iff_not, ne_eq, Decidable.not_not] at hc)) | (refine wo_cond_if (by exact slotq) (fun hc => ?_) (fun hc => ?_) <;> (try simp only [decide_eq_true_eq, decide_eq_false_iff_not, ne_eq, Decidable.not_not] at hc)) | ((first | apply retO_r | apply retO_n); (focus (exact resq))))
  all_goals (refine ⟨rfl, _, rfl, ?_⟩; unfold takesB; grind)
theorem takes_ok (hF : E.fns = fnsT) (hm : E.mode f_phasorref18_takes = .iso false) {q : AVal} {o : OpD} {args : List AVal} (hq : SlI q o.qs) (hv : ViewsO L args [opV q o]) : CallO E f_phasorref18_takes args L fun r L' => r = abool (takesB o) ∧ L' = L := by
  refine ab_ex (callO_iso0 (R := fun r => ∃ x, r = abool x ∧ x = takesB o) hm (fns_of hF n_phasorref18_takes) hv ?_)
  have hq1 := RowA.isOne hq
  unfold opV opCells
  refine bodyO_of (Nat.le_of_ble_eq_true rfl) ?_; generalize ht : argSlots _ 0 .nil = t; have h0 : t.get 0 = some _ := (by rw [← ht]; rfl); clear ht
  repeat' (first | intro id | refine goq ?_ | (refine oo_guard (by exact slotq) (fun hc => ?_) (fun hc => ?_) <;> (fail_if_success (exact absurd hc (by decide))) <;> rw [hc] <;> (try simp only [decide_eq_true_eq, decide_eq_false_iff_not, ne_eq, Decidable.not_not] at hc)) | (refine wo_cond_if (by exact slotq) (fun hc => ?_) (fun hc => ?_) <;> (try simp only [decide_eq_true_eq, decide_eq_false_iff_not, ne_eq, Decidable.not_not] at hc)) | ((first | apply retO_r | apply retO_n); (focus (exact resq))))
  all_goals (refine ⟨rfl, _, rfl, ?_⟩; unfold takesB; grind)
theorem plain_ok (hF : E.fns = fnsT) (hm : E.mode f_rewrite_plain = .iso false) {q : AVal} {o : OpD} {args : List AVal} (hq : SlI q o.qs) (hv : ViewsO L args [opV q o]) : CallO E f_rewrite_plain args L fun r L' => r = abool (plainB o) ∧ L' = L := by
  refine ab_ex (callO_iso0 (R := fun r => ∃ x, r = abool x ∧ x = plainB o) hm (fns_of hF n_rewrite_plain) hv ?_)
  have hq1 := RowA.isOne hq
  unfold opV opCells
  refine bodyO_of (Nat.le_of_ble_eq_true rfl) ?_; generalize ht : argSlots _ 0 .nil = t; have h0 : t.get 0 = some _ := (by rw [← ht]; rfl); clear ht
  repeat' (first | intro id | refine goq ?_ | (refine oo_guard (by exact slotq) (fun hc => ?_) (fun hc => ?_) <;> (fail_if_success (exact absurd hc (by decide))) <;> rw [hc] <;> (try simp only [decide_eq_true_eq, decide_eq_false_iff_not, ne_eq, Decidable.not_not] at hc)) | (refine wo_cond_if (by exact slotq) (fun hc => ?_) (fun hc => ?_) <;> (try simp only [decide_eq_true_eq, decide_eq_false_iff_not, ne_eq, Decidable.not_not] at hc)) | ((first | apply retO_r | apply retO_n); (focus (exact resq))))
  all_goals (refine ⟨rfl, _, rfl, ?_⟩; unfold plainB; grind)
theorem rplain_ok (hF : E.fns = fnsT) (hm : E.mode f_phasorref18_plain = .iso false) {q : AVal} {o : OpD} {args : List AVal} (hq : SlI q o.qs) (hv : ViewsO L args [opV q o]) : CallO E f_phasorref18_plain args L fun r L' => r = abool (plainB o) ∧ L' = L := by
  refine ab_ex (callO_iso0 (R := fun r => ∃ x, r = abool x ∧ x = plainB o) hm (fns_of hF n_phasorref18_plain) hv ?_)
  have hq1 := RowA.isOne hq
  unfold opV opCells
  refine bodyO_of (Nat.le_of_ble_eq_true rfl) ?_; generalize ht : argSlots _ 0 .nil = t; have h0 : t.get 0 = some _ := (by rw [← ht]; rfl); clear ht
  repeat' (first | intro id | refine goq ?_ | (refine oo_guard (by exact slotq) (fun hc => ?_) (fun hc => ?_) <;> (fail_if_success (exact absurd hc (by decide))) <;> rw [hc] <;> (try simp only [decide_eq_true_eq, decide_eq_false_iff_not, ne_eq, Decidable.not_not] at hc)) | (refine wo_cond_if (by exact slotq) (fun hc => ?_) (fun hc => ?_) <;> (try simp only [decide_eq_true_eq, decide_eq_false_iff_not, ne_eq, Decidable.not_not] at hc)) | ((first | apply retO_r | apply retO_n); (focus (exact resq))))
  all_goals (refine ⟨rfl, _, rfl, ?_⟩; unfold plainB; grind)
theorem sets_ok (hF : E.fns = fnsT) (hm : E.mode f_phasorref18_sets = .iso false) {q p : AVal} {a b : OpD} {args : List AVal} (hq : SlI q a.qs) (hp : SlI p b.qs) (hv : ViewsO L args [opV q a, opV p b]) : CallO E f_phasorref18_sets args L fun r L' => r = abool (setsB a b) ∧ L' = L := by
  refine ab_ex (callO_iso0 (R := fun r => ∃ x, r = abool x ∧ x = setsB a b) hm (fns_of hF n_phasorref18_sets) hv ?_)
  have hq1 := RowA.isOne hq
  have hp1 := RowA.isOne hp
  unfold opV opCells
  refine bodyO_of (Nat.le_of_ble_eq_true rfl) ?_; generalize ht : argSlots _ 0 .nil = t; have h0 : t.get 0 = some _ := (by rw [← ht]; rfl); have h1 : t.get 1 = some _ := (by rw [← ht]; rfl); clear ht
  repeat' (first | intro id | refine goq ?_ | (refine oo_guard (by exact slotq) (fun hc => ?_) (fun hc => ?_) <;> (fail_if_success (exact absurd hc (by decide))) <;> rw [hc] <;> (try simp only [decide_eq_true_eq, decide_eq_false_iff_not, ne_eq, Decidable.not_not] at hc)) | (refine wo_cond_if (by exact slotq) (fun hc => ?_) (fun hc => ?_) <;> (try simp only [decide_eq_true_eq, decide_eq_false_iff_not, ne_eq, Decidable.not_not] at hc)) | ((first | apply retO_r | apply retO_n); (focus (exact resq))))
  all_goals (refine ⟨rfl, _, rfl, ?_⟩; unfold setsB; grind)
theorem sets2_ok (hF : E.fns = fnsT) (hm : E.mode f_rewrite_Touch_2 = .iso false) {q p : AVal} {a b : OpD} {args : List AVal} (hq : SlI q a.qs) (hp : SlI p b.qs) (hv : ViewsO L args [opV q a, opV p b]) : CallO E f_rewrite_Touch_2 args L fun r L' => r = abool (setsB a b) ∧ L' = L := by
  refine ab_ex (callO_iso0 (R := fun r => ∃ x, r = abool x ∧ x = setsB a b) hm (fns_of hF n_rewrite_Touch_2) hv ?_)
  have hq1 := RowA.isOne hq
  have hp1 := RowA.isOne hp
  unfold opV opCells
  refine bodyO_of (Nat.le_of_ble_eq_true rfl) ?_; generalize ht : argSlots _ 0 .nil = t; have h0 : t.get 0 = some _ := (by rw [← ht]; rfl); have h1 : t.get 1 = some _ := (by rw [← ht]; rfl); clear ht
  repeat' (first | intro id | refine goq ?_ | (refine oo_guard (by exact slotq) (fun hc => ?_) (fun hc => ?_) <;> (fail_if_success (exact absurd hc (by decide))) <;> rw [hc] <;> (try simp only [decide_eq_true_eq, decide_eq_false_iff_not, ne_eq, Decidable.not_not] at hc)) | (refine wo_cond_if (by exact slotq) (fun hc => ?_) (fun hc => ?_) <;> (try simp only [decide_eq_true_eq, decide_eq_false_iff_not, ne_eq, Decidable.not_not] at hc)) | ((first | apply retO_r | apply retO_n); (focus (exact resq))))
  all_goals (refine ⟨rfl, _, rfl, ?_⟩; unfold setsB; grind)
/-- Qubits that two have both: the document's two loops. -/
theorem rtouch_l0 {i2 i3 i : Nat} {q p a0 a1 a3 a4 a5 b0 b1 b3 b4 b5 : AVal} {qs ps : List Int} (hq : SlI q qs) (hp : SlI p ps) (hqi : i < qs.length) (hpl : ps.length < 2 ^ 62) (hql : qs.length < 2 ^ 62) :
    ∀ (d k : Nat) (t : Tr AVal), d + k = ps.length → t.get 2 = some (.ptr i2 0) → t.get 3 = some (.ptr i3 0) → t.get 5 = some (aint i) → t.get 6 = some (aint k) → (∀ j, j < k → ps.getD j 0 ≠ qs.getD i 0) →
    WpO E (.loop c_phasorref18_Touch_l0) t ((i3, [b0, b1, p, b3, b4, b5]) :: (i2, [a0, a1, q, a3, a4, a5]) :: L) (fun ex t' L' => ((ex = .exit 2 ∧ Keep [2, 3, 5] t t' ∧ ∀ j, j < ps.length → ps.getD j 0 ≠ qs.getD i 0) ∨ (ex = .ret ∧ t'.get 4 = some (abool true) ∧ qs.getD i 0 ∈ ps)) ∧ L' = (i3, [b0, b1, p, b3, b4, b5]) :: (i2, [a0, a1, q, a3, a4, a5]) :: L) := by
  have hq1 := RowA.isOne hq
  have hp1 := RowA.isOne hp
  intro d
  induction d with
  | zero =>
    intro k t hk h2 h3 h5 h6 hno
    refine wo_loop ?_
    repeat (first | intro id | refine goq ?_)
    exact ⟨.inl ⟨rfl, by exact keepq, fun j hj => hno j (by omega)⟩, rfl⟩
  | succ d ih =>
    intro k t hk h2 h3 h5 h6 hno
    refine wo_loop ?_
    by_cases he : qs.getD i 0 = ps.getD k 0
    · repeat (first | intro id | refine goq ?_)
      refine ⟨.inr ⟨rfl, by exact slotq, ?_⟩, rfl⟩
      rw [he]
      simp [show k < ps.length by omega]
    · repeat (first | intro id | refine goq ?_)
      refine WpO.mono (ih (k + 1) _ (by omega) ?_ ?_ ?_ ?_ ?_) ?_
      · exact slotq
      · exact slotq
      · exact slotq
      · exact slotq
      · intro j hj
        by_cases e : j = k
        · subst e; exact fun h => he h.symm
        · exact hno j (by omega)
      · rintro ex t' L' ⟨⟨e1, e2, e3⟩ | h, e4⟩
        · exact ⟨.inl ⟨e1, Keep.trans (by exact keepq) e2, e3⟩, e4⟩
        · exact ⟨.inr h, e4⟩
end Go.Proofs.YtmflheoafeenfaaGreat
namespace Go.Proofs.YtmflheoafeenfaaGreat
open Go.Am
set_option maxRecDepth 4000
set_option maxHeartbeats 8000000
variable {E : Env} {L : Hp}
theorem rtouch_l1 {i2 i3 : Nat} {q p a0 a1 a3 a4 a5 b0 b1 b3 b4 b5 : AVal} {qs ps : List Int} (hq : SlI q qs) (hp : SlI p ps) (hpl : ps.length < 2 ^ 62) (hql : qs.length < 2 ^ 62) :
    ∀ (d k : Nat) (t : Tr AVal), d + k = qs.length → t.get 2 = some (.ptr i2 0) → t.get 3 = some (.ptr i3 0) → t.get 5 = some (aint k) → (∀ j, j < k → qs.getD j 0 ∉ ps) →
    WpO E (.loop c_phasorref18_Touch_l1) t ((i3, [b0, b1, p, b3, b4, b5]) :: (i2, [a0, a1, q, a3, a4, a5]) :: L) (fun ex t' L' => ((ex = .exit 0 ∧ Keep [2, 3] t t' ∧ ∀ j, j < qs.length → qs.getD j 0 ∉ ps) ∨ (ex = .ret ∧ t'.get 4 = some (abool true) ∧ ∃ j, j < qs.length ∧ qs.getD j 0 ∈ ps)) ∧ L' = (i3, [b0, b1, p, b3, b4, b5]) :: (i2, [a0, a1, q, a3, a4, a5]) :: L) := by
  have hq1 := RowA.isOne hq
  have hp1 := RowA.isOne hp
  intro d
  induction d with
  | zero =>
    intro k t hk h2 h3 h5 hno
    refine wo_loop ?_
    repeat (first | intro id | refine goq ?_)
    exact ⟨.inl ⟨rfl, by exact keepq, fun j hj => hno j (by omega)⟩, rfl⟩
  | succ d ih =>
    intro k t hk h2 h3 h5 hno
    refine wo_loop ?_
    repeat (first | intro id | refine goq ?_)
    refine WpO.mono (rtouch_l0 (i := k) hq hp (by omega) hpl hql ps.length 0 _ (by omega) ?_ ?_ ?_ ?_ (fun j hj => by omega)) ?_
    · exact slotq
    · exact slotq
    · exact slotq
    · exact slotq
    · rintro ex t1 L' ⟨⟨rfl, hK, hall⟩ | ⟨rfl, h4, hin⟩, rfl⟩
      · have g2 : t1.get 2 = some (.ptr i2 0) := (hK.ex 2 rfl).trans (by exact slotq)
        have g3 : t1.get 3 = some (.ptr i3 0) := (hK.ex 3 rfl).trans (by exact slotq)
        have g5 : t1.get 5 = some (aint k) := (hK.ex 5 rfl).trans (by exact slotq)
        have hKt : Keep [2, 3] t t1 := Keep.trans (by exact keepq) (hK.less rfl)
        clear hK
        refine blkO.x (blkO.n (seqO.n ?_))
        repeat (first | intro id | refine goq ?_)
        refine WpO.mono (ih (k + 1) _ (by omega) ?_ ?_ ?_ ?_) ?_
        · exact slotq
        · exact slotq
        · exact slotq
        · intro j hj
          by_cases e : j = k
          · subst e
            intro hin
            obtain ⟨m, hm, e2⟩ := List.getElem_of_mem hin
            exact hall m hm (by simp [hm, e2])
          · exact hno j (by omega)
        · rintro ex t' L' ⟨⟨e1, e2, e3⟩ | h, e4⟩
          · exact ⟨.inl ⟨e1, Keep.trans (by exact keepq) e2, e3⟩, e4⟩
          · exact ⟨.inr h, e4⟩
      · exact .r (.r (.r (.r ⟨.inr ⟨rfl, h4, k, by omega, hin⟩, rfl⟩)))
theorem meetB_get {a b : OpD} : meetB a b = true ↔ ∃ j, j < a.qs.length ∧ a.qs.getD j 0 ∈ b.qs := by
  rw [meetB_iff]
  constructor
  · rintro ⟨x, h1, h2⟩
    obtain ⟨j, hj, rfl⟩ := List.getElem_of_mem h1
    exact ⟨j, hj, by simpa [hj] using h2⟩
  · rintro ⟨j, hj, h⟩
    exact ⟨a.qs.getD j 0, by simp [hj], h⟩
theorem rTouch_ok (hF : E.fns = fnsT) (hm : E.mode f_phasorref18_Touch = .iso false) (hmt : E.mode f_phasorref18_takes = .iso false) (hms : E.mode f_phasorref18_sets = .iso false) {q p : AVal} {a b : OpD} {args : List AVal} (hq : SlI q a.qs) (hp : SlI p b.qs) (hql : a.qs.length < 2 ^ 62) (hpl : b.qs.length < 2 ^ 62) (hv : ViewsO L args [opV q a, opV p b]) :
    CallO E f_phasorref18_Touch args L fun r L' => r = abool (touchB a b) ∧ L' = L := by
  refine ab_ex (callO_iso0 (R := fun r => ∃ x, r = abool x ∧ x = touchB a b) hm (fns_of hF n_phasorref18_Touch) hv ?_)
  have hq1 := RowA.isOne hq
  have hp1 := RowA.isOne hp
  have vab : ∀ M, ViewsO M [opV q a, opV p b] [opV q a, opV p b] := fun M => vs_bare (bare_opV hq) (vs_bare (bare_opV hp) vs_nil)
  have vba : ∀ M, ViewsO M [opV p b, opV q a] [opV p b, opV q a] := fun M => vs_bare (bare_opV hp) (vs_bare (bare_opV hq) vs_nil)
  have va : ∀ M, ViewsO M [opV q a] [opV q a] := fun M => vs_bare (bare_opV hq) vs_nil
  have vb : ∀ M, ViewsO M [opV p b] [opV p b] := fun M => vs_bare (bare_opV hp) vs_nil
  have ta := fun M => takes_ok (L := M) hF hmt hq (va M)
  have tb := fun M => takes_ok (L := M) hF hmt hp (vb M)
  have sab := fun M => sets_ok (L := M) hF hms hq hp (vab M)
  have sba := fun M => sets_ok (L := M) hF hms hp hq (vba M)
  unfold opV opCells at ta tb sab sba ⊢
  refine bodyO_of (Nat.le_of_ble_eq_true rfl) ?_; generalize ht : argSlots _ 0 .nil = t; have h0 : t.get 0 = some _ := (by rw [← ht]; rfl); have h1 : t.get 1 = some _ := (by rw [← ht]; rfl); clear ht
  repeat (first | intro id | refine goq ?_)
  rename_i i2
  refine WpO.mono (rtouch_l1 (L := []) hq hp hpl hql a.qs.length 0 _ (by omega) ?_ ?_ ?_ (fun j hj => by omega)) ?_
  · exact slotq
  · exact slotq
  · exact slotq
  · rintro ex t1 L' ⟨⟨rfl, hK, hall⟩ | ⟨rfl, h4, hin⟩, rfl⟩
    · have g2 : t1.get 2 = some (.ptr i2 0) := (hK.ex 2 rfl).trans (by exact slotq)
      have g3 : t1.get 3 = some (.ptr id 0) := (hK.ex 3 rfl).trans (by exact slotq)
      clear hK
      have hm0 : meetB a b = false := by
        cases h : meetB a b with
        | false => rfl
        | true => obtain ⟨j, hj, hin⟩ := meetB_get.1 h; exact (hall j hj hin).elim
      refine blkO.x (seqO.n ?_)
      repeat (first | intro id | refine goq ?_)
      refine gok ?_
      refine (ta _).mono ?_
      rintro v L' ⟨rfl, rfl⟩
      cases e1 : takesB a with
      | false =>
        have e2 : True := trivial
        repeat (first | intro id | refine goq ?_)
        refine gok ?_
        refine (sab _).mono ?_
        rintro v L' ⟨rfl, rfl⟩
        cases e3 : setsB a b with
        | true =>
          repeat (first | intro id | refine goq ?_)
          ((first | apply retO_r | apply retO_n); (focus (exact resq)))
          exact ⟨rfl, true, rfl, by simp [touchB, hm0, e1, e2, e3]⟩
        | false =>
          repeat (first | intro id | refine goq ?_)
          refine gok ?_
          refine (sba _).mono ?_
          rintro v L' ⟨rfl, rfl⟩
          repeat (first | intro id | refine goq ?_)
          ((first | apply retO_r | apply retO_n); (focus (exact resq)))
          exact ⟨rfl, _, rfl, by simp [touchB, hm0, e1, e2, e3]⟩
      | true =>
        repeat (first | intro id | refine goq ?_)
        refine gok ?_
        refine (tb _).mono ?_
        rintro v L' ⟨rfl, rfl⟩
        cases e2 : takesB b with
        | true =>
          repeat (first | intro id | refine goq ?_)
          ((first | apply retO_r | apply retO_n); (focus (exact resq)))
          exact ⟨rfl, true, rfl, by simp [touchB, hm0, e1, e2]⟩
        | false =>
          repeat (first | intro id | refine goq ?_)
          refine gok ?_
          refine (sab _).mono ?_
          rintro v L' ⟨rfl, rfl⟩
          cases e3 : setsB a b with
          | true =>
            repeat (first | intro id | refine goq ?_)
            ((first | apply retO_r | apply retO_n); (focus (exact resq)))
            exact ⟨rfl, true, rfl, by simp [touchB, hm0, e1, e2, e3]⟩
          | false =>
            repeat (first | intro id | refine goq ?_)
            refine gok ?_
            refine (sba _).mono ?_
            rintro v L' ⟨rfl, rfl⟩
            repeat (first | intro id | refine goq ?_)
            ((first | apply retO_r | apply retO_n); (focus (exact resq)))
            exact ⟨rfl, _, rfl, by simp [touchB, hm0, e1, e2, e3]⟩
    · refine .r (.r ?_)
      ((first | apply retO_r | apply retO_n); (focus (exact resq)))
      refine ⟨rfl, true, rfl, ?_⟩
      rw [touchB, meetB_get.2 hin]
      rfl
end Go.Proofs.YtmflheoafeenfaaGreat
