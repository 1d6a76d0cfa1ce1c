/- Parts of the proof, joined by program: RwO1, CiCC, RwR1, RwR2, RwR3, RwP1. -/
import Derived.Test.YtmflheoafeenfaaPa7
set_option linter.unusedSimpArgs false
set_option linter.unusedVariables false
namespace Go.Proofs.Ytmflheoafeenfaa
open Go.Am
set_option maxRecDepth 4000
def takesB (o : OpD) : Bool := decide (o.kind = 2) || decide (o.kind = 3)
def setsB (a b : OpD) : Bool := decide (a.kind = 2) && (decide (0 ≤ b.ifc) && decide (a.bit = b.ifc))
def meetB (a b : OpD) : Bool := a.qs.any fun q => b.qs.contains q
def touchB (a b : OpD) : Bool := meetB a b || ((takesB a && takesB b) || (setsB a b || setsB b a))
theorem meetB_iff {a b : OpD} : meetB a b = true ↔ ∃ q, q ∈ a.qs ∧ q ∈ b.qs := by simp [meetB]
theorem meetB_comm (a b : OpD) : meetB a b = meetB b a := by
  rw [Bool.eq_iff_iff, meetB_iff, meetB_iff]
  exact ⟨fun ⟨q, h1, h2⟩ => ⟨q, h2, h1⟩, fun ⟨q, h1, h2⟩ => ⟨q, h2, h1⟩⟩
theorem touchB_comm (a b : OpD) : touchB a b = touchB b a := by
  unfold touchB
  rw [meetB_comm a b, Bool.and_comm (takesB a), Bool.or_comm (setsB a b)]
theorem touchB_self {a : OpD} (h : 0 < a.qs.length) : touchB a a = true := by
  have : meetB a a = true := by
    rw [meetB_iff]
    match a.qs, h with
    | q :: _, _ => exact ⟨q, by simp, by simp⟩
  simp [touchB, this]
def cmpI (a b : Int) : Int := if a < b then -1 else if b < a then 1 else 0
def orI (x y : Int) : Int := if x = 0 then y else x
def cmpL : List Int → List Int → Int
  | [], [] => 0
  | [], _ :: _ => -1
  | _ :: _, [] => 1
  | a :: asq, b :: bs => orI (cmpI a b) (cmpL asq bs)
def cmpO (a b : OpD) : Int := orI (cmpI a.kind b.kind) (orI (cmpI a.gate b.gate) (orI (cmpL a.qs b.qs) (orI (cmpI a.bit b.bit) (orI (cmpI a.ifc b.ifc) (cmpI a.whn b.whn)))))
theorem cmpI_neg (a b : Int) : cmpI b a = - cmpI a b := by
  unfold cmpI
  split <;> split <;> first | omega | (split <;> omega)
theorem orI_neg (x y : Int) : orI (-x) (-y) = - orI x y := by
  unfold orI
  by_cases h : x = 0
  · rw [if_pos h, if_pos (by omega)]
  · rw [if_neg h, if_neg (by omega)]
theorem cmpL_neg : ∀ asq bs : List Int, cmpL bs asq = - cmpL asq bs
  | [], [] => rfl
  | [], _ :: _ => rfl
  | _ :: _, [] => rfl
  | a :: asq, b :: bs => by simp only [cmpL, cmpI_neg a b, cmpL_neg asq bs, orI_neg]
theorem cmpO_neg (a b : OpD) : cmpO b a = - cmpO a b := by
  simp only [cmpO, cmpI_neg a.kind, cmpI_neg a.gate, cmpL_neg a.qs, cmpI_neg a.bit, cmpI_neg a.ifc, cmpI_neg a.whn, orI_neg]
theorem cmpI_zero {a b : Int} : cmpI a b = 0 ↔ a = b := by
  unfold cmpI
  split
  · omega
  · split <;> omega
theorem orI_zero {x y : Int} : orI x y = 0 ↔ x = 0 ∧ y = 0 := by
  unfold orI
  split
  · simp [*]
  · simp [*]
theorem cmpL_zero : ∀ {asq bs : List Int}, cmpL asq bs = 0 ↔ asq = bs
  | [], [] => by simp [cmpL]
  | [], _ :: _ => by simp [cmpL]
  | _ :: _, [] => by simp [cmpL]
  | a :: asq, b :: bs => by simp only [cmpL, orI_zero, cmpI_zero, cmpL_zero, List.cons.injEq]
theorem cmpO_zero {a b : OpD} : cmpO a b = 0 ↔ a = b := by
  cases a; cases b
  simp only [cmpO, orI_zero, cmpI_zero, cmpL_zero, OpD.mk.injEq]
/-- A comparison step by step: what is less than less is less. -/
def Tri (x y z : Int) : Prop := (x < 0 → y < 0 → z < 0) ∧ (x = 0 → z = y) ∧ (y = 0 → z = x)
theorem tri_cmpI (a b c : Int) : Tri (cmpI a b) (cmpI b c) (cmpI a c) := by
  unfold Tri cmpI
  refine ⟨?_, ?_, ?_⟩ <;> (repeat' split) <;> omega
theorem tri_orI {x y z x' y' z' : Int} (h : Tri x y z) (h' : Tri x' y' z') : Tri (orI x x') (orI y y') (orI z z') := by
  unfold Tri orI at *
  obtain ⟨h1, h2, h3⟩ := h
  obtain ⟨k1, k2, k3⟩ := h'
  refine ⟨?_, ?_, ?_⟩
  · intro a b
    split at a
    · rename_i e
      rw [h2 e]
      split at b
      · rename_i e2
        rw [if_pos e2]
        exact k1 a b
      · rename_i e2
        rw [if_neg e2]
        exact b
    · split at b
      · rename_i e2
        rw [h3 e2]
        rename_i e
        rw [if_neg e]
        exact a
      · have := h1 a b
        rw [if_neg (by omega)]
        exact this
  · intro a
    split at a
    · rename_i e
      rw [h2 e]
      split
      · exact k2 a
      · rfl
    · rename_i e
      exact absurd a e
  · intro a
    split at a
    · rename_i e
      rw [h3 e]
      split
      · exact k3 a
      · rfl
    · rename_i e
      exact absurd a e
theorem tri_cmpL : ∀ asq bs cs : List Int, Tri (cmpL asq bs) (cmpL bs cs) (cmpL asq cs)
  | [], [], [] => by simp [Tri, cmpL]
  | [], [], _ :: _ => by simp [Tri, cmpL]
  | [], _ :: _, [] => by simp [Tri, cmpL]
  | _ :: _, [], [] => by simp [Tri, cmpL]
  | _ :: _, [], _ :: _ => by simp [Tri, cmpL]
  | [], _ :: _, _ :: _ => by
    simp only [cmpL]
    exact ⟨fun _ _ => by omega, fun h => by omega, fun _ => rfl⟩
  | _ :: _, _ :: _, [] => by
    simp only [cmpL]
    exact ⟨fun _ h => by omega, fun _ => rfl, fun h => by omega⟩
  | a :: asq, b :: bs, c :: cs => tri_orI (tri_cmpI a b c) (tri_cmpL asq bs cs)
theorem cmpO_trans {a b c : OpD} (h : cmpO a b < 0) (k : cmpO b c < 0) : cmpO a c < 0 :=
  (tri_orI (tri_cmpI _ _ _) (tri_orI (tri_cmpI _ _ _) (tri_orI (tri_cmpL _ _ _) (tri_orI (tri_cmpI _ _ _) (tri_orI (tri_cmpI _ _ _) (tri_cmpI _ _ _)))))).1 h k
def lessB (a b : OpD) : Bool := decide (cmpO a b < 0)
theorem lessB_iff {a b : OpD} : lessB a b = true ↔ cmpO a b < 0 := by simp [lessB]
theorem lessB_total {a b : OpD} (h1 : lessB a b = false) (h2 : lessB b a = false) : a = b := by
  have e1 : ¬ cmpO a b < 0 := fun h => by rw [lessB_iff.2 h] at h1; cases h1
  have e2 : ¬ cmpO b a < 0 := fun h => by rw [lessB_iff.2 h] at h2; cases h2
  rw [cmpO_neg a b] at e2
  exact cmpO_zero.1 (by omega)
/-- None of those ahead touches it. -/
def freeB (l : List OpD) (j : Nat) : Bool := (l.take j).all fun x => !touchB x (l.getD j default)
def bestTo (l : List OpD) : Nat → Int
  | 0 => -1
  | k + 1 => if freeB l k = true ∧ (bestTo l k < 0 ∨ lessB (l.getD k default) (l.getD (bestTo l k).toNat default) = true) then (k : Int) else bestTo l k
def bestI (l : List OpD) : Nat := (bestTo l l.length).toNat
def ordF : Nat → List OpD → List OpD
  | 0, _ => []
  | n + 1, l => l.getD (bestI l) default :: ordF n (l.eraseIdx (bestI l))
def ordL (l : List OpD) : List OpD := ordF l.length l
/-- What the best of the first k is. -/
structure BestAt (l : List OpD) (k b : Nat) : Prop where
  lt : b < k
  free : freeB l b = true
  least : ∀ j, j < k → freeB l j = true → lessB (l.getD j default) (l.getD b default) = false
theorem bestTo_spec (l : List OpD) : ∀ k, (bestTo l k = -1 ∧ ∀ j, j < k → freeB l j = false) ∨ ∃ b : Nat, bestTo l k = (b : Int) ∧ BestAt l k b
  | 0 => .inl ⟨rfl, fun j hj => by omega⟩
  | k + 1 => by
    have ih := bestTo_spec l k
    simp only [bestTo]
    by_cases hf : freeB l k = true
    · rcases ih with ⟨e, h⟩ | ⟨b, e, hb⟩
      · rw [if_pos ⟨hf, .inl (by omega)⟩]
        refine .inr ⟨k, rfl, by omega, hf, fun j hj hj2 => ?_⟩
        rcases Nat.lt_or_ge j k with h1 | h1
        · rw [h j h1] at hj2; cases hj2
        · have : j = k := by omega
          subst this
          cases h2 : lessB (l.getD j default) (l.getD j default) with
          | false => rfl
          | true =>
            have h3 := lessB_iff.1 h2
            rw [cmpO_zero.2 rfl] at h3
            omega
      · rw [e, Int.toNat_natCast]
        by_cases hl : lessB (l.getD k default) (l.getD b default) = true
        · rw [if_pos ⟨hf, .inr hl⟩]
          refine .inr ⟨k, rfl, by omega, hf, fun j hj hj2 => ?_⟩
          rcases Nat.lt_or_ge j k with h1 | h1
          · have h4 := hb.least j h1 hj2
            cases h2 : lessB (l.getD j default) (l.getD k default) with
            | false => rfl
            | true =>
              rw [lessB_iff.2 (cmpO_trans (lessB_iff.1 h2) (lessB_iff.1 hl))] at h4
              cases h4
          · have : j = k := by omega
            subst this
            cases h2 : lessB (l.getD j default) (l.getD j default) with
            | false => rfl
            | true =>
              have h3 := lessB_iff.1 h2
              rw [cmpO_zero.2 rfl] at h3
              omega
        · rw [if_neg (fun h => by rcases h.2 with h | h; omega; exact hl h)]
          refine .inr ⟨b, rfl, by have := hb.lt; omega, hb.free, fun j hj hj2 => ?_⟩
          rcases Nat.lt_or_ge j k with h1 | h1
          · exact hb.least j h1 hj2
          · have : j = k := by omega
            subst this
            simpa using hl
    · rw [if_neg (fun h => hf h.1)]
      rcases ih with ⟨e, h⟩ | ⟨b, e, hb⟩
      · refine .inl ⟨e, fun j hj => ?_⟩
        rcases Nat.lt_or_ge j k with h1 | h1
        · exact h j h1
        · have : j = k := by omega
          subst this
          simpa using hf
      · refine .inr ⟨b, e, by have := hb.lt; omega, hb.free, fun j hj hj2 => ?_⟩
        rcases Nat.lt_or_ge j k with h1 | h1
        · exact hb.least j h1 hj2
        · have : j = k := by omega
          subst this
          exact absurd hj2 hf
theorem free_zero (l : List OpD) : freeB l 0 = true := by simp [freeB]
theorem bestI_spec {l : List OpD} (h : 0 < l.length) : BestAt l l.length (bestI l) := by
  rcases bestTo_spec l l.length with ⟨-, k⟩ | ⟨b, e, hb⟩
  · have := k 0 h
    rw [free_zero] at this
    cases this
  · unfold bestI
    rw [e, Int.toNat_natCast]
    exact hb
theorem freeB_iff {l : List OpD} {j : Nat} (hj : j < l.length) : freeB l j = true ↔ ∀ i, i < j → touchB (l.getD i default) (l.getD j default) = false := by
  unfold freeB
  rw [List.all_eq_true]
  constructor
  · intro h i hi
    have := h (l.getD i default) (by
      rw [List.mem_take_iff_getElem]
      exact ⟨i, by omega, by simp [show i < l.length by omega]⟩)
    simpa using this
  · intro h x hx
    rw [List.mem_take_iff_getElem] at hx
    obtain ⟨i, hi, rfl⟩ := hx
    have := h i (by omega)
    simp [show i < l.length by omega] at this
    simp [this]
/-- Two that are free are not alike. -/
theorem free_inj {l : List OpD} (hq : ∀ j, j < l.length → 0 < (l.getD j default).qs.length) {i j : Nat} (hi : i < l.length) (hj : j < l.length) (fi : freeB l i = true) (fj : freeB l j = true) (e : l.getD i default = l.getD j default) : i = j := by
  rcases Nat.lt_trichotomy i j with h | h | h
  · have := (freeB_iff hj).1 fj i h
    rw [e, touchB_self (hq j hj)] at this
    cases this
  · exact h
  · have := (freeB_iff hi).1 fi j h
    rw [e, touchB_self (hq j hj)] at this
    cases this
/-- The best is the only one. -/
theorem best_only {l : List OpD} (hq : ∀ j, j < l.length → 0 < (l.getD j default).qs.length) {b : Nat} (hb : BestAt l l.length b) : bestI l = b := by
  have h0 := bestI_spec (l := l) (by have := hb.lt; omega)
  exact free_inj hq h0.lt hb.lt h0.free hb.free (lessB_total (hb.least _ h0.lt h0.free) (h0.least _ hb.lt hb.free))
end Go.Proofs.Ytmflheoafeenfaa
namespace Go.Proofs.Ytmflheoafeenfaa
open Go.Am
set_option maxRecDepth 4000
set_option maxHeartbeats 8000000
variable {E : Env} {L : Hp}
/-- A slice of numbers in a box of its own, or nil. -/
def OwnI (u : AVal) (l : List Int) (B : Hp) : Prop := (u = anil ∧ l = [] ∧ B = []) ∨ ∃ id cap, u = .sl id 0 l.length 1 cap ∧ B = [(id, l.map aint)]
theorem OwnI.isOne {u : AVal} {l : List Int} {B : Hp} (h : OwnI u l B) : u.one = true := by
  rcases h with ⟨rfl, -, -⟩ | ⟨id, cap, rfl, -⟩ <;> rfl
theorem OwnI.view {u : AVal} {l : List Int} {B M : Hp} (h : OwnI u l B) (k : Nat) (hM : ∀ id c, In id c B → In id c M) : ∃ q, ViewO M (k + 2) u q ∧ SlI q l := by
  rcases h with ⟨rfl, rfl, rfl⟩ | ⟨id, cap, rfl, rfl⟩
  · exact ⟨anil, vo_sc, .inl ⟨rfl, rfl, rfl⟩⟩
  · exact ⟨.rs (l.map aint) l.length cap, vo_sl (hM _ _ .here) (by rw [Nat.mul_one]; exact seg_full (by simp)) (vl_sc (sc_ints l)), .inr ⟨cap, rfl⟩⟩
inductive OpsB : List AVal → List OpD → Hp → Prop where
  | nil : OpsB [] [] []
  | snoc {cs : List AVal} {os : List OpD} {H B : Hp} {u : AVal} {o : OpD} (h : OpsB cs os H) (hq : OwnI u o.qs B) (hb : o.qs.length < 2 ^ 62) : OpsB (cs ++ opCells u o) (os ++ [o]) (H ++ B)
def CircO (v : AVal) (c : CircD) (B : Hp) : Prop := ∃ s cs Bs H, v = .agg [aint c.qubits, aint c.bits, s] ∧ BufO 6 s cs c.ops.length Bs ∧ OpsB cs c.ops H ∧ c.ops.length < 2 ^ 62 ∧ B = Bs ++ H
theorem OpsC.snoc {cs : List AVal} {os : List OpD} {q : AVal} {o : OpD} (h : OpsC cs os) (hq : SlI q o.qs) (hb : o.qs.length < 2 ^ 62) : OpsC (cs ++ opCells q o) (os ++ [o]) := by
  induction h with
  | nil => have := OpsC.cons hq hb .nil; simpa using this
  | cons hq' hb' h ih => rw [List.append_assoc]; exact .cons hq' hb' ih
theorem OpsB.view {cs : List AVal} {os : List OpD} {H M : Hp} (h : OpsB cs os H) (k : Nat) (hM : ∀ id c, In id c H → In id c M) : ∃ us, ViewL M (k + 2) cs us ∧ OpsC us os := by
  induction h with
  | nil => exact ⟨[], vl_nil, .nil⟩
  | @snoc cs os H B u o h hq hb ih =>
    obtain ⟨us, h1, h2⟩ := ih fun id c hi => hM id c hi.appl
    obtain ⟨q, h3, h4⟩ := hq.view k fun id c hi => hM id c hi.app
    refine ⟨us ++ opCells q o, vl_app h1 ?_, h2.snoc h4 hb⟩
    exact vl_cons vo_sc (vl_cons vo_sc (vl_cons h3 (vl_cons vo_sc (vl_cons vo_sc (vl_cons vo_sc vl_nil)))))
theorem bufInv {esz n : Nat} {v : AVal} {cs : List AVal} {B : Hp} (h : BufO esz v cs n B) : (v = anil ∧ cs = [] ∧ n = 0 ∧ B = []) ∨ ∃ id, v = .sl id 0 n esz none ∧ B = [(id, cs)] := by
  cases h with
  | nil => exact .inl ⟨rfl, rfl, rfl, rfl⟩
  | box _ _ => exact .inr ⟨_, rfl, rfl⟩
theorem CircO.view {v : AVal} {c : CircD} {B M : Hp} (h : CircO v c B) (k : Nat) (hM : ∀ id c, In id c B → In id c M) : ∃ u, ViewO M (k + 4) v u ∧ CircA u c := by
  obtain ⟨s, cs, Bs, H, rfl, hb, ho, hlt, rfl⟩ := h
  obtain ⟨us, h1, h2⟩ := ho.view k fun id c hi => hM id c hi.app
  have hlen := hb.length
  rcases bufInv hb with ⟨rfl, rfl, e, rfl⟩ | ⟨id, rfl, rfl⟩
  · have h3 := h2.length
    rw [e] at h3
    have h4 : us = [] := List.eq_nil_of_length_eq_zero (by simpa using h3)
    exact ⟨.agg [aint c.qubits, aint c.bits, anil], vo_agg (vl_cons vo_sc (vl_cons vo_sc (vl_cons vo_sc vl_nil))), anil, rfl, us, .inl ⟨rfl, e, h4⟩, h2, hlt⟩
  · exact ⟨_, vo_agg (vl_cons vo_sc (vl_cons vo_sc (vl_cons (vo_sl (hM _ _ (In.appl .here)) (seg_full hlen) h1) vl_nil))), _, rfl, us, .inr ⟨none, rfl⟩, h2, hlt⟩
/-- Of a size that can be. -/
structure Small (c : CircD) : Prop where
  ops : c.ops.length ≤ 1000000
  qs : ∀ k, k < c.ops.length → (c.ops.getD k default).qs.length ≤ 2000000
theorem Clone_open (hF : E.fns = fnsT) (hm : E.mode f_slices_Clone_int_int = .open_) {v : AVal} {l : List Int} (hv : SlI v l) (hl : l.length ≤ 2000000) : CallO E f_slices_Clone_int_int [v] L fun r L' => ∃ B, OwnI r l B ∧ L' = B ++ L := by
  refine CallO.to (callO_open hm (fns_of hF n_slices_Clone_int_int) ?_)
  have hv1 := RowA.isOne hv
  rcases hv with ⟨rfl, h0, h1⟩ | ⟨cap, rfl⟩
  · have : l = [] := List.eq_nil_of_length_eq_zero h0
    subst this
    refine bodyO_of (Nat.le_of_ble_eq_true rfl) ?_; generalize ht : argSlots _ 0 .nil = t; have h0 : t.get 0 = some _ := (by rw [← ht]; rfl); clear ht
    repeat (first | intro id | refine goq ?_)
    ((first | apply retO_r | apply retO_n); (focus (exact resq)))
    exact ⟨_, by exact subq, [], .inl ⟨rfl, rfl, rfl⟩, rfl⟩
  · have hrow : RowA (.rs (l.map aint) l.length cap) (l.map aint) l.length := .inr ⟨cap, rfl⟩
    refine bodyO_of (Nat.le_of_ble_eq_true rfl) ?_; generalize ht : argSlots _ 0 .nil = t; have h0 : t.get 0 = some _ := (by rw [← ht]; rfl); clear ht
    repeat (first | intro id | refine goq ?_)
    by_cases hl0 : l.length = 0
    · have : l = [] := List.eq_nil_of_length_eq_zero hl0
      subst this
      refine oo_append0 wanted_none (by exact slotq) rfl (by exact slotq) rfl ?_
      repeat (first | intro id | refine goq ?_)
      ((first | apply retO_r | apply retO_n); (focus (exact resq)))
      exact ⟨_, by exact subq, [(id, [])], .inr ⟨id, some 0, rfl, rfl⟩, rfl⟩
    · refine oo_appendF wanted_none (by exact slotq) .here (old := []) rfl rfl (by exact slotq) hrow (by omega) (by simp) (all_one_ints _) (by omega) (by omega) ?_
      intro id2
      repeat (first | intro id | refine goq ?_)
      ((first | apply retO_r | apply retO_n); (focus (exact resq)))
      exact ⟨_, by exact subq, [(id2, l.map aint)], .inr ⟨id2, none, by simp [resultV], rfl⟩, rfl⟩
theorem OpsB.one {cs : List AVal} {os : List OpD} {H : Hp} (h : OpsB cs os H) : cs.length = os.length * 6 := by
  induction h with
  | nil => rfl
  | snoc h hq hb ih => simp only [List.length_append, ih, opCells, List.length_cons, List.length_nil]; omega
theorem takeO_snoc {os : List OpD} {k : Nat} (hk : k < os.length) : os.take (k + 1) = os.take k ++ [os.getD k default] := by
  rw [List.take_succ_eq_append_getElem hk]
  simp [hk]
/-- The program's copy, round by round. -/
theorem ccopy_l0 (hF : E.fns = fnsT) (hmc : E.mode f_slices_Clone_int_int = .open_) {c : CircD} {s : AVal} {cs0 : List AVal} {i3 : Nat} (hr : RowA s cs0 c.ops.length) (hcs : OpsC cs0 c.ops) (hsm : Small c) :
    ∀ (d k : Nat) (t : Tr AVal) (a : AVal) (cs : List AVal) (B H : Hp), d + k = c.ops.length → t.get 3 = some (.ptr i3 0) → t.get 12 = some s → t.get 13 = some (aint c.ops.length) → t.get 14 = some (aint k) → BufO 6 a cs k B → OpsB cs (c.ops.take k) H →
    WpO E (.loop c_circuit_Copy_l0) t ((i3, [aint c.qubits, aint c.bits, a]) :: (B ++ (H ++ L))) (fun ex t' L' => ex = .exit 0 ∧ Keep [1, 2, 3] t t' ∧ ∃ a' cs' B' H', BufO 6 a' cs' c.ops.length B' ∧ OpsB cs' c.ops H' ∧ L' = (i3, [aint c.qubits, aint c.bits, a']) :: (B' ++ (H' ++ L))) := by
  have hs1 := RowA.isOne hr
  have hsm1 := hsm.ops
  intro d
  induction d with
  | zero =>
    intro k t a cs B H hk h3 h12 h13 h14 hb ho
    obtain rfl : k = c.ops.length := by omega
    refine wo_loop ?_
    repeat (first | intro id | refine goq ?_)
    rw [List.take_length] at ho
    exact ⟨rfl, by exact keepq, a, cs, B, H, hb, ho, rfl⟩
  | succ d ih =>
    intro k t a cs B H hk h3 h12 h13 h14 hb ho
    have hkl : k < c.ops.length := by omega
    obtain ⟨q, hq, hqb, hlt6, hseg⟩ := hcs.getE hkl
    have hql := hsm.qs k hkl
    have htk := takeO_snoc hkl
    generalize c.ops.getD k default = o at *
    have hq1 := RowA.isOne hq
    have ha1 := hb.isOne
    unfold opCells at hseg
    refine wo_loop ?_
    repeat (first | intro id | refine goq ?_)
    refine gok ?_
    refine (Clone_open hF hmc hq hql).mono ?_
    rintro u L' ⟨C, hu, rfl⟩
    have hu1 := hu.isOne
    repeat (first | intro id | refine goq ?_)
    have hb2 := hb.pushed (id := id) (nw := opCells u o) rfl (by simp only [opCells, List.all_cons, List.all_nil, hu1, Bool.and_true]; rfl)
    have ho2 := ho.snoc hu hqb
    rw [← htk] at ho2
    refine WpO.weak (WpO.mono (ih (k + 1) _ _ _ _ _ (by omega) ?_ ?_ ?_ ?_ hb2 ho2) ?_) ?_
    · exact slotq
    · exact slotq
    · exact slotq
    · exact slotq
    · rintro ex t' L' ⟨e1, e2, e3⟩
      exact ⟨e1, Keep.trans (by exact keepq) e2, e3⟩
    · rw [List.append_assoc]
      exact subq
/-- The program's copy: in boxes of its own. -/
theorem CCopy_open (hF : E.fns = fnsT) (hm : E.mode f_circuit_Copy = .open_) (hmc : E.mode f_slices_Clone_int_int = .open_) {c : CircD} {v : AVal} (hv : CircA v c) (hsm : Small c) : CallO E f_circuit_Copy [v] L fun r L' => ∃ B, CircO r c B ∧ L' = B ++ L := by
  refine CallO.to (callO_open hm (fns_of hF n_circuit_Copy) ?_)
  obtain ⟨s, rfl, cs, hr, hcs, hlt⟩ := hv
  have hs1 := RowA.isOne hr
  refine bodyO_of (Nat.le_of_ble_eq_true rfl) ?_; generalize ht : argSlots _ 0 .nil = t; have h0 : t.get 0 = some _ := (by rw [← ht]; rfl); clear ht
  repeat (first | intro id | refine goq ?_)
  rename_i i2
  refine WpO.mono (ccopy_l0 hF hmc hr hcs hsm c.ops.length 0 _ anil [] [] [] (by omega) ?_ ?_ ?_ ?_ .nil .nil) ?_
  · exact slotq
  · exact slotq
  · exact slotq
  · exact slotq
  rintro ex t' L' ⟨rfl, hK, a', cs', B', H', hb, ho, rfl⟩
  have g2 : t'.get 2 = some (.ptr i2 0) := (hK.ex 2 rfl).trans (by exact slotq)
  have g3 : t'.get 3 = some (.ptr id 0) := (hK.ex 3 rfl).trans (by exact slotq)
  have ha1 := hb.isOne
  repeat (first | intro id | refine goq ?_)
  ((first | apply retO_r | apply retO_n); (focus (exact resq)))
  exact ⟨B' ++ (H' ++ L), by exact subq, B' ++ H', ⟨a', cs', B', H', rfl, hb, ho, hlt, rfl⟩, (List.append_assoc _ _ _).symm⟩
/-- The document's copy, round by round. -/
theorem rcopy_l0 {c : CircD} {s : AVal} {cs0 : List AVal} {i1 i3 : Nat} (hr : RowA s cs0 c.ops.length) (hcs : OpsC cs0 c.ops) (hsm : Small c) :
    ∀ (d k : Nat) (t : Tr AVal) (a : AVal) (cs : List AVal) (B H : Hp), d + k = c.ops.length → t.get 1 = some (.ptr i1 0) → t.get 3 = some (.ptr i3 0) → t.get 4 = some (aint k) → BufO 6 a cs k B → OpsB cs (c.ops.take k) H →
    WpO E (.loop c_phasorref08_Copy_l0) t ((i3, [aint c.qubits, aint c.bits, a]) :: (i1, [aint c.qubits, aint c.bits, s]) :: (B ++ (H ++ L))) (fun ex t' L' => ex = .exit 0 ∧ Keep [1, 2, 3] t t' ∧ ∃ a' cs' B' H', BufO 6 a' cs' c.ops.length B' ∧ OpsB cs' c.ops H' ∧ L' = (i3, [aint c.qubits, aint c.bits, a']) :: (i1, [aint c.qubits, aint c.bits, s]) :: (B' ++ (H' ++ L))) := by
  have hs1 := RowA.isOne hr
  have hsm1 := hsm.ops
  intro d
  induction d with
  | zero =>
    intro k t a cs B H hk h1 h3 h4 hb ho
    obtain rfl : k = c.ops.length := by omega
    refine wo_loop ?_
    repeat (first | intro id | refine goq ?_)
    rw [List.take_length] at ho
    exact ⟨rfl, by exact keepq, a, cs, B, H, hb, ho, rfl⟩
  | succ d ih =>
    intro k t a cs B H hk h1 h3 h4 hb ho
    have hkl : k < c.ops.length := by omega
    obtain ⟨q, hq, hqb, hlt6, hseg⟩ := hcs.getE hkl
    have hql := hsm.qs k hkl
    have htk := takeO_snoc hkl
    generalize c.ops.getD k default = o at *
    have hq1 := RowA.isOne hq
    have ha1 := hb.isOne
    unfold opCells at hseg
    refine wo_loop ?_
    repeat (first | intro id | refine goq ?_)
    refine oo_appendR wanted_none (by exact slotq) .nil (by exact slotq) hq .nil (by simp) (all_one_ints _) (by omega) (by omega) ?_
    intro u C hu
    have hu1 := hu.isOne
    have hown : OwnI u o.qs C := by
      rcases bufInv hu with ⟨rfl, e1, e2, rfl⟩ | ⟨id, rfl, rfl⟩
      · have : o.qs = [] := List.eq_nil_of_length_eq_zero (by omega)
        exact .inl ⟨rfl, this, rfl⟩
      · exact .inr ⟨id, none, by simp, by simp⟩
    repeat (first | intro id | refine goq ?_)
    have hb2 := hb.pushed (id := id) (nw := opCells u o) rfl (by simp only [opCells, List.all_cons, List.all_nil, hu1, Bool.and_true]; rfl)
    have ho2 := ho.snoc hown hqb
    rw [← htk] at ho2
    refine WpO.weak (WpO.mono (ih (k + 1) _ _ _ _ _ (by omega) ?_ ?_ ?_ hb2 ho2) ?_) ?_
    · exact slotq
    · exact slotq
    · exact slotq
    · rintro ex t' L' ⟨e1, e2, e3⟩
      exact ⟨e1, Keep.trans (by exact keepq) e2, e3⟩
    · rw [List.append_assoc]
      exact subq
end Go.Proofs.Ytmflheoafeenfaa
namespace Go.Proofs.Ytmflheoafeenfaa
open Go.Am
set_option maxRecDepth 4000
set_option maxHeartbeats 8000000
variable {E : Env} {L : Hp}
theorem vo_bareI {k : Nat} {q : AVal} {l : List Int} (hq : SlI q l) : ViewO L (k + 1) q q := by
  have hb := bare_SlI hq
  rcases hq with ⟨rfl, -, -⟩ | ⟨cap, rfl⟩
  · exact vo_sc
  · exact ⟨fun m hm => by simp only [view, hb, if_true]⟩
def opV (q : AVal) (o : OpD) : AVal := .agg (opCells q o)
theorem bare_opV {q : AVal} {o : OpD} (hq : SlI q o.qs) : (opV q o).bare = true := by simp [opV, opCells, AVal.bare, bareAll, aint, bare_SlI hq]
theorem ab_ex {f : FuncId} {args : List AVal} {b : Bool} (h : CallO E f args L fun r L' => (∃ x, r = abool x ∧ x = b) ∧ L' = L) : CallO E f args L fun r L' => r = abool b ∧ L' = L :=
  h.mono (by rintro v L' ⟨⟨x, rfl, rfl⟩, rfl⟩; exact ⟨rfl, rfl⟩)
theorem ai_ex {f : FuncId} {args : List AVal} {b : Int} (h : CallO E f args L fun r L' => (∃ x, r = aint x ∧ x = b) ∧ L' = L) : CallO E f args L fun r L' => r = aint b ∧ L' = L :=
  h.mono (by rintro v L' ⟨⟨x, rfl, rfl⟩, rfl⟩; exact ⟨rfl, rfl⟩)
theorem asks_ok (hF : E.fns = fnsT) (hm : E.mode f_rewrite_asks = .iso false) {q : AVal} {o : OpD} {args : List AVal} (hq : SlI q o.qs) (hv : ViewsO L args [opV q o]) : CallO E f_rewrite_asks args L fun r L' => r = abool (takesB o) ∧ L' = L := by
  refine ab_ex (callO_iso0 (R := fun r => ∃ x, r = abool x ∧ x = takesB o) hm (fns_of hF n_rewrite_asks) hv ?_)
  have hq1 := RowA.isOne hq
  unfold opV opCells
  refine bodyO_of (Nat.le_of_ble_eq_true rfl) ?_; generalize ht : argSlots _ 0 .nil = t; have h0 : t.get 0 = some _ := (by rw [← ht]; rfl); clear ht
  repeat' (first | intro id | refine goq ?_ | (refine oo_guard (by exact slotq) (fun hc => ?_) (fun hc => ?_) <;> (fail_if_success (exact absurd hc (by decide))) <;> rw [hc] <;> (try simp only [decide_eq_true_eq, decide_eq_false_iff_not, ne_eq, Decidable.not_not] at hc)) | (refine wo_cond_if (by exact slotq) (fun hc => ?_) (fun hc => ?_) <;> (try simp only [decide_eq_true_eq, decide_eq_false_iff_not, ne_eq, Decidable.not_not] at hc)) | ((first | apply retO_r | apply retO_n); (focus (exact resq))))
  all_goals (refine ⟨rfl, _, rfl, ?_⟩; unfold takesB; grind)
theorem sets2_ok (hF : E.fns = fnsT) (hm : E.mode f_rewrite_Touch_2 = .iso false) {q p : AVal} {a b : OpD} {args : List AVal} (hq : SlI q a.qs) (hp : SlI p b.qs) (hv : ViewsO L args [opV q a, opV p b]) : CallO E f_rewrite_Touch_2 args L fun r L' => r = abool (setsB a b) ∧ L' = L := by
  refine ab_ex (callO_iso0 (R := fun r => ∃ x, r = abool x ∧ x = setsB a b) hm (fns_of hF n_rewrite_Touch_2) hv ?_)
  have hq1 := RowA.isOne hq
  have hp1 := RowA.isOne hp
  unfold opV opCells
  refine bodyO_of (Nat.le_of_ble_eq_true rfl) ?_; generalize ht : argSlots _ 0 .nil = t; have h0 : t.get 0 = some _ := (by rw [← ht]; rfl); have h1 : t.get 1 = some _ := (by rw [← ht]; rfl); clear ht
  repeat' (first | intro id | refine goq ?_ | (refine oo_guard (by exact slotq) (fun hc => ?_) (fun hc => ?_) <;> (fail_if_success (exact absurd hc (by decide))) <;> rw [hc] <;> (try simp only [decide_eq_true_eq, decide_eq_false_iff_not, ne_eq, Decidable.not_not] at hc)) | (refine wo_cond_if (by exact slotq) (fun hc => ?_) (fun hc => ?_) <;> (try simp only [decide_eq_true_eq, decide_eq_false_iff_not, ne_eq, Decidable.not_not] at hc)) | ((first | apply retO_r | apply retO_n); (focus (exact resq))))
  all_goals (refine ⟨rfl, _, rfl, ?_⟩; unfold setsB; grind)
end Go.Proofs.Ytmflheoafeenfaa
namespace Go.Proofs.Ytmflheoafeenfaa
open Go.Am
set_option maxRecDepth 4000
set_option maxHeartbeats 8000000
variable {E : Env} {L : Hp}
end Go.Proofs.Ytmflheoafeenfaa
namespace Go.Proofs.Ytmflheoafeenfaa
open Go.Am
set_option maxRecDepth 4000
set_option maxHeartbeats 8000000
variable {E : Env} {L : Hp}
end Go.Proofs.Ytmflheoafeenfaa
namespace Go.Proofs.Ytmflheoafeenfaa
open Go.Am
set_option maxRecDepth 4000
set_option maxHeartbeats 8000000
variable {E : Env} {L : Hp}
theorem Touch1_ok (hF : E.fns = fnsT) (hm : E.mode f_rewrite_Touch_1 = .iso false) (hmc : E.mode f_slices_Contains_int_int = .iso false) (hmi : E.mode f_slices_Index_int_int = .iso false) {p : AVal} {b : OpD} {x : Int} (hp : SlI p b.qs) (hpl : b.qs.length < 2 ^ 62) :
    CallO E f_rewrite_Touch_1 ([aint x] ++ [.ro (opCells p b)]) L fun r L' => r = abool (b.qs.contains x) ∧ L' = L := by
  have hp1 := RowA.isOne hp
  refine callO_iso0 (R := fun r => r = abool (b.qs.contains x)) hm (fns_of hF n_rewrite_Touch_1) (vs_bare rfl (vs_bare (by simp [opCells, AVal.bare, bareAll, aint, bare_SlI hp]) vs_nil)) ?_
  unfold opCells
  refine bodyO_of (Nat.le_of_ble_eq_true rfl) ?_; generalize ht : argSlots _ 0 .nil = t; have h0 : t.get 0 = some _ := (by rw [← ht]; rfl); have h1 : t.get 1 = some _ := (by rw [← ht]; rfl); clear ht
  repeat (first | intro id | refine goq ?_)
  refine gok ?_
  refine (contains_ok hF hmc hmi (vs_bare (bare_SlI hp) (vs_bare rfl vs_nil)) hp hpl).mono ?_
  rintro r L' ⟨rfl, rfl⟩
  repeat (first | intro id | refine goq ?_)
  ((first | apply retO_r | apply retO_n); (focus (exact resq)))
  refine ⟨rfl, ?_⟩
  have : decide (x ∈ b.qs) = b.qs.contains x := by rw [Bool.eq_iff_iff]; simp
  rw [← this]
  rfl
theorem Touch_ok (hF : E.fns = fnsT) (hm : E.mode f_rewrite_Touch = .iso false) (hma : E.mode f_rewrite_asks = .iso false) (hm1 : E.mode f_rewrite_Touch_1 = .iso false) (hm2 : E.mode f_rewrite_Touch_2 = .iso false) (hmc : E.mode f_slices_Contains_int_int = .iso false) (hmi : E.mode f_slices_Index_int_int = .iso false) (hmcf : E.mode f_slices_ContainsFunc_int_int = .iso false) (hmif : E.mode f_slices_IndexFunc_int_int = .iso false)
    {q p : AVal} {a b : OpD} {args : List AVal} (hq : SlI q a.qs) (hp : SlI p b.qs) (hql : a.qs.length < 2 ^ 62) (hpl : b.qs.length < 2 ^ 62) (hv : ViewsO L args [opV q a, opV p b]) :
    CallO E f_rewrite_Touch args L fun r L' => r = abool (touchB a b) ∧ L' = L := by
  refine ab_ex (callO_iso0 (R := fun r => ∃ x, r = abool x ∧ x = touchB a b) hm (fns_of hF n_rewrite_Touch) hv ?_)
  have hq1 := RowA.isOne hq
  have hp1 := RowA.isOne hp
  have vab : ∀ M, ViewsO M [opV q a, opV p b] [opV q a, opV p b] := fun M => vs_bare (bare_opV hq) (vs_bare (bare_opV hp) vs_nil)
  have vba : ∀ M, ViewsO M [opV p b, opV q a] [opV p b, opV q a] := fun M => vs_bare (bare_opV hp) (vs_bare (bare_opV hq) vs_nil)
  have ta := fun M => asks_ok (L := M) hF hma hq (vs_bare (bare_opV hq) vs_nil)
  have tb := fun M => asks_ok (L := M) hF hma hp (vs_bare (bare_opV hp) vs_nil)
  have sab := fun M => sets2_ok (L := M) hF hm2 hq hp (vab M)
  have sba := fun M => sets2_ok (L := M) hF hm2 hp hq (vba M)
  have cf : ∀ (M : Hp) (i : Nat), In i (opCells p b) M → CallO E f_slices_ContainsFunc_int_int [q, .fn (.func f_rewrite_Touch_1) [] [.ptr i 0]] M fun r L' => r = abool (meetB a b) ∧ L' = M := fun M i hi =>
    containsP_ok (p := fun x => b.qs.contains x) hF hmcf hmif (vs_bare (bare_SlI hq) (vs_view rfl (vo_fn vl_nil (vl_cons (vo_ptr hi (by simp) (vl_cons vo_sc (vl_cons vo_sc (vl_cons (vo_bareI hp) (vl_cons vo_sc (vl_cons vo_sc (vl_cons vo_sc vl_nil))))))) vl_nil)) vs_nil)) (by simp [opCells, AVal.bare, bareAll, aint, bare_SlI hp]) hq hql (fun j hj => Touch1_ok hF hm1 hmc hmi hp hpl)
  unfold opV at ta tb sab sba ⊢
  unfold opCells at ta tb sab sba cf ⊢
  refine bodyO_of (Nat.le_of_ble_eq_true rfl) ?_; generalize ht : argSlots _ 0 .nil = t; have h0 : t.get 0 = some _ := (by rw [← ht]; rfl); have h1 : t.get 1 = some _ := (by rw [← ht]; rfl); clear ht
  repeat (first | intro id | refine goq ?_)
  refine gok ?_
  refine (ta _).mono ?_
  rintro v L' ⟨rfl, rfl⟩
  cases e1 : takesB a with
  | false =>
    have e2 : True := trivial
    repeat (first | intro id | refine goq ?_)
    refine gok ?_
    refine (cf _ _ (by exact inq)).mono ?_
    rintro v L' ⟨rfl, rfl⟩
    cases e3 : meetB a b with
    | true =>
      repeat (first | intro id | refine goq ?_)
      ((first | apply retO_r | apply retO_n); (focus (exact resq)))
      exact ⟨rfl, true, rfl, by simp [touchB, e3]⟩
    | false =>
      repeat (first | intro id | refine goq ?_)
      refine gok ?_
      refine (sab _).mono ?_
      rintro v L' ⟨rfl, rfl⟩
      cases e4 : setsB a b with
      | true =>
        repeat (first | intro id | refine goq ?_)
        ((first | apply retO_r | apply retO_n); (focus (exact resq)))
        exact ⟨rfl, true, rfl, by simp [touchB, e4]⟩
      | false =>
        repeat (first | intro id | refine goq ?_)
        refine gok ?_
        refine (sba _).mono ?_
        rintro v L' ⟨rfl, rfl⟩
        repeat (first | intro id | refine goq ?_)
        ((first | apply retO_r | apply retO_n); (focus (exact resq)))
        exact ⟨rfl, _, rfl, by simp [touchB, e1, e2, e3, e4]⟩
  | true =>
    repeat (first | intro id | refine goq ?_)
    refine gok ?_
    refine (tb _).mono ?_
    rintro v L' ⟨rfl, rfl⟩
    cases e2 : takesB b with
    | true =>
      repeat (first | intro id | refine goq ?_)
      ((first | apply retO_r | apply retO_n); (focus (exact resq)))
      exact ⟨rfl, true, rfl, by simp [touchB, e1, e2]⟩
    | false =>
      repeat (first | intro id | refine goq ?_)
      refine gok ?_
      refine (cf _ _ (by exact inq)).mono ?_
      rintro v L' ⟨rfl, rfl⟩
      cases e3 : meetB a b with
      | true =>
        repeat (first | intro id | refine goq ?_)
        ((first | apply retO_r | apply retO_n); (focus (exact resq)))
        exact ⟨rfl, true, rfl, by simp [touchB, e3]⟩
      | false =>
        repeat (first | intro id | refine goq ?_)
        refine gok ?_
        refine (sab _).mono ?_
        rintro v L' ⟨rfl, rfl⟩
        cases e4 : setsB a b with
        | true =>
          repeat (first | intro id | refine goq ?_)
          ((first | apply retO_r | apply retO_n); (focus (exact resq)))
          exact ⟨rfl, true, rfl, by simp [touchB, e4]⟩
        | false =>
          repeat (first | intro id | refine goq ?_)
          refine gok ?_
          refine (sba _).mono ?_
          rintro v L' ⟨rfl, rfl⟩
          repeat (first | intro id | refine goq ?_)
          ((first | apply retO_r | apply retO_n); (focus (exact resq)))
          exact ⟨rfl, _, rfl, by simp [touchB, e1, e2, e3, e4]⟩
end Go.Proofs.Ytmflheoafeenfaa
