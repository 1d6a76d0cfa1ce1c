/- Parts of the proof, joined by program: RtC10, RtC12, AmRep, AmComp. -/
import Derived.Test.YtfaphhcloanhnaaPa9
import Derived.Test.YtfaphhcloanhnaaPa11
import Derived.Test.YtfaphhcloanhnaaPa8
import Derived.Test.YtfaphhcloanhnaaPa10
import Derived.Test.YtfaphhcloanhnaaPa1
import Derived.Calls
set_option linter.unusedSimpArgs false
set_option linter.unusedVariables false
namespace Go.Proofs.Ytfaphhcloanhnaa
open Go.Am Go.Ded
set_option maxRecDepth 4000
set_option maxHeartbeats 4000000
variable {E : Env} {L : Hp}
theorem take_snoc {l : List Int} {k : Nat} (h : k < l.length) : l.take (k + 1) = l.take k ++ [l.getD k 0] := by
  rw [List.take_succ_eq_append_getElem h]
  simp [h]
theorem last_take {l : List Int} {k : Nat} (h : k < l.length) : (l.take (k + 1)).getLast? = some (l.getD k 0) := by
  rw [take_snoc h]
  simp
theorem dd_step {l : List Int} {k : Nat} (h0 : 0 < k) (h : k < l.length) : dd (l.take (k + 1)) = if l.getD k 0 = l.getD (k - 1) 0 then dd (l.take k) else dd (l.take k) ++ [l.getD k 0] := by
  rw [take_snoc h, dd_snoc]
  obtain ⟨j, rfl⟩ : ∃ j, k = j + 1 := ⟨k - 1, by omega⟩
  rw [last_take (by omega)]
  simp only [Option.some.injEq, Nat.add_sub_cancel]
  by_cases e : l.getD j 0 = l.getD (j + 1) 0
  · rw [if_pos e, if_pos e.symm]
  · rw [if_neg e, if_neg fun h => e h.symm]

theorem compact_l0 {id n k0 : Nat} {l : List Int} {cap cap2 : Option Nat} (hn : l.length = n) (hn2 : n < 2 ^ 62) (hst : still E c_slices_Compact_int_int_r9 = true) : ∀ (d k2 : Nat) (t : Tr AVal) (c : List Int) (k : Nat), d + k2 + k0 = n → 0 < k2 → t.get 0 = some (.sl id 0 n 1 cap) → t.get 4 = some (.sl id k0 (n - k0) 1 cap2) → t.get 3 = some (aint k) → t.get 5 = some (aint k2) →
    c.length = n → k < k0 + k2 → (∀ j, k0 + k2 ≤ j + 1 → j < n → c.getD j 0 = l.getD j 0) → c.take k = dd (l.take (k0 + k2)) →
    WpO E (.loop c_slices_Compact_int_int_l0) t ((id, c.map aint) :: L) (fun ex t' L' => ex = .exit 2 ∧ Keep [0] t t' ∧ ∃ (c' : List Int) (k' : Nat), t'.get 3 = some (aint ((k' : Nat) : Int)) ∧ c'.length = n ∧ k' < n ∧ c'.take k' = dd l ∧ L' = (id, c'.map aint) :: L) := by
  intro d
  induction d with
  | zero =>
    intro k2 t c k hk hk2 h0 h4 h3 h5 hcl hkl hsame hd
    refine wo_loop ?_
    repeat (first | intro id | refine goq ?_)
    refine ⟨rfl, by exact keepq, c, k, by exact slotq, hcl, by omega, ?_, rfl⟩
    rw [hd, List.take_of_length_le (by omega)]
  | succ d ih =>
    intro k2 t0 c k hk hk2 h0 h4 h3 h5 hcl hkl hsame hd
    have e1 := hsame (k0 + k2) (by omega) (by omega)
    have e2 := hsame (k0 + (k2 - 1)) (by omega) (by omega)
    have e3 := dd_step (l := l) (k := k0 + k2) (by omega) (by omega)
    rw [show k0 + k2 - 1 = k0 + (k2 - 1) by omega] at e3
    have hkl2 : k ≤ c.length := by omega
    refine wo_loop ?_
    repeat (first | intro id | refine goq ?_)
    refine wo_cond_if (by exact slotq) (fun hc => ?_) (fun hc => ?_) <;> (try simp only [decide_eq_true_eq, decide_eq_false_iff_not, ne_eq, Decidable.not_not] at hc)
    · have hset : (c.set k (c.getD (k0 + k2) 0)).length = n := by rw [List.length_set, hcl]
      repeat (first | intro id | refine goq ?_)
      refine WpO.mono (ih (k2 + 1) _ (c.set k (c.getD (k0 + k2) 0)) (k + 1) ?_ ?_ ?_ ?_ ?_ ?_ hset ?_ ?_ ?_) ?_
      · omega
      · omega
      · exact slotq
      · exact slotq
      · exact slotq
      · exact slotq
      · omega
      · intro j h1 h2
        rw [← hsame j (by omega) h2]
        simp only [List.getD_eq_getElem?_getD, List.getElem?_set]
        rw [if_neg (by omega)]
      · rw [show k0 + (k2 + 1) = k0 + k2 + 1 by omega, e3, if_neg (by omega), ← hd, ← e1]
        rw [take_snoc (by omega), List.take_set_of_le (Nat.le_refl k)]
        simp only [List.getD_eq_getElem?_getD, List.getElem?_set]
        simp [show k < c.length by omega]
      · rintro ex t' L' ⟨q1, q2, q3⟩
        exact ⟨q1, Keep.trans (by exact keepq) q2, q3⟩
    · repeat (first | intro id | refine goq ?_)
      refine WpO.mono (ih (k2 + 1) _ c k ?_ ?_ ?_ ?_ ?_ ?_ hcl ?_ ?_ ?_) ?_
      · omega
      · omega
      · exact slotq
      · exact slotq
      · exact slotq
      · exact slotq
      · omega
      · intro j h1 h2
        exact hsame j (by omega) h2
      · rw [show k0 + (k2 + 1) = k0 + k2 + 1 by omega, e3, if_pos (by omega)]
        exact hd
      · rintro ex t' L' ⟨q1, q2, q3⟩
        exact ⟨q1, Keep.trans (by exact keepq) q2, q3⟩

/-- What has been struck, in its box. -/
structure DedO (id : Nat) (l : List Int) (v : AVal) (c : List AVal) : Prop where
  val : ∃ cap, v = .sl id 0 (dd l).length 1 cap
  seg : seg c 0 (dd l).length = some ((dd l).map aint)
theorem ded_whole {id : Nat} {l : List Int} {cap : Option Nat} (h : dd l = l) : DedO id l (.sl id 0 l.length 1 cap) (l.map aint) := ⟨⟨cap, by rw [h]⟩, by rw [h]; exact seg_full (by simp)⟩
theorem compact_l1 {id n : Nat} {l : List Int} {cap : Option Nat} (hn : l.length = n) (hn2 : n < 2 ^ 62) (hst : still E c_slices_Compact_int_int_r9 = true) (hst' : still E c_slices_Compact_int_int_r5 = true) : ∀ (d k : Nat) (t : Tr AVal), d + k = n → 0 < k → t.get 0 = some (.sl id 0 n 1 cap) → t.get 3 = some (aint k) → dd (l.take k) = l.take k →
    WpO E (.loop c_slices_Compact_int_int_l1) t ((id, l.map aint) :: L) (fun ex t' L' => (ex = .exit 0 ∧ t'.get 0 = some (.sl id 0 n 1 cap) ∧ dd l = l ∧ L' = (id, l.map aint) :: L) ∨ (ex = .ret ∧ ∃ v c, t'.get 2 = some v ∧ DedO id l v c ∧ L' = (id, c) :: L)) := by
  intro d
  induction d with
  | zero =>
    intro k t hk hk0 h0 h3 hd
    refine wo_loop ?_
    repeat (first | intro id | refine goq ?_)
    refine .inl ⟨rfl, by exact slotq, ?_, rfl⟩
    rwa [List.take_of_length_le (by omega)] at hd
  | succ d ih =>
    intro k t hk hk0 h0 h3 hd
    have e3 := dd_step (l := l) hk0 (by omega : k < l.length)
    refine wo_loop ?_
    repeat (first | intro id | refine goq ?_)
    refine wo_cond_if (by exact slotq) (fun hc => ?_) (fun hc => ?_) <;> (try simp only [decide_eq_true_eq, decide_eq_false_iff_not, ne_eq, Decidable.not_not] at hc)
    · repeat (first | intro id | refine goq ?_)
      refine WpO.mono (compact_l0 (id := id) (l := l) (k0 := k) (cap := cap) (cap2 := cap.map (· - k)) hn hn2 hst (n - 1 - k) 1 _ l k (by omega) (by omega) ?_ ?_ ?_ ?_ hn (by omega) (fun _ _ _ => rfl) ?_) ?_
      · exact slotq
      · exact slotq
      · exact slotq
      · exact slotq
      · rw [e3, if_pos (by omega), hd]
      rintro ex t1 L' ⟨rfl, hK, c, k', g3, hcl, hk', hcd, rfl⟩
      have g0 : t1.get 0 = some (.sl id 0 n 1 cap) := (hK.ex 0 rfl).trans (by exact slotq)
      repeat (first | intro id | refine goq ?_)
      have hdl0 : (dd l).length = k' := by rw [← hcd]; simp; omega
      refine .inr ⟨rfl, .sl id 0 k' 1 cap, _, by exact slotq, ⟨⟨cap, by rw [hdl0]⟩, ?_⟩, rfl⟩
      have hdl : (dd l).length = k' := by rw [← hcd]; simp; omega
      rw [hdl, ← hcd]
      unfold seg
      rw [if_pos (by simp; omega), List.drop_zero, List.take_append_of_le_length (by simp; omega), List.take_take, Nat.min_self, List.map_take]
    ·
      repeat (first | intro id | refine goq ?_)
      refine ih (k + 1) _ ?_ ?_ ?_ ?_ ?_
      · omega
      · omega
      · exact slotq
      · exact slotq
      · rw [e3, if_neg (by omega), hd, take_snoc (by omega)]

theorem compact_ok (hF : E.fns = fnsT) (hm : E.mode f_slices_Compact_int_int = .open_) {id : Nat} {l : List Int} {cap : Option Nat} (hn2 : l.length < 2 ^ 62) :
    CallO E f_slices_Compact_int_int [.sl id 0 l.length 1 cap] ((id, l.map aint) :: L) fun v L' => ∃ c, DedO id l v c ∧ L' = (id, c) :: L := by
  refine callO_open hm (fns_of hF n_slices_Compact_int_int) ?_
  refine bodyO_of (Nat.le_of_ble_eq_true rfl) ?_; generalize ht : argSlots _ 0 .nil = t; have h0 : t.get 0 = some _ := (by rw [← ht]; rfl); clear ht
  by_cases h2 : l.length < 2
  · have hd : dd l = l := by
      match l, h2 with
      | [], _ => rfl
      | [a], _ => rfl
    repeat (first | intro id | refine goq ?_)
    ((first | apply retO_r | apply retO_n); (focus (exact resq)))
    exact ⟨_, ded_whole hd, rfl⟩
  · repeat (first | intro id | refine goq ?_)
    refine WpO.mono (compact_l1 (cap := cap) rfl hn2 rfl rfl (l.length - 1) 1 _ (by omega) (by omega) ?_ ?_ ?_) ?_
    · exact slotq
    · exact slotq
    · match l, h2 with
      | a :: r, _ => rfl
    rintro ex t1 L' (⟨rfl, g0, hd, rfl⟩ | ⟨rfl, v, c, g2, hd, rfl⟩)
    ·
      repeat (first | intro id | refine goq ?_)
      ((first | apply retO_r | apply retO_n); (focus (exact resq)))
      exact ⟨_, ded_whole hd, rfl⟩
    ·
      repeat (first | intro id | refine goq ?_)
      ((first | apply retO_r | apply retO_n); (focus (exact resq)))
      exact ⟨c, hd, rfl⟩
theorem compact_nil (hF : E.fns = fnsT) (hm : E.mode f_slices_Compact_int_int = .open_) : CallO E f_slices_Compact_int_int [anil] L fun v L' => v = anil ∧ L' = L := by
  refine callO_open hm (fns_of hF n_slices_Compact_int_int) ?_
  refine bodyO_of (Nat.le_of_ble_eq_true rfl) ?_; generalize ht : argSlots _ 0 .nil = t; have h0 : t.get 0 = some _ := (by rw [← ht]; rfl); clear ht
  repeat (first | intro id | refine goq ?_)
  ((first | apply retO_r | apply retO_n); (focus (exact resq)))
  exact ⟨rfl, rfl⟩
end Go.Proofs.Ytfaphhcloanhnaa
namespace Go.Proofs.Ytfaphhcloanhnaa
open Go.Am Go.Ded Go.Dist
set_option maxRecDepth 4000
set_option maxHeartbeats 4000000
variable {E : Env} {L : Hp}
/-- Cells, each with its boxes: asq P says of it, by its place. -/
inductive AllP : (Nat → AVal → Hp → Prop) → Nat → List AVal → Hp → Prop where
  | nil {P : Nat → AVal → Hp → Prop} {k : Nat} : AllP P k [] []
  | cons {P : Nat → AVal → Hp → Prop} {k : Nat} {v : AVal} {vs : List AVal} {B H : Hp} (h : P k v B) (hr : AllP P (k + 1) vs H) : AllP P k (v :: vs) (B ++ H)
theorem AllP.mono {P P' : Nat → AVal → Hp → Prop} {k : Nat} {vs : List AVal} {H : Hp} (h : AllP P k vs H) (hp : ∀ j v B, k ≤ j → P j v B → P' j v B) : AllP P' k vs H := by
  induction h with
  | nil => exact .nil
  | cons h hr ih => exact .cons (hp _ _ _ (Nat.le_refl _) h) (ih fun j v B hj => hp j v B (by omega))
theorem AllP.split {P : Nat → AVal → Hp → Prop} {k : Nat} {vs : List AVal} {H : Hp} (h : AllP P k vs H) : ∀ {i : Nat}, i < vs.length → ∃ v B H1 H2, vs[i]? = some v ∧ H = H1 ++ (B ++ H2) ∧ P (k + i) v B ∧
    ∀ (P' : Nat → AVal → Hp → Prop) v' B', P' (k + i) v' B' → (∀ j v B, k ≤ j → j ≠ k + i → P j v B → P' j v B) → AllP P' k (vs.set i v') (H1 ++ (B' ++ H2)) := by
  induction h with
  | nil => intro i hi; simp at hi
  | @cons k v vs B H h hr ih =>
    intro i hi
    cases i with
    | zero =>
      refine ⟨v, B, [], H, rfl, rfl, h, fun P' v' B' h' ho => ?_⟩
      exact .cons (B := B') h' (hr.mono fun j v B hj hp => ho j v B (by omega) (by omega) hp)
    | succ i =>
      obtain ⟨v0, B0, H1, H2, h1, h2, h3, h4⟩ := ih (i := i) (by simpa using hi)
      refine ⟨v0, B0, B ++ H1, H2, by simpa using h1, by rw [h2]; simp, by rw [show k + (i + 1) = k + 1 + i by omega]; exact h3, fun P' v' B' h' ho => ?_⟩
      rw [show k + (i + 1) = k + 1 + i by omega] at h' ho
      have := h4 P' v' B' h' fun j v B hj hne hp => ho j v B (by omega) hne hp
      simp only [List.set_cons_succ, List.append_assoc]
      exact .cons (ho _ _ _ (Nat.le_refl _) (by omega) h) this

/-- Place i's neighbours so far. -/
def RowN (ls : Nat → List Nat) (i : Nat) (v : AVal) (B : Hp) : Prop := BufO 1 v ((inat (ls i)).map aint) (ls i).length B
def addN (a b : Nat) (ls : Nat → List Nat) : Nat → List Nat := fun i => if i = a then ls i ++ [b] else ls i
theorem addN_same (a b : Nat) (ls : Nat → List Nat) : addN a b ls a = ls a ++ [b] := by simp [addN]
theorem addN_other {a b i : Nat} (ls : Nat → List Nat) (h : i ≠ a) : addN a b ls i = ls i := by simp [addN, h]
theorem RowN.add {a b id : Nat} {ls : Nat → List Nat} {v : AVal} {B : Hp} (h : RowN ls a v B) : RowN (addN a b ls) a (.sl id 0 ((ls a).length + 1) 1 none) [(id, (inat (ls a)).map aint ++ [aint b])] := by
  unfold RowN
  rw [addN_same, List.length_append, inat_app, List.map_append]
  exact h.pushed (nw := [aint b]) rfl rfl
theorem RowN.other {a b i : Nat} {ls : Nat → List Nat} {v : AVal} {B : Hp} (hne : i ≠ a) (h : RowN ls i v B) : RowN (addN a b ls) i v B := by
  unfold RowN
  rw [addN_other ls hne]
  exact h

theorem near_r5 {N a b io i5 : Nat} {ls : Nat → List Nat} {vs : List AVal} {H : Hp} {K : Tr AVal → Hp → Prop} {t : Tr AVal} (hN : N ≤ 64) (haN : a < N) (hvs : vs.length = N) (hlen : (ls a).length ≤ 2097152) (hall : AllP (RowN ls) 0 vs H)
    (h3 : t.get 3 = some (.sl io 0 N 1 (some N))) (h5 : t.get 5 = some (.ptr i5 0))
    (h : ∀ t' vs' H', Keep [1, 2, 3, 5, 12, 13, 14] t t' → vs'.length = N → AllP (RowN (addN a b ls)) 0 vs' H' → ∀ L1, Am.Sub ((i5, [aint a, aint b]) :: (io, vs') :: (H' ++ L)) L1 → K t' L1) :
    ∀ nx, DrO E 0 [] c_route_near_r5 t ((i5, [aint a, aint b]) :: (io, vs) :: (H ++ L)) nx K := by
  intro nx
  obtain ⟨v, B, H1, H2, hv, rfl, hP, hset⟩ := hall.split (i := a) (by omega)
  rw [Nat.zero_add] at hP hset
  have hb : BufO 1 v ((inat (ls a)).map aint) (ls a).length B := hP
  have hv' := hv
  rw [List.append_assoc, List.append_assoc]
  repeat (refine goy ?_)
  apply dro_push
  focus exact rslotq
  focus exact hb
  focus exact rslotq
  focus exact remq
  focus exact inq
  focus rfl
  focus rfl
  focus omega
  focus omega
  focus
    intro hfr
    have hq : ((false || !B.isEmpty) && [i5].any (B.map (·.1) ++ [nx]).contains) = false := by
      have h1 := hfr.1
      have h2 := hfr.2 (i5, [aint a, aint b]) (by simp)
      simp only [List.map_cons, List.nodup_cons, List.mem_cons, List.map_append, List.mem_append, not_or] at h1
      have h3 : i5 ∉ B.map (·.1) := h1.2.1.2.2.1
      have h4 : i5 ≠ nx := by simp only at h2; omega
      simp only [List.any_cons, List.any_nil, Bool.or_false, List.contains_eq_mem, List.mem_append, List.mem_singleton, h3, h4, or_self, decide_false, Bool.and_false]
    exact aptq
  have hvl : (vs.set a (.sl (nx + 1) 0 ((ls a).length + 1) 1 none)).length = N := by rw [List.length_set, hvs]
  repeat (refine goy ?_)
  refine h _ _ _ (by exact keepq) hvl (hset (RowN (addN a b ls)) _ _ (RowN.add (id := nx + 1) hP) fun j v B _ hne hp => hp.other hne) _ ?_
  rw [List.append_assoc, List.append_assoc]
  exact subq
theorem near_r6 {N a b io i5 : Nat} {ls : Nat → List Nat} {vs : List AVal} {H : Hp} {K : Tr AVal → Hp → Prop} {t : Tr AVal} (hN : N ≤ 64) (haN : a < N) (hvs : vs.length = N) (hlen : (ls a).length ≤ 2097152) (hall : AllP (RowN ls) 0 vs H)
    (h3 : t.get 3 = some (.sl io 0 N 1 (some N))) (h5 : t.get 5 = some (.ptr i5 0))
    (h : ∀ t' vs' H', Keep [1, 2, 3, 5, 12, 13, 14] t t' → vs'.length = N → AllP (RowN (addN a b ls)) 0 vs' H' → ∀ L1, Am.Sub ((i5, [aint b, aint a]) :: (io, vs') :: (H' ++ L)) L1 → K t' L1) :
    ∀ nx, DrO E 0 [] c_route_near_r6 t ((i5, [aint b, aint a]) :: (io, vs) :: (H ++ L)) nx K := by
  intro nx
  obtain ⟨v, B, H1, H2, hv, rfl, hP, hset⟩ := hall.split (i := a) (by omega)
  rw [Nat.zero_add] at hP hset
  have hb : BufO 1 v ((inat (ls a)).map aint) (ls a).length B := hP
  have hv' := hv
  rw [List.append_assoc, List.append_assoc]
  repeat (refine goy ?_)
  apply dro_push
  focus exact rslotq
  focus exact hb
  focus exact rslotq
  focus exact remq
  focus exact inq
  focus rfl
  focus rfl
  focus omega
  focus omega
  focus
    intro hfr
    have hq : ((false || !B.isEmpty) && [i5].any (B.map (·.1) ++ [nx]).contains) = false := by
      have h1 := hfr.1
      have h2 := hfr.2 (i5, [aint b, aint a]) (by simp)
      simp only [List.map_cons, List.nodup_cons, List.mem_cons, List.map_append, List.mem_append, not_or] at h1
      have h3 : i5 ∉ B.map (·.1) := h1.2.1.2.2.1
      have h4 : i5 ≠ nx := by simp only at h2; omega
      simp only [List.any_cons, List.any_nil, Bool.or_false, List.contains_eq_mem, List.mem_append, List.mem_singleton, h3, h4, or_self, decide_false, Bool.and_false]
    exact aptq
  have hvl : (vs.set a (.sl (nx + 1) 0 ((ls a).length + 1) 1 none)).length = N := by rw [List.length_set, hvs]
  repeat (refine goy ?_)
  refine h _ _ _ (by exact keepq) hvl (hset (RowN (addN a b ls)) _ _ (RowN.add (id := nx + 1) hP) fun j v B _ hne hp => hp.other hne) _ ?_
  rw [List.append_assoc, List.append_assoc]
  exact subq

/-- Each place's neighbours asq they are met. -/
def adjL (ps : List (Nat × Nat)) : Nat → List Nat := ps.foldl (fun ls p => addN p.2 p.1 (addN p.1 p.2 ls)) fun _ => []
theorem adjL_snoc (ps : List (Nat × Nat)) (p : Nat × Nat) : adjL (ps ++ [p]) = addN p.2 p.1 (addN p.1 p.2 (adjL ps)) := by simp [adjL]
theorem addN_len (a b : Nat) (ls : Nat → List Nat) (i : Nat) : (addN a b ls i).length ≤ (ls i).length + 1 := by unfold addN; split <;> simp
theorem addN_mem (a b : Nat) (ls : Nat → List Nat) (i x : Nat) : x ∈ addN a b ls i ↔ x ∈ ls i ∨ (i = a ∧ x = b) := by
  unfold addN
  split
  · rename_i h; simp [h]
  · rename_i h; simp [h]
theorem adjL_take {ps : List (Nat × Nat)} {k : Nat} (h : k < ps.length) : adjL (ps.take (k + 1)) = addN (ps.getD k (0, 0)).2 (ps.getD k (0, 0)).1 (addN (ps.getD k (0, 0)).1 (ps.getD k (0, 0)).2 (adjL (ps.take k))) := by
  rw [List.take_succ_eq_append_getElem h, adjL_snoc]
  simp [h]
theorem adjL_len (ps : List (Nat × Nat)) : ∀ k i, k ≤ ps.length → (adjL (ps.take k) i).length ≤ 2 * k
  | 0, i, _ => by simp [adjL]
  | k + 1, i, h => by
    rw [adjL_take (by omega)]
    have h1 := adjL_len ps k i (by omega)
    have h2 := addN_len (ps.getD k (0, 0)).1 (ps.getD k (0, 0)).2 (adjL (ps.take k)) i
    have h3 := addN_len (ps.getD k (0, 0)).2 (ps.getD k (0, 0)).1 (addN (ps.getD k (0, 0)).1 (ps.getD k (0, 0)).2 (adjL (ps.take k))) i
    omega
theorem adjL_mem (ps : List (Nat × Nat)) : ∀ k i x, k ≤ ps.length → (x ∈ adjL (ps.take k) i ↔ Adj (ps.take k) i x)
  | 0, i, x, _ => by simp [adjL, Adj]
  | k + 1, i, x, h => by
    rw [adjL_take (by omega), addN_mem, addN_mem, adjL_mem ps k i x (by omega), List.take_succ_eq_append_getElem (by omega)]
    have e : ps.getD k (0, 0) = ps[k] := by simp [show k < ps.length by omega]
    rw [e]
    unfold Adj
    simp only [List.mem_append, List.mem_singleton, Prod.ext_iff]
    constructor
    · rintro ((( h | h) | h) | h)
      · exact .inl (.inl h)
      · exact .inr (.inl h)
      · exact .inl (.inr h)
      · exact .inr (.inr ⟨h.2, h.1⟩)
    · rintro ((h | h) | (h | h))
      · exact .inl (.inl (.inl h))
      · exact .inl (.inr h)
      · exact .inl (.inl (.inr h))
      · exact .inr ⟨h.2, h.1⟩

theorem near_l0 {N io i1 : Nat} {va : AVal} {ps : List (Nat × Nat)} (hN : N ≤ 64) (hps : ∀ k, k < ps.length → (ps.getD k (0, 0)).1 < N ∧ (ps.getD k (0, 0)).2 < N) (hva : SlN va ps) (hlt : ps.length ≤ 1000000) :
    ∀ (d k : Nat) (t : Tr AVal) (vs : List AVal) (H : Hp), d + k = ps.length → t.get 3 = some (.sl io 0 N 1 (some N)) → t.get 12 = some va → t.get 13 = some (aint ps.length) → t.get 14 = some (aint k) → vs.length = N → AllP (RowN (adjL (ps.take k))) 0 vs H →
    WpO E (.loop c_route_near_l0) t ((io, vs) :: (H ++ L)) (fun ex t' L' => ex = .exit 0 ∧ Keep [1, 2, 3] t t' ∧ ∃ vs' H', vs'.length = N ∧ AllP (RowN (adjL ps)) 0 vs' H' ∧ L' = (io, vs') :: (H' ++ L)) := by
  intro d
  induction d with
  | zero =>
    intro k t vs H hk h3 h12 h13 h14 hvs hall
    refine wo_loop ?_
    repeat (first | intro id | refine goq ?_)
    rw [List.take_of_length_le (by omega)] at hall
    exact ⟨rfl, by exact keepq, vs, H, hvs, hall, rfl⟩
  | succ d ih =>
    intro k t vs H hk h3 h12 h13 h14 hvs hall
    obtain ⟨ha, hb⟩ := hps k (by omega)
    have hl1 := adjL_len ps k (ps.getD k (0, 0)).1 (by omega)
    have hl2 := adjL_len ps k (ps.getD k (0, 0)).2 (by omega)
    have hl3 := addN_len (ps.getD k (0, 0)).1 (ps.getD k (0, 0)).2 (adjL (ps.take k)) (ps.getD k (0, 0)).2
    refine wo_loop ?_
    repeat (first | intro id | refine goq ?_)
    refine wo_drawn rfl (near_r5 (L := L) hN ha hvs (by omega) hall ?_ ?_ fun t1 vs1 H1 hK1 hvs1 hall1 L1 hs1 => ?_)
    · exact slotq
    · exact slotq
    refine seqO.n (WpO.weak ?_ hs1)
    have k3 : t1.get 3 = some (.sl io 0 N 1 (some N)) := (hK1.ex 3 rfl).trans (by exact slotq)
    have k5 : t1.get 5 = some (.ptr id 0) := (hK1.ex 5 rfl).trans (by exact slotq)
    have k12 : t1.get 12 = some va := (hK1.ex 12 rfl).trans (by exact slotq)
    have k13 : t1.get 13 = some (aint ps.length) := (hK1.ex 13 rfl).trans (by exact slotq)
    have k14 : t1.get 14 = some (aint k) := (hK1.ex 14 rfl).trans (by exact slotq)
    have hK1' : Keep [1, 2, 3] t t1 := Keep.trans (by exact keepq) (hK1.less rfl)
    clear hK1
    refine wo_drawn rfl (near_r6 (L := L) hN hb hvs1 (by omega) hall1 k3 k5 fun t2 vs2 H2 hK2 hvs2 hall2 L2 hs2 => ?_)
    have q3 : t2.get 3 = some (.sl io 0 N 1 (some N)) := (hK2.ex 3 rfl).trans k3
    have q12 : t2.get 12 = some va := (hK2.ex 12 rfl).trans k12
    have q13 : t2.get 13 = some (aint ps.length) := (hK2.ex 13 rfl).trans k13
    have q14 : t2.get 14 = some (aint k) := (hK2.ex 14 rfl).trans k14
    have hK2' : Keep [1, 2, 3] t t2 := Keep.trans hK1' (hK2.less rfl)
    clear hK2 h3 h12 h13 h14 k3 k5 k12 k13 k14
    repeat (first | intro id | refine goq ?_)
    rw [← adjL_take (by omega)] at hall2
    refine WpO.weak (WpO.mono (ih (k + 1) _ vs2 H2 ?_ ?_ ?_ ?_ ?_ hvs2 hall2) ?_) ?_
    · omega
    · exact slotq
    · exact slotq
    · exact slotq
    · exact slotq
    · rintro ex t' L' ⟨e1, e2, e3⟩
      exact ⟨e1, Keep.trans (by exact keepq) e2, e3⟩
    · exact Sub.trans (by exact subq) hs2
end Go.Proofs.Ytfaphhcloanhnaa
namespace Go.Am

/-- Where boxes lie: block, first cell. -/
abbrev Inj := Nat → Option (Nat × Nat)

inductive Rep (ι : Inj) (S : Nat → Prop) (w : World) : AVal → Value → Prop
  | sc {v a : Value} (h : scal v = some a) : Rep ι S w (.sc a) v
  | ptr {id off b o : Nat} (h : ι id = some (b, o)) : Rep ι S w (.ptr id off) (.pointer (some ⟨b, o + off, none⟩))
  | ro {cells : List AVal} {a : Addr} (vs : Nat → Value) (hs : 0 < cells.length → a.spot = none ∧ S a.block)
      (hc : ∀ j, j < cells.length → w.cell? ⟨a.block, a.off + j, none⟩ = some (vs j))
      (hr : ∀ (j : Nat) c, cells[j]? = some c → Rep ι S w c (vs j)) (ho : ∀ c ∈ cells, c.one = true) : Rep ι S w (.ro cells) (.pointer (some a))
  | sl {id off len esz : Nat} {cap : Option Nat} {b o c : Nat} {a : Addr} (h : ι id = some (b, o)) (hl : len ≤ c) (hk : ∀ k, cap = some k → c = k)
      (ha : c ≠ 0 → a = ⟨b, o + off, none⟩)
      (hroom : c ≠ 0 ∨ cap = none → ∃ cs el, w.heap[b]? = some (.cells cs el (0, 0)) ∧ o + off + c * esz ≤ cs.size ∧ (cap = none → o + off + c * esz = cs.size)) : Rep ι S w (.sl id off len esz cap) (.slice (some a) len c)
  | rs {cells : List AVal} {len : Nat} {cap : Option Nat} {a : Addr} {c : Nat} (vs : Nat → Value) (hl : len ≤ c) (hk : ∀ k, cap = some k → c = k)
      (hs : 0 < cells.length → a.spot = none ∧ S a.block)
      (hc : ∀ j, j < cells.length → w.cell? ⟨a.block, a.off + j, none⟩ = some (vs j))
      (hr : ∀ (j : Nat) c, cells[j]? = some c → Rep ι S w c (vs j)) (ho : ∀ c ∈ cells, c.one = true) : Rep ι S w (.rs cells len cap) (.slice (some a) len c)
  | mp {id b o : Nat} (h : ι id = some (b, o)) : Rep ι S w (.mp id) (.map (some b))
  | fn {f : Fn} {first cap : List AVal} {vf vc : Array Value} (h1 : first.length = vf.size) (h2 : cap.length = vc.size)
      (hf : ∀ (j : Nat) c v, first[j]? = some c → vf[j]? = some v → Rep ι S w c v) (hc : ∀ (j : Nat) c v, cap[j]? = some c → vc[j]? = some v → Rep ι S w c v) : Rep ι S w (.fn f first cap) (.func f vf vc)
  | agg {cells : List AVal} {vs : Array Value} (hl : cells.length = vs.size) (hr : ∀ (j : Nat) c v, cells[j]? = some c → vs[j]? = some v → Rep ι S w c v) : Rep ι S w (.agg cells) (.agg vs)
  | tup {cells : List AVal} {vs : Array Value} (hl : cells.length = vs.size) (hr : ∀ (j : Nat) c v, cells[j]? = some c → vs[j]? = some v → Rep ι S w c v) : Rep ι S w (.tup cells) (.tuple vs)

def RepL (ι : Inj) (S : Nat → Prop) (w : World) (cs : List AVal) (vs : List Value) : Prop :=
  cs.length = vs.length ∧ ∀ (j : Nat) c v, cs[j]? = some c → vs[j]? = some v → Rep ι S w c v

/-! ### What a world keeps -/
def InjLe (ι ι' : Inj) : Prop := ∀ id p, ι id = some p → ι' id = some p
theorem InjLe.refl (ι : Inj) : InjLe ι ι := fun _ _ h => h
theorem InjLe.trans {a b c : Inj} (h : InjLe a b) (k : InjLe b c) : InjLe a c := fun id p hp => k id p (h id p hp)

structure WStep (owned : Nat → Prop) (w w' : World) : Prop where
  os : w'.os = w.os
  tape : w'.tape = w.tape
  output : w'.output = w.output
  size : w.heap.size ≤ w'.heap.size
  keep : ∀ (b : Nat), b < w.heap.size → ¬ owned b → w'.heap[b]? = w.heap[b]?
  shape : ∀ (b : Nat) cs el fr, w.heap[b]? = some (.cells cs el fr) → ∃ cs', w'.heap[b]? = some (.cells cs' el fr) ∧ cs'.size = cs.size

theorem lt_of_heap {w : World} {b : Nat} {o : Obj} (h : w.heap[b]? = some o) : b < w.heap.size := (Array.getElem?_eq_some_iff.1 h).1

theorem WStep.refl (owned : Nat → Prop) (w : World) : WStep owned w w := ⟨rfl, rfl, rfl, Nat.le_refl _, fun _ _ _ => rfl, fun _ cs _ _ h => ⟨cs, h, rfl⟩⟩
theorem WStep.mono {owned owned' : Nat → Prop} {w w' : World} (h : WStep owned w w') (ho : ∀ b, b < w.heap.size → owned b → owned' b) : WStep owned' w w' :=
  ⟨h.os, h.tape, h.output, h.size, fun b hb hn => h.keep b hb (fun k => hn (ho b hb k)), h.shape⟩
theorem WStep.trans {o1 o2 : Nat → Prop} {a b c : World} (h : WStep o1 a b) (k : WStep o2 b c) : WStep (fun x => o1 x ∨ (o2 x ∧ x < a.heap.size)) a c where
  os := k.os.trans h.os
  tape := k.tape.trans h.tape
  output := k.output.trans h.output
  size := Nat.le_trans h.size k.size
  keep := fun x hx hn => (k.keep x (Nat.lt_of_lt_of_le hx h.size) (fun e => hn (.inr ⟨e, hx⟩))).trans (h.keep x hx (fun e => hn (.inl e)))
  shape := fun x cs el fr hx => by
    obtain ⟨cs1, h1, e1⟩ := h.shape x cs el fr hx
    obtain ⟨cs2, h2, e2⟩ := k.shape x cs1 el fr h1
    exact ⟨cs2, h2, e2.trans e1⟩
/-- Orders, capacities and the like have been drawn. -/
theorem WStep.drawn_ (owned : Nat → Prop) (w : World) (n : Nat) : WStep owned w { w with drawn := n } := ⟨rfl, rfl, rfl, Nat.le_refl _, fun _ _ _ => rfl, fun _ cs _ _ h => ⟨cs, h, rfl⟩⟩
theorem cell?_of_heap {w w' : World} {a : Addr} (h : w'.heap[a.block]? = w.heap[a.block]?) : w'.cell? a = w.cell? a := by unfold World.cell?; rw [h]

theorem Rep.mono {ι ι' : Inj} {S S' : Nat → Prop} {w w' : World} {a : AVal} {v : Value} (h : Rep ι S w a v) (hι : InjLe ι ι') (hS : ∀ b, S b → S' b)
    (hk : ∀ (b : Nat), S b → w'.heap[b]? = w.heap[b]?)
    (hsh : ∀ (b : Nat) cs el fr, w.heap[b]? = some (.cells cs el fr) → ∃ cs', w'.heap[b]? = some (.cells cs' el fr) ∧ cs'.size = cs.size) : Rep ι' S' w' a v := by
  induction h with
  | sc h => exact .sc h
  | ptr h => exact .ptr (hι _ _ h)
  | ro vs hs hc hr ho ih => exact .ro vs (fun h => ⟨(hs h).1, hS _ (hs h).2⟩) (fun j hj => (cell?_of_heap (a := ⟨_, _, none⟩) (hk _ (hs (by omega)).2)).trans (hc j hj)) ih ho
  | sl h hl hk' ha hroom =>
    refine .sl (hι _ _ h) hl hk' ha (fun hc => ?_)
    obtain ⟨cs, el, hh, hr, hr2⟩ := hroom hc
    obtain ⟨cs', hh', e⟩ := hsh _ _ _ _ hh
    exact ⟨cs', el, hh', by omega, fun h => by have := hr2 h; omega⟩
  | rs vs hl hk' hs hc hr ho ih => exact .rs vs hl hk' (fun h => ⟨(hs h).1, hS _ (hs h).2⟩) (fun j hj => (cell?_of_heap (a := ⟨_, _, none⟩) (hk _ (hs (by omega)).2)).trans (hc j hj)) ih ho
  | mp h => exact .mp (hι _ _ h)
  | fn h1 h2 hf hc ih1 ih2 => exact .fn h1 h2 ih1 ih2
  | agg hl hr ih => exact .agg hl ih
  | tup hl hr ih => exact .tup hl ih

/-! ### The memory -/
def BoxAt (ι : Inj) (S : Nat → Prop) (w : World) (b o : Nat) : Box → Prop
  | .cells cs => ∃ (vs : Array Value) (el : TypeId), w.heap[b]? = some (.cells vs el (0, 0)) ∧ o + cs.length ≤ vs.size ∧ (∀ (j : Nat) c v, cs[j]? = some c → vs[o + j]? = some v → Rep ι S w c v) ∧ ∀ c ∈ cs, c.one = true
  | .map es clock => ∃ arr : Array MapEntry, w.heap[b]? = some (.map arr clock) ∧ arr.size = es.length ∧
      ∀ (j : Nat) k a n e, es[j]? = some (k, a, n) → arr[j]? = some e → e.born = n ∧ scal e.key = some k ∧ Rep ι S w a e.val

structure MRel (ι : Inj) (S : Nat → Prop) (H : Nat → Option Box) (w : World) : Prop where
  box : ∀ id bx, H id = some bx → ∃ b o, ι id = some (b, o) ∧ ¬ S b ∧ BoxAt ι S w b o bx
  apart : ∀ i j bi bj b o b' o', H i = some bi → H j = some bj → i ≠ j → ι i = some (b, o) → ι j = some (b', o') → b ≠ b'
  prot : ∀ b, S b → b < w.heap.size

/-- The blocks of the boxes. -/
def Own (ι : Inj) (H : Nat → Option Box) (b : Nat) : Prop := ∃ id bx o, H id = some bx ∧ ι id = some (b, o)

theorem MRel.notS {ι : Inj} {S : Nat → Prop} {H : Nat → Option Box} {w : World} (h : MRel ι S H w) {b : Nat} (hb : S b) : ¬ Own ι H b := by
  rintro ⟨id, bx, o, h1, h2⟩
  obtain ⟨b', o', h3, h4, _⟩ := h.box id bx h1
  rw [h2] at h3
  cases h3
  exact h4 hb

theorem BoxAt.lt {ι : Inj} {S : Nat → Prop} {w : World} {b o : Nat} {bx : Box} (h : BoxAt ι S w b o bx) : b < w.heap.size := by
  cases bx with
  | cells cs => obtain ⟨vs, el, h, _⟩ := h; exact lt_of_heap h
  | map es c => obtain ⟨arr, h, _⟩ := h; exact lt_of_heap h

theorem BoxAt.mono {ι ι' : Inj} {S S' : Nat → Prop} {w w' : World} {b o : Nat} {bx : Box} (h : BoxAt ι S w b o bx) (hι : InjLe ι ι') (hS : ∀ b, S b → S' b)
    (hk : ∀ (b : Nat), S b → w'.heap[b]? = w.heap[b]?)
    (hsh : ∀ (b : Nat) cs el fr, w.heap[b]? = some (.cells cs el fr) → ∃ cs', w'.heap[b]? = some (.cells cs' el fr) ∧ cs'.size = cs.size)
    (hb : w'.heap[b]? = w.heap[b]?) : BoxAt ι' S' w' b o bx := by
  cases bx with
  | cells cs =>
    obtain ⟨vs, el, h1, h2, h3, h4⟩ := h
    exact ⟨vs, el, by rw [hb]; exact h1, h2, fun j c v hc hv => (h3 j c v hc hv).mono hι hS hk hsh, h4⟩
  | map es c =>
    obtain ⟨arr, h1, h2, h3⟩ := h
    refine ⟨arr, by rw [hb]; exact h1, h2, fun j k a n e he hv => ?_⟩
    obtain ⟨h4, h5, h6⟩ := h3 j k a n e he hv
    exact ⟨h4, h5, h6.mono hι hS hk hsh⟩

/-- Fewer boxes. -/
theorem MRel.less {ι : Inj} {S : Nat → Prop} {H H' : Nat → Option Box} {w : World} (h : MRel ι S H w) (hs : ∀ id bx, H' id = some bx → H id = some bx) : MRel ι S H' w :=
  ⟨fun id bx hx => h.box id bx (hs id bx hx), fun i j bi bj b o b' o' h1 h2 => h.apart i j bi bj b o b' o' (hs _ _ h1) (hs _ _ h2), h.prot⟩

/-- No box's block has turned. -/
theorem MRel.still {ι ι' : Inj} {S : Nat → Prop} {H : Nat → Option Box} {w w' : World} (h : MRel ι S H w) (hι : InjLe ι ι') {owned : Nat → Prop} (hw : WStep owned w w') (ho : ∀ b, b < w.heap.size → owned b → False) : MRel ι' S H w' where
  box := fun id bx hx => by
    obtain ⟨b, o, h1, h2, h3⟩ := h.box id bx hx
    exact ⟨b, o, hι _ _ h1, h2, h3.mono hι (fun _ h => h) (fun b hb => hw.keep b (h.prot b hb) (ho b (h.prot b hb))) hw.shape (hw.keep b h3.lt (ho b h3.lt))⟩
  apart := fun i j bi bj b o b' o' h1 h2 hne h3 h4 => by
    obtain ⟨b1, o1, e1, _⟩ := h.box i bi h1
    obtain ⟨b2, o2, e2, _⟩ := h.box j bj h2
    have := hι _ _ e1
    rw [h3] at this; cases this
    have := hι _ _ e2
    rw [h4] at this; cases this
    exact h.apart i j bi bj _ _ _ _ h1 h2 hne e1 e2
  prot := fun b hb => Nat.lt_of_lt_of_le (h.prot b hb) hw.size

/-! ### Slots -/
def SRel (ι : Inj) (S : Nat → Prop) (w : World) (s : Nat → Option AVal) (tmps : Array Value) : Prop :=
  ∀ i a, s i = some a → ∃ v, tmps[i]? = some v ∧ Rep ι S w a v

theorem SRel.mono {ι ι' : Inj} {S S' : Nat → Prop} {w w' : World} {s : Nat → Option AVal} {tmps : Array Value} (h : SRel ι S w s tmps) (hι : InjLe ι ι') (hS : ∀ b, S b → S' b)
    (hk : ∀ (b : Nat), S b → w'.heap[b]? = w.heap[b]?)
    (hsh : ∀ (b : Nat) cs el fr, w.heap[b]? = some (.cells cs el fr) → ∃ cs', w'.heap[b]? = some (.cells cs' el fr) ∧ cs'.size = cs.size) : SRel ι' S' w' s tmps := by
  intro i a hi
  obtain ⟨v, h1, h2⟩ := h i a hi
  exact ⟨v, h1, h2.mono hι hS hk hsh⟩

/-! ### Cells -/
theorem Rep.one {ι : Inj} {S : Nat → Prop} {w : World} {a : AVal} {v : Value} (h : Rep ι S w a v) (ho : a.one = true) : v.cells = #[v] ∧ a.cells = [a] := by
  cases h with
  | sc h => refine ⟨?_, rfl⟩; cases v <;> simp_all [scal, Value.cells]
  | agg hl hr => simp [AVal.one] at ho
  | tup hl hr => simp [AVal.one] at ho
  | _ => exact ⟨rfl, rfl⟩
theorem Rep.cells {ι : Inj} {S : Nat → Prop} {w : World} {a : AVal} {v : Value} (h : Rep ι S w a v) : RepL ι S w a.cells v.cells.toList := by
  by_cases ho : a.one = true
  · obtain ⟨h1, h2⟩ := h.one ho
    rw [h1, h2]
    refine ⟨rfl, fun j c v' hc hv => ?_⟩
    cases j with
    | zero => simp at hc hv; subst hc hv; exact h
    | succ j => simp at hc
  · cases h <;> simp [AVal.one] at ho
    · rename_i cells vs hl hr
      refine ⟨by simpa [AVal.cells, Value.cells] using hl, fun j c v hc hv => hr j c v hc (by simpa [Value.cells] using hv)⟩
    · rename_i cells vs hl hr
      refine ⟨by simp [AVal.cells, Value.cells], fun j c v hc hv => ?_⟩
      cases j with
      | zero =>
        simp [AVal.cells, Value.cells] at hc hv
        subst hc hv
        exact .tup hl hr
      | succ j => simp [AVal.cells] at hc
theorem Rep.oneCell {ι : Inj} {S : Nat → Prop} {w : World} {a : AVal} {v : Value} (h : Rep ι S w a v) (ho : a.one = true) : ∀ x, v ≠ .agg x ∧ v ≠ .tuple x := by
  intro x
  cases h with
  | sc h => cases v <;> simp [scal] at h ⊢
  | agg hl hr => simp [AVal.one] at ho
  | tup hl hr => simp [AVal.one] at ho
  | _ => exact ⟨by simp, by simp⟩
end Go.Am
namespace Go.Am
section
variable (P : Program)

def szOf (t : TypeId) : Option Nat := (P.info? t).map (·.size)
def bytesOf_ (t : TypeId) : Option Nat := (P.info? t).map (·.bytes)
def aggOf (t : TypeId) : Option Bool :=
  match P.underlying t with
  | some (.struct _) => some true
  | some (.array _ _) => some true
  | some _ => some false
  | none => none
def zeroOf (t : TypeId) : Option (List AVal) :=
  match (P.info? t).bind (·.zero) with
  | some z => scAll z.cells.toList
  | none => none

def compArg : Operand → Option Arg
  | .tmp t => some (.t t)
  | .const v => (ofConst v).map .k
  | .func f => some (.k (.fn (.func f) [] []))
  | .global _ => none
def compArgs : List Operand → Option (List Arg)
  | [] => some []
  | x :: r => match compArg x, compArgs r with
    | some a, some asq => some (a :: asq)
    | _, _ => none
def compOpt : Option Operand → Option (Option Arg)
  | none => some none
  | some x => (compArg x).map some
/-- Parts, by where they go. -/
def compParts (place : Nat → Option (Nat × Nat)) : List (Nat × Operand) → Option (List (Nat × Nat × Arg))
  | [] => some []
  | (i, x) :: r => match place i, compArg x, compParts place r with
    | some (o, n), some a, some asq => some ((o, n, a) :: asq)
    | _, _, _ => none
def fieldPlaces : List Field → Option (List (Nat × Nat))
  | [] => some []
  | f :: r => match szOf P f.type, fieldPlaces r with
    | some n, some l => some ((f.offset, n) :: l)
    | _, _ => none

def leavesFs (lv : TypeId → Option (List LK)) : List Field → Nat → Option (List LK)
  | [], _ => some []
  | f :: r, off =>
    if f.name = "_" then none
    else match lv f.type, szOf P f.type with
      | some l, some n => if f.offset = off ∧ n = l.length then match leavesFs lv r (off + l.length) with
          | some k => some (l ++ k)
          | none => none
        else none
      | _, _ => none
/-- The leaves of a type, where '==' asks them one by one. -/
def leavesOf : Nat → TypeId → Option (List LK)
  | 0, _ => none
  | d + 1, t => match P.underlying t with
    | some .bool => some [.bool]
    | some (.int _) => some [.int]
    | some .string => some [.string]
    | some (.struct fs) => if P.stoodInHeld t then none else leavesFs P (leavesOf d) fs.toList 0
    | some (.array n e) => match leavesOf d e, szOf P e, aggOf P e with
      | some r, some z, some g => if z = r.length ∧ (g = false → z = 1) then some (List.flatten (List.replicate n r)) else none
      | _, _, _ => none
    | _ => none

def compOp (o : Oper) : Option AOp :=
  match o.op with
  | .move x => (compArg x).map .mov
  | .assign x => (compArg x).map .mov
  | .pick c a b => match compArg c, compArg a, compArg b with
    | some c, some a, some b => some (.pick c a b)
    | _, _, _ => none
  | .alloc t => (zeroOf P t).map .alloc
  | .box _ x => (compArg x).map .box
  | .build t parts => match zeroOf P t, P.underlying t with
    | some z, some (.struct fs) => match fieldPlaces P fs.toList with
      | some pl => (compParts (fun i => pl[i]?) parts.toList).map (.build z)
      | none => none
    | some z, some (.array _ e) => match szOf P e with
      | some n => (compParts (fun i => some (i * n, n)) parts.toList).map (.build z)
      | none => none
    | _, _ => none
  | .buildSlice t len parts => match P.underlying t with
    | some (.slice e) => match szOf P e, zeroOf P e with
      | some n, some z => if 0 < n ∧ z.length = n ∧ len * n ≤ 16777216 then (compParts (fun i => some (i * n, n)) parts.toList).map (.buildSlice n len (List.flatten (List.replicate len z))) else none
      | _, _ => none
    | _ => none
  | .load t x => match aggOf P t, szOf P t, compArg x with
    | some a, some n, some x => some (.load a (if a then n else 1) x)
    | _, _, _ => none
  | .store t a v => match szOf P t, compArg a, compArg v with
    | some n, some a, some v => some (.store n a v)
    | _, _, _ => none
  | .nilCheck x => (compArg x).map .nilCheck
  | .binOp op t x y _ => match compArg x, compArg y with
    | some x, some y => match P.underlying t with
      | some (.int _) => some (.bin op x y)
      | some (.float _) => some (.bin op x y)
      | some (.complex _) => some (.bin op x y)
      | some .string => some (.bin op x y)
      | some .bool => match op with
        | .eql => some (.eqBool false x y)
        | .neq => some (.eqBool true x y)
        | _ => none
      | some (.pointer _) => match op with
        | .eql => some (.eqNil .ptr false x y)
        | .neq => some (.eqNil .ptr true x y)
        | _ => none
      | some (.slice _) => match op with
        | .eql => some (.eqNil .slice false x y)
        | .neq => some (.eqNil .slice true x y)
        | _ => none
      | some (.func _ _ _) => match op with
        | .eql => some (.eqNil .func false x y)
        | .neq => some (.eqNil .func true x y)
        | _ => none
      | some (.map _ _) => match op with
        | .eql => some (.eqNil .map false x y)
        | .neq => some (.eqNil .map true x y)
        | _ => none
      | some (.struct _) => if P.eqGuardType P.depth t then none else match op, leavesOf P 20 t with
        | .eql, some l => some (.eqAgg false l x y)
        | .neq, some l => some (.eqAgg true l x y)
        | _, _ => none
      | some (.array _ _) => if P.eqGuardType P.depth t then none else match op, leavesOf P 20 t with
        | .eql, some l => some (.eqAgg false l x y)
        | .neq, some l => some (.eqAgg true l x y)
        | _, _ => none
      | _ => none
    | _, _ => none
  | .unOp op _ x => (compArg x).map (.un op)
  | .convert s d x => match compArg x, P.underlying s, P.underlying d with
    | some x, some (.int _), some (.int k) => some (.conv (.int k) x)
    | some x, some .string, some .string => some (.conv .same x)
    | some x, some (.int _), some (.float k) => some (.conv (.float k) x)
    | some x, some (.float _), some (.float k) => some (.conv (.float k) x)
    | _, _, _ => none
  | .makeFunc f a b => match compArgs a.toList, compArgs b.toList with
    | some a, some b => some (.makeFunc f a b)
    | _, _ => none
  | .makeSlice t l c => match P.underlying t with
    | some (.slice e) => match szOf P e, bytesOf_ P e, zeroOf P e, compArg l, compArg c with
      | some n, some b, some z, some l, some c => if 0 < n ∧ z.length = n then some (.makeSlice n b z l c) else none
      | _, _, _, _, _ => none
    | _ => none
  | .slice t x lo hi mx => match P.underlying t, compArg x, compOpt lo, compOpt hi, compOpt mx with
    | some (.slice e), some x, some lo, some hi, some mx => match szOf P e with
      | some n => if 0 < n then (match lo, hi, mx with
        | some lo, some hi, none => some (.sliceB n x lo hi)
        | _, _, _ => some (.slice n x lo hi mx)) else none
      | none => none
    | some .string, some x, some lo, some hi, some none => some (.sliceStr x lo hi)
    | _, _, _, _, _ => none
  | .fieldAddr t x i => match P.underlying t, compArg x with
    | some (.struct fs), some x => match fs[i]? with
      | some f => match szOf P f.type with
        | some n => if 0 < n then some (.fieldAddr f.offset x) else none
        | none => none
      | none => none
    | _, _ => none
  | .field t x i => match P.underlying t, compArg x with
    | some (.struct fs), some x => match fs[i]? with
      | some f => match aggOf P f.type, szOf P f.type with
        | some a, some n => some (.field a f.offset (if a then n else 1) x)
        | _, _ => none
      | none => none
    | _, _ => none
  | .indexAddr t x i => match compArg x, compArg i with
    | some x, some i => match P.underlying t with
      | some (.array n e) => match szOf P e with
        | some z => if 0 < z then some (.indexAddr (some n) z x i) else none
        | none => none
      | some (.slice e) => match szOf P e with
        | some z => if 0 < z then some (.indexAddr none z x i) else none
        | none => none
      | _ => none
    | _, _ => none
  | .index t x i => match compArg x, compArg i with
    | some x, some i => match P.underlying t with
      | some (.array n e) => match aggOf P e, szOf P e with
        | some a, some z => if a = false → z = 1 then some (.index a n z x i) else none
        | _, _ => none
      | some .string => some (.indexStr x i)
      | _ => none
    | _, _ => none
  | .extract x i => (compArg x).map fun x => .extract x i
  | .call c => match c.callee with
    | .value f => match compArg f, compArgs c.args.toList with
      | some f, some asq => some (.call f asq)
      | _, _ => none
    | .invoke _ _ => none
    | .builtin b => match b, compArgs c.args.toList, c.argTypes.toList with
      | .len, some [x], [t] => match P.underlying t with
        | some .string => some (.lenStr x)
        | some (.slice _) => some (.len x)
        | some (.array n _) => some (.lenC n)
        | _ => none
      | .cap, some [x], [t] => match P.underlying t with
        | some (.slice _) => some (.cap x)
        | _ => none
      | .append, some [a, x], [t, u] => match P.underlying t, P.underlying u with
        | some (.slice e), some (.slice _) => match szOf P e, bytesOf_ P e, zeroOf P e with
          | some n, some b, some z => if 0 < n ∧ 0 < b ∧ z.length = n then some (.append n b a x) else none
          | _, _, _ => none
        | some (.slice e), some (.int _) => match szOf P e, bytesOf_ P e, zeroOf P e with
          | some n, some b, some z => if 0 < n ∧ 0 < b ∧ z.length = n then some (.appendZeros n b z a x) else none
          | _, _, _ => none
        | _, _ => none
      | .copy, some [a, x], t :: _ => match P.underlying t with
        | some (.slice e) => match szOf P e with
          | some n => if 0 < n then some (.copy n a x) else none
          | none => none
        | _ => none
      | .clear, some [x], [t] => match P.underlying t with
        | some (.slice e) => match szOf P e, zeroOf P e with
          | some n, some z => if 0 < n ∧ z.length = n then some (.clear n z x) else none
          | _, _ => none
        | _ => none
      | .real, some [x], _ => some (.real false x)
      | .imag, some [x], _ => some (.real true x)
      | .complex, some [x, y], _ => some (.cplx x y)
      | .max, some xs, _ => some (.minmax true xs)
      | .min, some xs, _ => some (.minmax false xs)
      | _, _, _ => none
  | .makeInterface _ _ => some (.lenStr (.k (.sc (.bool false))))
  | .panic _ => some (.lenStr (.k (.sc (.bool false))))
  | _ => none

def dstOk (n : Nat) : Option Nat → Bool
  | some d => decide (d < n)
  | none => true
def compAO (ntmps : Nat) (ops : Array Oper) (before : Array Nat) (i : Nat) (o : Oper) : Option AO :=
  match compOp P o with
  | none => none
  | some op =>
    if dstOk ntmps o.dst = true then
      some { dst := o.dst, op := op, guard := o.guard.map fun g => ((ops[g.1]?).bind (·.dst), g.2), after := before.getD i 0 }
    else none
def compOs (ntmps : Nat) (ops : Array Oper) (before : Array Nat) : Nat → List Oper → Option (List AO)
  | _, [] => some []
  | i, o :: r => match compAO P ntmps ops before i o, compOs ntmps ops before (i + 1) r with
    | some a, some asq => some (a :: asq)
    | _, _ => none

/-- Each bit of what is told to come ahead is an edge's, or comes through one. -/
def okAfter (ops : Array Oper) (bf : Array Nat) : Bool :=
  ops.toList.zipIdx.all fun x => (List.range ops.size).all fun k => !(bf.getD x.2 0).testBit k || x.1.after.any fun e => Region.binds .any e && (e.on == k || (bf.getD e.on 0).testBit k)
def okEdges (ops : Array Oper) : Bool := ops.toList.zipIdx.all fun x => x.1.after.all fun e => !Region.binds .any e || decide (e.on < x.2)

def comp (ntmps : Nat) : Code → Option AC
  | .skip => some .skip
  | .region _ ops d =>
    match d with
    | true => if okEdges ops ∧ okAfter ops (Region.before ops) then (compOs P ntmps ops (Region.before ops) 0 ops.toList).map fun l => .reg l true else none
    | false => (compOs P ntmps ops #[] 0 ops.toList).map fun l => .reg l false
  | .seq a b => match comp ntmps a, comp ntmps b with
    | some a, some b => some (.seq a b)
    | _, _ => none
  | .cond c a b => match compArg c, comp ntmps a, comp ntmps b with
    | some c, some a, some b => some (.cond c a b)
    | _, _, _ => none
  | .block id c => (comp ntmps c).map (.blk id)
  | .loop c => (comp ntmps c).map .loop
  | .exit id => some (.exit id)
  | .scope c => (comp ntmps c).map .scope
  | .label _ => some .skip
  | .ret => some .ret
  | _ => none

def compRes : List ResultVar → Option (List AR)
  | [] => some []
  | .tmp t :: r => (compRes r).map (.tmp t :: ·)
  | .cell a t :: r => match aggOf P t, szOf P t, compRes r with
    | some g, some n, some l => some (.cell g (if g then n else 1) a :: l)
    | _, _, _ => none

def compFn (f : Func) : Option AFn :=
  match f.body with
  | none => none
  | some c => match comp P f.ntmps c, compRes P f.results.toList with
    | some c, some r => some { code := c, ntmps := f.ntmps, results := r }
    | _, _ => none
end
end Go.Am
