/- Each place's neighbours. -/
import Derived.Test.YtfaphhcloanhnaaRtC10
import Derived.Test.YtfaphhcloanhnaaAmTac
import Derived.Test.YtfaphhcloanhnaaRtDist
set_option linter.unusedSimpArgs false
set_option linter.unusedVariables false
namespace Go.Proofs.Ytfaphhcloanhnaa
open Go.Am Go.Ded Go.Dist
set_option maxRecDepth 4000
set_option maxHeartbeats 4000000
variable {E : Env} {L : Hp}
/-- Cells, each with its boxes: as P says of it, by its place. -/
inductive AllP : (Nat → AVal → Hp → Prop) → Nat → List AVal → Hp → Prop where
  | nil {P : Nat → AVal → Hp → Prop} {k : Nat} : AllP P k [] []
  | cons {P : Nat → AVal → Hp → Prop} {k : Nat} {v : AVal} {vs : List AVal} {B H : Hp} (h : P k v B) (hr : AllP P (k + 1) vs H) : AllP P k (v :: vs) (B ++ H)
theorem AllP.mono {P P' : Nat → AVal → Hp → Prop} {k : Nat} {vs : List AVal} {H : Hp} (h : AllP P k vs H) (hp : ∀ j v B, k ≤ j → P j v B → P' j v B) : AllP P' k vs H := by
  induction h with
  | nil => exact .nil
  | cons h hr ih => exact .cons (hp _ _ _ (Nat.le_refl _) h) (ih fun j v B hj => hp j v B (by omega))
theorem AllP.split {P : Nat → AVal → Hp → Prop} {k : Nat} {vs : List AVal} {H : Hp} (h : AllP P k vs H) : ∀ {i : Nat}, i < vs.length → ∃ v B H1 H2, vs[i]? = some v ∧ H = H1 ++ (B ++ H2) ∧ P (k + i) v B ∧
    ∀ (P' : Nat → AVal → Hp → Prop) v' B', P' (k + i) v' B' → (∀ j v B, k ≤ j → j ≠ k + i → P j v B → P' j v B) → AllP P' k (vs.set i v') (H1 ++ (B' ++ H2)) := by
  induction h with
  | nil => intro i hi; simp at hi
  | @cons k v vs B H h hr ih =>
    intro i hi
    cases i with
    | zero =>
      refine ⟨v, B, [], H, rfl, rfl, h, fun P' v' B' h' ho => ?_⟩
      exact .cons (B := B') h' (hr.mono fun j v B hj hp => ho j v B (by omega) (by omega) hp)
    | succ i =>
      obtain ⟨v0, B0, H1, H2, h1, h2, h3, h4⟩ := ih (i := i) (by simpa using hi)
      refine ⟨v0, B0, B ++ H1, H2, by simpa using h1, by rw [h2]; simp, by rw [show k + (i + 1) = k + 1 + i by omega]; exact h3, fun P' v' B' h' ho => ?_⟩
      rw [show k + (i + 1) = k + 1 + i by omega] at h' ho
      have := h4 P' v' B' h' fun j v B hj hne hp => ho j v B (by omega) hne hp
      simp only [List.set_cons_succ, List.append_assoc]
      exact .cons (ho _ _ _ (Nat.le_refl _) (by omega) h) this

/-- Place i's neighbours so far. -/
def RowN (ls : Nat → List Nat) (i : Nat) (v : AVal) (B : Hp) : Prop := BufO 1 v ((inat (ls i)).map aint) (ls i).length B
def addN (a b : Nat) (ls : Nat → List Nat) : Nat → List Nat := fun i => if i = a then ls i ++ [b] else ls i
theorem addN_same (a b : Nat) (ls : Nat → List Nat) : addN a b ls a = ls a ++ [b] := by simp [addN]
theorem addN_other {a b i : Nat} (ls : Nat → List Nat) (h : i ≠ a) : addN a b ls i = ls i := by simp [addN, h]
theorem RowN.add {a b id : Nat} {ls : Nat → List Nat} {v : AVal} {B : Hp} (h : RowN ls a v B) : RowN (addN a b ls) a (.sl id 0 ((ls a).length + 1) 1 none) [(id, (inat (ls a)).map aint ++ [aint b])] := by
  unfold RowN
  rw [addN_same, List.length_append, inat_app, List.map_append]
  exact h.pushed (nw := [aint b]) rfl rfl
theorem RowN.other {a b i : Nat} {ls : Nat → List Nat} {v : AVal} {B : Hp} (hne : i ≠ a) (h : RowN ls i v B) : RowN (addN a b ls) i v B := by
  unfold RowN
  rw [addN_other ls hne]
  exact h

theorem near_r5 {N a b io i5 : Nat} {ls : Nat → List Nat} {vs : List AVal} {H : Hp} {K : Tr AVal → Hp → Prop} {t : Tr AVal} (hN : N ≤ 64) (haN : a < N) (hvs : vs.length = N) (hlen : (ls a).length ≤ 2097152) (hall : AllP (RowN ls) 0 vs H)
    (h3 : t.get 3 = some (.sl io 0 N 1 (some N))) (h5 : t.get 5 = some (.ptr i5 0))
    (h : ∀ t' vs' H', Keep [1, 2, 3, 5, 12, 13, 14] t t' → vs'.length = N → AllP (RowN (addN a b ls)) 0 vs' H' → ∀ L1, Am.Sub ((i5, [aint a, aint b]) :: (io, vs') :: (H' ++ L)) L1 → K t' L1) :
    ∀ nx, DrO E 0 [] c_route_near_r5 t ((i5, [aint a, aint b]) :: (io, vs) :: (H ++ L)) nx K := by
  intro nx
  obtain ⟨v, B, H1, H2, hv, rfl, hP, hset⟩ := hall.split (i := a) (by omega)
  rw [Nat.zero_add] at hP hset
  have hb : BufO 1 v ((inat (ls a)).map aint) (ls a).length B := hP
  have hv' := hv
  rw [List.append_assoc, List.append_assoc]
  repeat (refine goy ?_)
  apply dro_push
  focus exact rslotq
  focus exact hb
  focus exact rslotq
  focus exact remq
  focus exact inq
  focus rfl
  focus rfl
  focus omega
  focus omega
  focus
    intro hfr
    have hq : ((false || !B.isEmpty) && [i5].any (B.map (·.1) ++ [nx]).contains) = false := by
      have h1 := hfr.1
      have h2 := hfr.2 (i5, [aint a, aint b]) (by simp)
      simp only [List.map_cons, List.nodup_cons, List.mem_cons, List.map_append, List.mem_append, not_or] at h1
      have h3 : i5 ∉ B.map (·.1) := h1.2.1.2.2.1
      have h4 : i5 ≠ nx := by simp only at h2; omega
      simp only [List.any_cons, List.any_nil, Bool.or_false, List.contains_eq_mem, List.mem_append, List.mem_singleton, h3, h4, or_self, decide_false, Bool.and_false]
    exact aptq
  have hvl : (vs.set a (.sl (nx + 1) 0 ((ls a).length + 1) 1 none)).length = N := by rw [List.length_set, hvs]
  repeat (refine goy ?_)
  refine h _ _ _ (by exact keepq) hvl (hset (RowN (addN a b ls)) _ _ (RowN.add (id := nx + 1) hP) fun j v B _ hne hp => hp.other hne) _ ?_
  rw [List.append_assoc, List.append_assoc]
  exact subq
theorem near_r6 {N a b io i5 : Nat} {ls : Nat → List Nat} {vs : List AVal} {H : Hp} {K : Tr AVal → Hp → Prop} {t : Tr AVal} (hN : N ≤ 64) (haN : a < N) (hvs : vs.length = N) (hlen : (ls a).length ≤ 2097152) (hall : AllP (RowN ls) 0 vs H)
    (h3 : t.get 3 = some (.sl io 0 N 1 (some N))) (h5 : t.get 5 = some (.ptr i5 0))
    (h : ∀ t' vs' H', Keep [1, 2, 3, 5, 12, 13, 14] t t' → vs'.length = N → AllP (RowN (addN a b ls)) 0 vs' H' → ∀ L1, Am.Sub ((i5, [aint b, aint a]) :: (io, vs') :: (H' ++ L)) L1 → K t' L1) :
    ∀ nx, DrO E 0 [] c_route_near_r6 t ((i5, [aint b, aint a]) :: (io, vs) :: (H ++ L)) nx K := by
  intro nx
  obtain ⟨v, B, H1, H2, hv, rfl, hP, hset⟩ := hall.split (i := a) (by omega)
  rw [Nat.zero_add] at hP hset
  have hb : BufO 1 v ((inat (ls a)).map aint) (ls a).length B := hP
  have hv' := hv
  rw [List.append_assoc, List.append_assoc]
  repeat (refine goy ?_)
  apply dro_push
  focus exact rslotq
  focus exact hb
  focus exact rslotq
  focus exact remq
  focus exact inq
  focus rfl
  focus rfl
  focus omega
  focus omega
  focus
    intro hfr
    have hq : ((false || !B.isEmpty) && [i5].any (B.map (·.1) ++ [nx]).contains) = false := by
      have h1 := hfr.1
      have h2 := hfr.2 (i5, [aint b, aint a]) (by simp)
      simp only [List.map_cons, List.nodup_cons, List.mem_cons, List.map_append, List.mem_append, not_or] at h1
      have h3 : i5 ∉ B.map (·.1) := h1.2.1.2.2.1
      have h4 : i5 ≠ nx := by simp only at h2; omega
      simp only [List.any_cons, List.any_nil, Bool.or_false, List.contains_eq_mem, List.mem_append, List.mem_singleton, h3, h4, or_self, decide_false, Bool.and_false]
    exact aptq
  have hvl : (vs.set a (.sl (nx + 1) 0 ((ls a).length + 1) 1 none)).length = N := by rw [List.length_set, hvs]
  repeat (refine goy ?_)
  refine h _ _ _ (by exact keepq) hvl (hset (RowN (addN a b ls)) _ _ (RowN.add (id := nx + 1) hP) fun j v B _ hne hp => hp.other hne) _ ?_
  rw [List.append_assoc, List.append_assoc]
  exact subq

/-- Each place's neighbours as they are met. -/
def adjL (ps : List (Nat × Nat)) : Nat → List Nat := ps.foldl (fun ls p => addN p.2 p.1 (addN p.1 p.2 ls)) fun _ => []
theorem adjL_snoc (ps : List (Nat × Nat)) (p : Nat × Nat) : adjL (ps ++ [p]) = addN p.2 p.1 (addN p.1 p.2 (adjL ps)) := by simp [adjL]
theorem addN_len (a b : Nat) (ls : Nat → List Nat) (i : Nat) : (addN a b ls i).length ≤ (ls i).length + 1 := by unfold addN; split <;> simp
theorem addN_mem (a b : Nat) (ls : Nat → List Nat) (i x : Nat) : x ∈ addN a b ls i ↔ x ∈ ls i ∨ (i = a ∧ x = b) := by
  unfold addN
  split
  · rename_i h; simp [h]
  · rename_i h; simp [h]
theorem adjL_take {ps : List (Nat × Nat)} {k : Nat} (h : k < ps.length) : adjL (ps.take (k + 1)) = addN (ps.getD k (0, 0)).2 (ps.getD k (0, 0)).1 (addN (ps.getD k (0, 0)).1 (ps.getD k (0, 0)).2 (adjL (ps.take k))) := by
  rw [List.take_succ_eq_append_getElem h, adjL_snoc]
  simp [h]
theorem adjL_len (ps : List (Nat × Nat)) : ∀ k i, k ≤ ps.length → (adjL (ps.take k) i).length ≤ 2 * k
  | 0, i, _ => by simp [adjL]
  | k + 1, i, h => by
    rw [adjL_take (by omega)]
    have h1 := adjL_len ps k i (by omega)
    have h2 := addN_len (ps.getD k (0, 0)).1 (ps.getD k (0, 0)).2 (adjL (ps.take k)) i
    have h3 := addN_len (ps.getD k (0, 0)).2 (ps.getD k (0, 0)).1 (addN (ps.getD k (0, 0)).1 (ps.getD k (0, 0)).2 (adjL (ps.take k))) i
    omega
theorem adjL_mem (ps : List (Nat × Nat)) : ∀ k i x, k ≤ ps.length → (x ∈ adjL (ps.take k) i ↔ Adj (ps.take k) i x)
  | 0, i, x, _ => by simp [adjL, Adj]
  | k + 1, i, x, h => by
    rw [adjL_take (by omega), addN_mem, addN_mem, adjL_mem ps k i x (by omega), List.take_succ_eq_append_getElem (by omega)]
    have e : ps.getD k (0, 0) = ps[k] := by simp [show k < ps.length by omega]
    rw [e]
    unfold Adj
    simp only [List.mem_append, List.mem_singleton, Prod.ext_iff]
    constructor
    · rintro ((( h | h) | h) | h)
      · exact .inl (.inl h)
      · exact .inr (.inl h)
      · exact .inl (.inr h)
      · exact .inr (.inr ⟨h.2, h.1⟩)
    · rintro ((h | h) | (h | h))
      · exact .inl (.inl (.inl h))
      · exact .inl (.inr h)
      · exact .inl (.inl (.inr h))
      · exact .inr ⟨h.2, h.1⟩

theorem near_l0 {N io i1 : Nat} {va : AVal} {ps : List (Nat × Nat)} (hN : N ≤ 64) (hps : ∀ k, k < ps.length → (ps.getD k (0, 0)).1 < N ∧ (ps.getD k (0, 0)).2 < N) (hva : SlN va ps) (hlt : ps.length ≤ 1000000) :
    ∀ (d k : Nat) (t : Tr AVal) (vs : List AVal) (H : Hp), d + k = ps.length → t.get 3 = some (.sl io 0 N 1 (some N)) → t.get 12 = some va → t.get 13 = some (aint ps.length) → t.get 14 = some (aint k) → vs.length = N → AllP (RowN (adjL (ps.take k))) 0 vs H →
    WpO E (.loop c_route_near_l0) t ((io, vs) :: (H ++ L)) (fun ex t' L' => ex = .exit 0 ∧ Keep [1, 2, 3] t t' ∧ ∃ vs' H', vs'.length = N ∧ AllP (RowN (adjL ps)) 0 vs' H' ∧ L' = (io, vs') :: (H' ++ L)) := by
  intro d
  induction d with
  | zero =>
    intro k t vs H hk h3 h12 h13 h14 hvs hall
    refine wo_loop ?_
    repeat (first | intro id | refine goq ?_)
    rw [List.take_of_length_le (by omega)] at hall
    exact ⟨rfl, by exact keepq, vs, H, hvs, hall, rfl⟩
  | succ d ih =>
    intro k t vs H hk h3 h12 h13 h14 hvs hall
    obtain ⟨ha, hb⟩ := hps k (by omega)
    have hl1 := adjL_len ps k (ps.getD k (0, 0)).1 (by omega)
    have hl2 := adjL_len ps k (ps.getD k (0, 0)).2 (by omega)
    have hl3 := addN_len (ps.getD k (0, 0)).1 (ps.getD k (0, 0)).2 (adjL (ps.take k)) (ps.getD k (0, 0)).2
    refine wo_loop ?_
    repeat (first | intro id | refine goq ?_)
    refine wo_drawn rfl (near_r5 (L := L) hN ha hvs (by omega) hall ?_ ?_ fun t1 vs1 H1 hK1 hvs1 hall1 L1 hs1 => ?_)
    · exact slotq
    · exact slotq
    refine seqO.n (WpO.weak ?_ hs1)
    have k3 : t1.get 3 = some (.sl io 0 N 1 (some N)) := (hK1.ex 3 rfl).trans (by exact slotq)
    have k5 : t1.get 5 = some (.ptr id 0) := (hK1.ex 5 rfl).trans (by exact slotq)
    have k12 : t1.get 12 = some va := (hK1.ex 12 rfl).trans (by exact slotq)
    have k13 : t1.get 13 = some (aint ps.length) := (hK1.ex 13 rfl).trans (by exact slotq)
    have k14 : t1.get 14 = some (aint k) := (hK1.ex 14 rfl).trans (by exact slotq)
    have hK1' : Keep [1, 2, 3] t t1 := Keep.trans (by exact keepq) (hK1.less rfl)
    clear hK1
    refine wo_drawn rfl (near_r6 (L := L) hN hb hvs1 (by omega) hall1 k3 k5 fun t2 vs2 H2 hK2 hvs2 hall2 L2 hs2 => ?_)
    have q3 : t2.get 3 = some (.sl io 0 N 1 (some N)) := (hK2.ex 3 rfl).trans k3
    have q12 : t2.get 12 = some va := (hK2.ex 12 rfl).trans k12
    have q13 : t2.get 13 = some (aint ps.length) := (hK2.ex 13 rfl).trans k13
    have q14 : t2.get 14 = some (aint k) := (hK2.ex 14 rfl).trans k14
    have hK2' : Keep [1, 2, 3] t t2 := Keep.trans hK1' (hK2.less rfl)
    clear hK2 h3 h12 h13 h14 k3 k5 k12 k13 k14
    repeat (first | intro id | refine goq ?_)
    rw [← adjL_take (by omega)] at hall2
    refine WpO.weak (WpO.mono (ih (k + 1) _ vs2 H2 ?_ ?_ ?_ ?_ ?_ hvs2 hall2) ?_) ?_
    · omega
    · exact slotq
    · exact slotq
    · exact slotq
    · exact slotq
    · rintro ex t' L' ⟨e1, e2, e3⟩
      exact ⟨e1, Keep.trans (by exact keepq) e2, e3⟩
    · exact Sub.trans (by exact subq) hs2
end Go.Proofs.Ytfaphhcloanhnaa
