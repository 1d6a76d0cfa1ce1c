/- A shortest path: the document's way. -/
import Derived.Test.YtfaphhcloanhnaaRtP1
set_option linter.unusedSimpArgs false
set_option linter.unusedVariables false
namespace Go.Proofs.Ytfaphhcloanhnaa
open Go.Am Go.Dist
set_option maxRecDepth 4000
set_option maxHeartbeats 4000000
variable {E : Env} {L : Hp}
theorem find_filter {α : Type} (p q : α → Bool) (l : List α) : (l.filter p).find? q = l.find? fun a => p a && q a := by
  induction l with
  | nil => rfl
  | cons x l ih =>
    rw [List.filter_cons, List.find?_cons]
    cases hp : p x with
    | true => simp only [if_true, List.find?_cons, ih, Bool.true_and]
    | false => simp only [Bool.false_eq_true, if_false, ih, Bool.false_and]
theorem getD_range {N j : Nat} (h : j < N) : (List.range N).getD j 0 = j := by simp [h]
theorem nxt_least {N a b k : Nat} {ps : List (Nat × Nat)} (hG : Good N ps) (hne : ∀ p ∈ ps, p.1 ≠ p.2) (ha : a < N) (hk : k < N) (h1 : D N ps a k = 1) (h2 : D N ps k b = D N ps a b - 1) (hno : ∀ j, j < k → ¬ (D N ps a j = 1 ∧ D N ps j b = D N ps a b - 1)) : nxt N ps b a = k := by
  have hone : ∀ x, x < N → ((ps.contains (a, x) || ps.contains (x, a)) = true ↔ D N ps a x = 1) := by
    intro x hx
    have := one_iff (hG.is a ha) ha hx (fun hadj e => by
      subst e
      rcases hadj with h | h <;> exact hne _ h rfl)
    unfold D
    rw [this]
    unfold Adj
    simp
  unfold nxt nbl
  rw [find_filter]
  have := find_first (fun x => (ps.contains (a, x) || ps.contains (x, a)) && decide (D N ps x b = D N ps a b - 1)) (List.range N) k (by simpa using hk) (by
    rw [getD_range hk, (hone k hk).2 h1, decide_eq_true h2]; rfl) fun j hj => by
    rw [getD_range (by omega)]
    have h3 := hno j hj
    by_cases c : D N ps a j = 1
    · rw [decide_eq_false fun h => h3 ⟨c, h⟩, Bool.and_false]
    · cases hc : (ps.contains (a, j) || ps.contains (j, a)) with
      | false => rfl
      | true => exact absurd ((hone j (by omega)).1 hc) c
  rw [this, getD_range hk]
  rfl
theorem step_loop {N a b : Nat} {ps : List (Nat × Nat)} {dv : AVal} {us : List AVal} (hst : still E c_phasorref20_step_r3 = true) (hG : Good N ps) (hne : ∀ p ∈ ps, p.1 ≠ p.2) (ha : a < N) (hb : b < N) (hab : a ≠ b) (r1 : RowA dv us N) (r2 : us.length = N) (r3 : ∀ j, j < N → ∃ u, us[j]? = some u ∧ SlI u (dist N ps j)) :
    ∀ (d k : Nat) (t : Tr AVal), d + k = N → t.get 0 = some dv → t.get 1 = some (aint a) → t.get 2 = some (aint b) → t.get 7 = some (aint k) → (∀ j, j < k → ¬ (D N ps a j = 1 ∧ D N ps j b = D N ps a b - 1)) →
    WpO E (.loop c_phasorref20_step_l0) t L (fun ex t' L' => ex = .ret ∧ t'.get 6 = some (aint ((nxt N ps b a : Nat) : Int)) ∧ L' = L) := by
  intro d
  obtain ⟨ua, ha1, ha2⟩ := r3 a ha
  have ha1' : (us.drop (a * 1))[0]? = some ua := by simpa using ha1
  have la := dist_len N ps a
  have hN := hG.hN
  have hcn := hG.conn a b ha hb
  unfold D at hcn
  induction d with
  | zero =>
    intro k t hk h0 h1 h2 h7 hno
    obtain rfl : k = N := by omega
    obtain ⟨x, hx, hadj, e⟩ := nearer adj_sym hG.is ha hb hab (hG.conn a b ha hb).1
    refine absurd ⟨?_, e⟩ (hno x hx)
    exact (one_iff (hG.is a ha) ha hx (fun hadj e => by
      subst e
      rcases hadj with h | h <;> exact hne _ h rfl)).2 hadj
  | succ d ih =>
    intro k t0 hk h0 h1 h2 h7 hno
    have hkN : k < N := by omega
    obtain ⟨uk, hk1, hk2⟩ := r3 k hkN
    have hk1' : (us.drop (k * 1))[0]? = some uk := by simpa using hk1
    have lk := dist_len N ps k
    have next : ¬ (D N ps a k = 1 ∧ D N ps k b = D N ps a b - 1) → ∀ j, j < k + 1 → ¬ (D N ps a j = 1 ∧ D N ps j b = D N ps a b - 1) := fun h j hj => by
      by_cases e : j = k
      · subst e; exact h
      · exact hno j (by omega)
    refine wo_loop ?_
    repeat (first | intro id | refine goq ?_)
    (refine oo_guard (by exact slotq) (fun hc => ?_) (fun hc => ?_) <;> (try simp only [hc]) <;> (try simp only [decide_eq_true_eq, decide_eq_false_iff_not, ne_eq, Decidable.not_not] at hc))
    · repeat (first | intro id | refine goq ?_)
      refine wo_cond_if (by exact slotq) (fun hc => ?_) (fun hc => ?_) <;> (try simp only [decide_eq_true_eq, decide_eq_false_iff_not, ne_eq, Decidable.not_not] at hc)
      · repeat (first | intro id | refine goq ?_)
        refine ⟨rfl, ?_, rfl⟩
        rw [nxt_least (k := k) hG hne ha hkN (by unfold D; assumption) (by unfold D; exact hc) hno]
        exact slotq
      · repeat (first | intro id | refine goq ?_)
        refine ih (k + 1) _ (by omega) ?_ ?_ ?_ ?_ (next fun h => hc h.2)
        · exact slotq
        · exact slotq
        · exact slotq
        · exact slotq
    · have hcc := hc
      repeat (first | intro id | refine goq ?_)
      refine ih (k + 1) _ (by omega) ?_ ?_ ?_ ?_ (next fun h => hcc h.1)
      · exact slotq
      · exact slotq
      · exact slotq
      · exact slotq
theorem step_ok (hF : E.fns = fnsT) (hm : E.mode f_phasorref20_step = .iso false) {N a b : Nat} {ps : List (Nat × Nat)} {dv : AVal} (hG : Good N ps) (hne : ∀ p ∈ ps, p.1 ≠ p.2) (ha : a < N) (hb : b < N) (hab : a ≠ b) (hd : SlS dv (dists N ps N)) :
    CallO E f_phasorref20_step [dv, aint a, aint b] L fun v L' => v = aint ((nxt N ps b a : Nat) : Int) ∧ L' = L := by
  refine callO_iso0 hm (fns_of hF n_phasorref20_step) (vs_bare hd.bare (vs_bare rfl (vs_bare rfl vs_nil))) ?_
  obtain ⟨us, r1, r2, r3⟩ := hd.row
  rw [dists_length] at r1 r2 r3
  refine bodyO_of (Nat.le_of_ble_eq_true rfl) ?_; generalize ht : argSlots _ 0 .nil = t; have h0 : t.get 0 = some _ := (by rw [← ht]; rfl); have h1 : t.get 1 = some _ := (by rw [← ht]; rfl); have h2 : t.get 2 = some _ := (by rw [← ht]; rfl); clear ht
  repeat (first | intro id | refine goq ?_)
  refine WpO.mono (step_loop rfl hG hne ha hb hab r1 r2 (fun j hj => by obtain ⟨u, e1, e2⟩ := r3 j hj; rw [dists_getD hj] at e2; exact ⟨u, e1, e2⟩) N 0 _ (by omega) ?_ ?_ ?_ ?_ (fun j hj => by omega)) ?_
  · exact slotq
  · exact slotq
  · exact slotq
  · exact slotq
  rintro ex t1 L' ⟨rfl, h6, rfl⟩
  repeat (first | intro id | refine goq ?_)
  ((first | apply retO_r | apply retO_n); (focus (exact resq)))
  exact ⟨rfl, rfl⟩

theorem refPath_loop (hF : E.fns = fnsT) (hms : E.mode f_phasorref20_step = .iso false) {N b : Nat} {ps : List (Nat × Nat)} {dv : AVal} (hG : Good N ps) (hne : ∀ p ∈ ps, p.1 ≠ p.2) (hb : b < N) (hd : SlS dv (dists N ps N)) :
    ∀ (n a : Nat) (t : Tr AVal) (acc : List Nat) (iw : Nat) (cap : Option Nat), a < N → D N ps a b = n → acc.length + n ≤ 1000 → t.get 1 = some (aint a) → t.get 2 = some (aint b) → t.get 8 = some dv → t.get 9 = some (.sl iw 0 acc.length 1 cap) →
    WpO E (.loop c_phasorref20_Path_l0) t ((iw, (inat acc).map aint) :: L) (fun ex t' L' => ex = .exit 0 ∧ ∃ iw' cap', t'.get 9 = some (.sl iw' 0 (acc ++ pathFrom N ps b n a).length 1 cap') ∧ L' = (iw', (inat (acc ++ pathFrom N ps b n a)).map aint) :: L) := by
  intro n
  induction n with
  | zero =>
    intro a t acc iw cap ha hD hl h1 h2 h8 h9
    have hab : a = b := (hG.zero ha hb).1 hD
    refine wo_loop ?_
    repeat (first | intro id | refine goq ?_)
    refine ⟨rfl, iw, cap, ?_, ?_⟩
    · simp only [pathFrom, List.append_nil]; exact slotq
    · simp only [pathFrom, List.append_nil]
  | succ n ih =>
    intro a t0 acc iw cap ha hD hl h1 h2 h8 h9
    have hab : a ≠ b := by rintro rfl; have := (hG.zero ha ha).2 rfl; omega
    obtain ⟨hx1, hx2⟩ := hG.nxt ha hb hab
    have hxN := (nbl_mem.1 hx1).1
    have hsg : seg ((inat acc).map aint) 0 (acc.length * 1) = some ((inat acc).map aint) := by rw [Nat.mul_one]; exact seg_full (by simp [inat])
    refine wo_loop ?_
    repeat (first | intro id | refine goq ?_)
    refine gok ?_
    refine (step_ok hF hms hG hne ha hb hab hd).mono ?_
    rintro r L' ⟨rfl, rfl⟩
    repeat (first | intro id | refine goq ?_)
    have hcell : (inat acc).map aint ++ [aint ((nxt N ps b a : Nat) : Int)] = (inat (acc ++ [nxt N ps b a])).map aint := by
      rw [inat_app, List.map_append]; rfl
    rw [hcell]
    refine WpO.weak (WpO.mono (ih (nxt N ps b a) _ (acc ++ [nxt N ps b a]) id none hxN ?_ ?_ ?_ ?_ ?_ ?_) ?_) ?_
    rotate_left 6
    · rintro ex t' L' ⟨e1, iw', cap', e2, e3⟩
      rw [List.append_assoc] at e2 e3
      exact ⟨e1, iw', cap', e2, e3⟩
    · exact subq
    · rw [hx2]; omega
    · rw [List.length_append]; simp only [List.length_singleton]; omega
    · exact slotq
    · exact slotq
    · exact slotq
    · rw [List.length_append]; exact slotq
theorem npairs_ne {N : Int} {ps : List (Int × Int)} (h : okAll N ps) : ∀ p ∈ npairs ps, p.1 ≠ p.2 := by
  intro p hp
  obtain ⟨q, hq, rfl⟩ := List.mem_map.1 hp
  obtain ⟨k, hk, e⟩ := List.getElem_of_mem hq
  have := h k hk
  simp only [List.getD_eq_getElem?_getD, List.getElem?_eq_getElem hk, Option.getD_some, e] at this
  unfold okP at this
  simp only
  omega
theorem refPath_ok (hF : E.fns = fnsT) (hm : E.mode f_phasorref20_Path = .iso true) (hms : E.mode f_phasorref20_step = .iso false) (hmR : E.mode f_phasorref20_Right = .iso false) (hmf : E.mode f_phasorref20_far = .iso true)
    {N a b : Int} {s : AVal} {ps : List (Int × Int)} (hs : SlP s ps) (hlt : ps.length ≤ 1000000) :
    CallO E f_phasorref20_Path [.agg [aint N, s], aint a, aint b] L fun v L' => PathR N a b ps v ∧ L' = L := by
  refine callO_iso1 hm (fns_of hF n_phasorref20_Path) ?_ ?_
  · simp only [List.all_cons, List.all_nil, bare_MapA ⟨s, rfl, hs⟩]; rfl
  have hs1 := hs.isOne
  refine bodyO_of (Nat.le_of_ble_eq_true rfl) ?_; generalize ht : argSlots _ 0 .nil = t; have h0 : t.get 0 = some _ := (by rw [← ht]; rfl); have h1 : t.get 1 = some _ := (by rw [← ht]; rfl); have h2 : t.get 2 = some _ := (by rw [← ht]; rfl); clear ht
  repeat (first | intro id | refine goq ?_)
  refine gok ?_
  refine (Right_ok hF hmR hmf hs (by omega)).mono ?_
  rintro u L' ⟨⟨bb, rfl, hbb⟩, rfl⟩
  cases bb with
  | true =>
    have hR := hbb.1 rfl
    obtain ⟨M, rfl⟩ : ∃ k : Nat, N = k := ⟨N.toNat, by have := hR.n1; omega⟩
    have hG := good_of hR
    have hnp := npairs_length ps
    have done : ¬ inR M a b → ∀ (L2 : Hp), ∃ u, ViewO L2 64 (.tup [anil, aint 2]) u ∧ PathR M a b ps u := fun h L2 => ⟨_, vo_tup (vl_cons vo_sc (vl_cons vo_sc vl_nil)), .mk (.inr (.inl ⟨hR, h, rfl⟩))⟩
    by_cases c1 : a < 0
    · repeat (first | intro id | refine goq ?_)
      ((first | apply retO_r | apply retO_n); (focus (exact resq)))
      exact done (fun h => by unfold inR at h; omega) _
    by_cases c2 : (M : Int) ≤ a
    · repeat (first | intro id | refine goq ?_)
      ((first | apply retO_r | apply retO_n); (focus (exact resq)))
      exact done (fun h => by unfold inR at h; omega) _
    by_cases c3 : b < 0
    · repeat (first | intro id | refine goq ?_)
      ((first | apply retO_r | apply retO_n); (focus (exact resq)))
      exact done (fun h => by unfold inR at h; omega) _
    by_cases c4 : (M : Int) ≤ b
    · repeat (first | intro id | refine goq ?_)
      ((first | apply retO_r | apply retO_n); (focus (exact resq)))
      exact done (fun h => by unfold inR at h; omega) _
    obtain ⟨x, rfl⟩ : ∃ k : Nat, a = k := ⟨a.toNat, by omega⟩
    obtain ⟨y, rfl⟩ : ∃ k : Nat, b = k := ⟨b.toNat, by omega⟩
    have hcn := hG.conn x y (by omega) (by omega)
    have hN := hG.hN
    repeat (first | intro id | refine goq ?_)
    refine gok ?_
    refine (far_ok hF hmf hG.hN (npairs_lt hR.ok) (SlP_N hR.ok hs) (by omega)).mono ?_
    rintro dv L' ⟨hd, rfl⟩
    repeat (first | intro id | refine goq ?_)
    refine WpO.mono (refPath_loop (b := y) hF hms hG (npairs_ne hR.ok) (by omega) hd (D M (npairs ps) x y).toNat x _ [x] id (some 1) (by omega) (by omega) (by simp only [List.length_singleton]; omega) ?_ ?_ ?_ ?_) ?_
    · exact slotq
    · exact slotq
    · exact slotq
    · exact slotq
    rintro ex t1 L' ⟨rfl, iw, cap, g9, rfl⟩
    repeat (first | intro id | refine goq ?_)
    ((first | apply retO_r | apply retO_n); (focus (exact resq)))
    exact ⟨_, vo_tup (vl_cons (vo_sl .here (by rw [Nat.mul_one]; exact seg_full (by simp [inat])) (vl_sc (sc_ints _))) (vl_cons vo_sc vl_nil)), .mk (.inr (.inr ⟨hR, by unfold inR; omega, _, rfl, .inr ⟨cap, by rw [inat_length]; rfl⟩⟩))⟩
  | false =>
    have hR : ¬ RightP N ps := fun h => by have := hbb.2 h; cases this
    repeat (first | intro id | refine goq ?_)
    ((first | apply retO_r | apply retO_n); (focus (exact resq)))
    exact ⟨_, vo_tup (vl_cons vo_sc (vl_cons vo_sc vl_nil)), .mk (.inl ⟨hR, rfl⟩)⟩
end Go.Proofs.Ytfaphhcloanhnaa

/- Steps between all places, told; what is told is written over. -/
namespace Go.Proofs.Ytfaphhcloanhnaa
open Go.Am Go.Dist
set_option maxRecDepth 4000
set_option maxHeartbeats 4000000
variable {E : Env} {L : Hp}
theorem vo_SlS {k : Nat} {v : AVal} {ls : List (List Int)} (h : SlS v ls) : ViewO L (k + 1) v v := by
  have hb := h.bare
  obtain ⟨us, h1, -, -⟩ := h
  rcases h1 with ⟨rfl, -, -⟩ | ⟨cap, rfl⟩
  · exact ⟨fun m hm => rfl⟩
  · exact ⟨fun m hm => by simp only [view, hb, if_true]⟩
/-- What the program tells of steps. -/
theorem Far_ok (hF : E.fns = fnsT) (hm : E.mode f_route_Far = .open_)
    (hmC : E.mode f_route_Check = .iso false) (hmn : E.mode f_route_near = .iso true) (hms : E.mode f_slices_Sort_int_int = .known) (hk : E.known f_slices_Sort_int_int = knSort) (hmc : E.mode f_slices_Compact_int_int = .open_) (hmst : E.mode f_route_steps = .open_) (hmco : E.mode f_slices_Contains_int_int = .iso false) (hmix : E.mode f_slices_Index_int_int = .iso false) (hmf : E.mode f_route_far = .open_)
    {N : Int} {s : AVal} {ps : List (Int × Int)} (hs : SlP s ps) (hlt : ps.length ≤ 1000000) :
    CallO E f_route_Far [.agg [aint N, s]] L fun v L' => (¬ RightP N ps ∧ v = .tup [anil, aint 200] ∧ L' = L) ∨ (RightP N ps ∧ ∃ d B, v = .tup [d, aint 0] ∧ FarO N.toNat (npairs ps) d B ∧ L' = B ++ L) := by
  refine CallO.to (callO_open hm (fns_of hF n_route_Far) ?_)
  have hs1 := hs.isOne
  refine bodyO_of (Nat.le_of_ble_eq_true rfl) ?_; generalize ht : argSlots _ 0 .nil = t; have h0 : t.get 0 = some _ := (by rw [← ht]; rfl); clear ht
  repeat (first | intro id | refine goq ?_)
  refine gok ?_
  refine (Check_ok hF hmC hmn hms hk hmc (stepsC_open hF hmst) hmco hmix hs hlt).mono ?_
  rintro u L' ⟨⟨e, rfl, he, he2⟩, rfl⟩
  rcases he2 with rfl | rfl
  · have hR := he.1 rfl
    obtain ⟨M, rfl⟩ : ∃ k : Nat, N = k := ⟨N.toNat, by have := hR.n1; omega⟩
    have hG := good_of hR
    have hnp := npairs_length ps
    repeat (first | intro id | refine goq ?_)
    refine gok ?_
    refine (near_ok hF hmn hms hk hmc hG.hN (npairs_lt hR.ok) (SlP_N hR.ok hs) (by omega)).mono ?_
    rintro nv L' ⟨hn, rfl⟩
    repeat (first | intro id | refine goq ?_)
    refine gok ?_
    refine (far_open hF hmf hmst hG.hN (npairs_lt hR.ok) hn).mono ?_
    rintro w L' ⟨B, hw, rfl⟩
    repeat (first | intro id | refine goq ?_)
    ((first | apply retO_r | apply retO_n); (focus (exact resq)))
    exact ⟨B ++ L, by exact subq, .inr ⟨hR, w, B, rfl, hw, rfl⟩⟩
  · have hR : ¬ RightP N ps := fun h => by have := he.2 h; omega
    repeat (first | intro id | refine goq ?_)
    ((first | apply retO_r | apply retO_n); (focus (exact resq)))
    exact ⟨L, by exact subq, .inl ⟨hR, rfl, rfl⟩⟩
theorem refFar_ok (hF : E.fns = fnsT) (hm : E.mode f_phasorref20_Far = .iso true) (hmR : E.mode f_phasorref20_Right = .iso false) (hmf : E.mode f_phasorref20_far = .iso true)
    {N : Int} {s : AVal} {ps : List (Int × Int)} (hs : SlP s ps) (hlt : ps.length ≤ 1000000) :
    CallO E f_phasorref20_Far [.agg [aint N, s]] L fun v L' => ((¬ RightP N ps ∧ v = .tup [anil, aint 200]) ∨ (RightP N ps ∧ ∃ d, v = .tup [d, aint 0] ∧ SlS d (dists N.toNat (npairs ps) N.toNat))) ∧ L' = L := by
  refine callO_iso1 (R := fun v => (¬ RightP N ps ∧ v = .tup [anil, aint 200]) ∨ (RightP N ps ∧ ∃ d, v = .tup [d, aint 0] ∧ SlS d (dists N.toNat (npairs ps) N.toNat))) hm (fns_of hF n_phasorref20_Far) ?_ ?_
  · simp only [List.all_cons, List.all_nil, bare_MapA ⟨s, rfl, hs⟩]; rfl
  have hs1 := hs.isOne
  refine bodyO_of (Nat.le_of_ble_eq_true rfl) ?_; generalize ht : argSlots _ 0 .nil = t; have h0 : t.get 0 = some _ := (by rw [← ht]; rfl); clear ht
  repeat (first | intro id | refine goq ?_)
  refine gok ?_
  refine (Right_ok hF hmR hmf hs (by omega)).mono ?_
  rintro u L' ⟨⟨bb, rfl, hbb⟩, rfl⟩
  cases bb with
  | true =>
    have hR := hbb.1 rfl
    obtain ⟨M, rfl⟩ : ∃ k : Nat, N = k := ⟨N.toNat, by have := hR.n1; omega⟩
    have hG := good_of hR
    have hnp := npairs_length ps
    repeat (first | intro id | refine goq ?_)
    refine gok ?_
    refine (far_ok hF hmf hG.hN (npairs_lt hR.ok) (SlP_N hR.ok hs) (by omega)).mono ?_
    rintro dv L' ⟨hd, rfl⟩
    repeat (first | intro id | refine goq ?_)
    ((first | apply retO_r | apply retO_n); (focus (exact resq)))
    exact ⟨_, vo_tup (vl_cons (vo_SlS hd) (vl_cons vo_sc vl_nil)), .inr ⟨hR, dv, rfl, hd⟩⟩
  | false =>
    have hR : ¬ RightP N ps := fun h => by have := hbb.2 h; cases this
    repeat (first | intro id | refine goq ?_)
    ((first | apply retO_r | apply retO_n); (focus (exact resq)))
    exact ⟨_, vo_tup (vl_cons vo_sc (vl_cons vo_sc vl_nil)), .inl ⟨hR, rfl⟩⟩

/-- One row out of many, and another in its place. -/
theorem RowsO.pick {cs : List AVal} {ls : List (List Int)} {H : Hp} (h : RowsO cs ls H) : ∀ j, j < ls.length → ∃ id cap A B, cs[j]? = some (.sl id 0 (ls.getD j []).length 1 cap) ∧ H = A ++ (id, (ls.getD j []).map aint) :: B ∧ ∀ l', l'.length = (ls.getD j []).length → RowsO cs (ls.set j l') (A ++ (id, l'.map aint) :: B) := by
  induction h with
  | nil => intro j hj; simp at hj
  | @snoc cs ls H id n cap l h hn ih =>
    intro j hj
    have hlen := (RowsO.one h).2
    by_cases e : j < ls.length
    · obtain ⟨id', cap', A, B, h1, h2, h3⟩ := ih j e
      have hg : (ls ++ [l]).getD j [] = ls.getD j [] := by simp [List.getElem?_append_left e]
      refine ⟨id', cap', A, B ++ [(id, l.map aint)], ?_, ?_, fun l' hl' => ?_⟩
      · rw [hg, List.getElem?_append_left (by omega)]; exact h1
      · rw [hg, h2, List.append_assoc, List.cons_append]
      · rw [hg] at hl'
        have := (h3 l' hl').snoc (id := id) (cap := cap) hn
        rw [List.set_append_left _ _ e]
        rw [List.append_assoc, List.cons_append] at this
        exact this
    · have e2 : j = ls.length := by rw [List.length_append] at hj; simp only [List.length_singleton] at hj; omega
      subst e2
      have hg : (ls ++ [l]).getD ls.length [] = l := by simp
      rw [hg]
      refine ⟨id, cap, H, [], ?_, rfl, fun l' hl' => ?_⟩
      · rw [List.getElem?_append_right (by omega)]; simp [hlen, hn]
      · rw [List.set_append_right _ _ (by omega), Nat.sub_self, List.set_cons_zero]
        exact h.snoc (hl'.trans hn)

theorem paths_l0 {N i idr ib : Nat} {cap : Option Nat} {cs : List AVal} {A B : Hp} (hN : N ≤ 64) (hi : i < N) (hcs : cs[i]? = some (.sl idr 0 N 1 cap)) :
    ∀ (d k : Nat) (t : Tr AVal) (l : List Int), d + k = N → l.length = N → t.get 8 = some (.sl ib 0 N 1 none) → t.get 12 = some (aint i) → t.get 13 = some (aint k) →
    WpO E (.loop c_phasorlaw20_RoutePaths_l0) t ((ib, cs) :: (A ++ (idr, l.map aint) :: B)) (fun ex t' L' => ex = .exit 4 ∧ Keep [1, 2, 3, 7, 8, 10, 12] t t' ∧ ∃ l' : List Int, l'.length = N ∧ L' = (ib, cs) :: (A ++ (idr, l'.map aint) :: B)) := by
  intro d
  induction d with
  | zero =>
    intro k t l hk hl h8 h12 h13
    refine wo_loop ?_
    repeat (first | intro id | refine goq ?_)
    exact ⟨rfl, by exact keepq, l, hl, rfl⟩
  | succ d ih =>
    intro k t l hk hl h8 h12 h13
    refine wo_loop ?_
    repeat (first | intro id | refine goq ?_)
    refine WpO.mono (ih (k + 1) _ (l.set k 77) ?_ ?_ ?_ ?_ ?_) ?_
    · omega
    · rw [List.length_set]; exact hl
    · exact slotq
    · exact slotq
    · exact slotq
    · rintro ex t' L' ⟨e1, e2, e3⟩
      exact ⟨e1, Keep.trans (by exact keepq) e2, e3⟩
theorem paths_l1 (hF : E.fns = fnsT) (hmi : E.mode f_phasorlaw20_ints = .iso false) (hst : still E c_phasorlaw20_RoutePaths_r9 = true) {N ib : Nat} {wv : AVal} {cs : List AVal} {dl : List (List Int)} (hN : N ≤ 64) (hw : SlS wv dl) (hdl : dl.length = N) (hdr : ∀ j, j < N → (dl.getD j []).length = N) :
    ∀ (d i : Nat) (t : Tr AVal) (ls : List (List Int)) (H : Hp), d + i = N → ls.length = N → (∀ j, i ≤ j → j < N → ls.getD j [] = dl.getD j []) → RowsO cs ls H → t.get 8 = some (.sl ib 0 N 1 none) → t.get 10 = some wv → t.get 12 = some (aint i) →
    WpO E (.loop c_phasorlaw20_RoutePaths_l1) t ((ib, cs) :: (H ++ L)) (fun ex t' L' => ex = .exit 2 ∧ Keep [1, 2, 3, 7] t t' ∧ ∃ H', L' = (ib, cs) :: (H' ++ L)) := by
  obtain ⟨us, r1, r2, r3⟩ := hw.row
  rw [hdl] at r1 r2 r3
  intro d
  induction d with
  | zero =>
    intro i t ls H hi hl heq hr h8 h10 h12
    refine wo_loop ?_
    repeat (first | intro id | refine goq ?_)
    exact ⟨rfl, by exact keepq, H, rfl⟩
  | succ d ih =>
    intro i t0 ls H hi hl heq hr h8 h10 h12
    obtain ⟨idr, cap, A, B, p1, rfl, p3⟩ := RowsO.pick hr i (by omega)
    rw [heq i (by omega) (by omega), hdr i (by omega)] at p1 p3
    rw [heq i (by omega) (by omega)]
    rw [List.append_assoc, List.cons_append]
    obtain ⟨u, hu1, hu2⟩ := r3 i (by omega)
    have hu1' : (us.drop (i * 1))[0]? = some u := by simpa using hu1
    have hlr := hdr i (by omega)
    refine wo_loop ?_
    repeat (first | intro id | refine goq ?_)
    refine gok ?_
    refine (ints_ok hF hmi (vs_view rfl (vo_sl (by exact inq) (by rw [Nat.mul_one]; exact seg_full (by rw [List.length_map]; exact hlr)) (vl_sc (sc_ints _))) (vs_bare (bare_SlI hu2) vs_nil)) (.inr ⟨cap, by rw [hlr]⟩) hu2 (by omega)).mono ?_
    rintro r L' ⟨rfl, rfl⟩
    rw [decide_eq_true rfl]
    repeat (first | intro id | refine goq ?_)
    refine WpO.mono (paths_l0 (A := A) (B := B ++ L) hN (by omega) p1 N 0 _ (dl.getD i []) (by omega) hlr ?_ ?_ ?_) ?_
    · exact slotq
    · exact slotq
    · exact slotq
    rintro ex t1 L' ⟨rfl, hK, l', hl', rfl⟩
    have g8 : t1.get 8 = some (.sl ib 0 N 1 none) := (hK.ex 8 rfl).trans (by exact slotq)
    have g10 : t1.get 10 = some wv := (hK.ex 10 rfl).trans (by exact slotq)
    have g12 : t1.get 12 = some (aint i) := (hK.ex 12 rfl).trans (by exact slotq)
    repeat (first | intro id | refine goq ?_)
    have hr' := p3 l' hl'
    rw [show A ++ (idr, List.map aint l') :: (B ++ L) = (A ++ (idr, List.map aint l') :: B) ++ L by rw [List.append_assoc, List.cons_append]]
    refine WpO.mono (ih (i + 1) _ (ls.set i l') _ ?_ ?_ ?_ hr' ?_ ?_ ?_) ?_
    · omega
    · rw [List.length_set]; exact hl
    · intro j h1 h2
      rw [← heq j (by omega) h2]
      simp only [List.getD_eq_getElem?_getD, List.getElem?_set_ne (show i ≠ j by omega)]
    · exact slotq
    · exact slotq
    · exact slotq
    rintro ex t' L' ⟨e1, e2, e3⟩
    exact ⟨e1, Keep.trans (Keep.trans (Keep.trans (by exact keepq) (hK.less rfl)) (by exact keepq)) e2, e3⟩
end Go.Proofs.Ytfaphhcloanhnaa

