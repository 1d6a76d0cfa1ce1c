/- Parts of the proof, joined by program: RtP1, RtP2, LaLF, LaLG, CiCC, AmFrs, LaLS. -/
import Derived.Test.YtfaphhcloanhnaaPa22
import Derived.Test.YtfaphhcloanhnaaPa10
import Derived.Test.YtfaphhcloanhnaaPa9
import Derived.Test.YtfaphhcloanhnaaPa6
import Derived.Test.YtfaphhcloanhnaaPa19
set_option linter.unusedSimpArgs false
set_option linter.unusedVariables false
namespace Go.Proofs.Ytfaphhcloanhnaa
open Go.Am Go.Dist
set_option maxRecDepth 4000
set_option maxHeartbeats 4000000
variable {E : Env} {L : Hp}
theorem mem_lt {N : Nat} {ps : List (Nat × Nat)} (hps : ∀ k, k < ps.length → (ps.getD k (0, 0)).1 < N ∧ (ps.getD k (0, 0)).2 < N) : ∀ p ∈ ps, p.1 < N ∧ p.2 < N := by
  intro p hp
  obtain ⟨k, hk, e⟩ := List.getElem_of_mem hp
  have := hps k hk
  simpa [hk, e] using this
/-- A slice of slices, in boxes. -/
structure FarO (N : Nat) (ps : List (Nat × Nat)) (v : AVal) (B : Hp) : Prop where
  ex : ∃ cs B1 H, BufO 1 v cs N B1 ∧ RowsO cs (dists N ps N) H ∧ B = B1 ++ H
end Go.Proofs.Ytfaphhcloanhnaa

/- A shortest path, by a function that is looked with. -/
namespace Go.Proofs.Ytfaphhcloanhnaa
open Go.Am Go.Dist
set_option maxRecDepth 4000
set_option maxHeartbeats 4000000
variable {E : Env} {L : Hp}
theorem vo_fn {k : Nat} {g : Fn} {a b a' b' : List AVal} (h1 : ViewL L k a a') (h2 : ViewL L k b b') : ViewO L (k + 1) (.fn g a b) (.fn g a' b') := ⟨fun m hm => by simp only [view, h1.ex m hm, h2.ex m hm]⟩
theorem vo_ptr {k id off : Nat} {cs us : List AVal} (hi : In id cs L) (ho : off ≤ cs.length) (h : ViewL L k (cs.drop off) us) : ViewO L (k + 1) (.ptr id off) (.ro us) := ⟨fun m hm => by simp only [view, hm.get hi, ho, if_true, h.ex m hm, Option.map_some]⟩
/-- Where p first holds. -/
structure IdxP (l : List Int) (p : Int → Bool) (i : Int) : Prop where
  lo : i = -1 ∨ 0 ≤ i
  no : i < 0 → ∀ j, j < l.length → p (l.getD j 0) = false
  yes : 0 ≤ i → i.toNat < l.length ∧ p (l.getD i.toNat 0) = true ∧ ∀ j, j < i.toNat → p (l.getD j 0) = false
theorem indexf_loop {g : FuncId} {cv : List AVal} {v : AVal} {l : List Int} {p : Int → Bool} (hv : SlI v l) (hlt : l.length < 2 ^ 62) (hc : ∀ j, j < l.length → CallO E g ([aint (l.getD j 0)] ++ cv) L fun r L' => r = abool (p (l.getD j 0)) ∧ L' = L) :
    ∀ (d k : Nat) (t : Tr AVal), d + k = l.length → t.get 0 = some v → t.get 1 = some (.fn (.func g) [] cv) → t.get 7 = some (aint l.length) → t.get 8 = some (aint k) → (∀ j, j < k → p (l.getD j 0) = false) →
    WpO E (.loop c_slices_IndexFunc_int_int_l0) t L (fun ex t' L' => L' = L ∧ ((ex = .exit 0 ∧ ∀ j, j < l.length → p (l.getD j 0) = false) ∨ (ex = .ret ∧ ∃ i, t'.get 4 = some (aint i) ∧ IdxP l p i))) := by
  intro d
  induction d with
  | zero =>
    intro k t hk h0 h1 h7 h8 hno
    refine wo_loop ?_
    repeat (first | intro id | refine goq ?_)
    exact ⟨rfl, .inl ⟨rfl, fun j hj => hno j (by omega)⟩⟩
  | succ d ih =>
    intro k t hk h0 h1 h7 h8 hno
    refine wo_loop ?_
    repeat (first | intro id | refine goq ?_)
    apply oo_cv
    focus exact wanted_none
    focus exact slotq
    focus (repeat (first | exact argAll_nil | (apply argAll_cons; (focus exact slotq))))
    refine (hc k (by omega)).mono ?_
    rintro r L' ⟨rfl, rfl⟩
    cases hp : p (l.getD k 0) with
    | true =>
      repeat (first | intro id | refine goq ?_)
      exact ⟨rfl, .inr ⟨rfl, k, by exact slotq, .inr (by omega), fun h => by omega, fun _ => ⟨by omega, hp, fun j hj => hno j (by omega)⟩⟩⟩
    | false =>
      repeat (first | intro id | refine goq ?_)
      refine ih (k + 1) _ ?_ ?_ ?_ ?_ ?_ ?_
      · omega
      · exact slotq
      · exact slotq
      · exact slotq
      · exact slotq
      · intro j hj
        by_cases e : j = k
        · subst e; exact hp
        · exact hno j (by omega)
theorem indexf_ok (hF : E.fns = fnsT) (hm : E.mode f_slices_IndexFunc_int_int = .iso false) {g : FuncId} {args cv : List AVal} {v : AVal} {l : List Int} {p : Int → Bool} (hw : ViewsO L args [v, .fn (.func g) [] cv]) (hv : SlI v l) (hlt : l.length < 2 ^ 62)
    (hc : ∀ j, j < l.length → CallO E g ([aint (l.getD j 0)] ++ cv) [] fun r L' => r = abool (p (l.getD j 0)) ∧ L' = []) :
    CallO E f_slices_IndexFunc_int_int args L fun r L' => (∃ i, r = aint i ∧ IdxP l p i) ∧ L' = L := by
  refine callO_iso0 (R := fun r => ∃ i, r = aint i ∧ IdxP l p i) hm (fns_of hF n_slices_IndexFunc_int_int) hw ?_
  refine bodyO_of (Nat.le_of_ble_eq_true rfl) ?_; generalize ht : argSlots _ 0 .nil = t; have h0 : t.get 0 = some _ := (by rw [← ht]; rfl); have h1 : t.get 1 = some _ := (by rw [← ht]; rfl); clear ht
  repeat (first | intro id | refine goq ?_)
  refine WpO.mono (indexf_loop (p := p) hv hlt hc l.length 0 _ (by omega) ?_ ?_ ?_ ?_ (fun j hj => by omega)) ?_
  · exact slotq
  · exact slotq
  · exact slotq
  · exact slotq
  rintro ex t1 L' ⟨rfl, ⟨rfl, hno⟩ | ⟨rfl, i, h4, hi⟩⟩
  · repeat (first | intro id | refine goq ?_)
    ((first | apply retO_r | apply retO_n); (focus (exact resq)))
    exact ⟨rfl, -1, rfl, .inl rfl, fun _ => hno, fun h => by omega⟩
  · repeat (first | intro id | refine goq ?_)
    ((first | apply retO_r | apply retO_n); (focus (exact resq)))
    exact ⟨rfl, i, rfl, hi⟩

/-- Steps from a to b. -/
def D (N : Nat) (ps : List (Nat × Nat)) (a b : Nat) : Int := (dist N ps a).getD b 0
theorem dists_getD {N : Nat} {ps : List (Nat × Nat)} {j : Nat} (h : j < N) : (dists N ps N).getD j [] = dist N ps j := by simp [dists, h]
/-- The neighbour that is gone to. -/
def nxt (N : Nat) (ps : List (Nat × Nat)) (b a : Nat) : Nat := ((nbl N ps a).find? fun k => decide (D N ps k b = D N ps a b - 1)).getD 0
def pathFrom (N : Nat) (ps : List (Nat × Nat)) (b : Nat) : Nat → Nat → List Nat
  | 0, _ => []
  | n + 1, a => nxt N ps b a :: pathFrom N ps b n (nxt N ps b a)
end Go.Proofs.Ytfaphhcloanhnaa

/- A shortest path, walked. -/
namespace Go.Proofs.Ytfaphhcloanhnaa
open Go.Am Go.Dist
set_option maxRecDepth 4000
set_option maxHeartbeats 4000000
variable {E : Env} {L : Hp}
theorem find_first (q : Nat → Bool) : ∀ (l : List Nat) (i : Nat), i < l.length → q (l.getD i 0) = true → (∀ j, j < i → q (l.getD j 0) = false) → l.find? q = some (l.getD i 0)
  | [], i, h, _, _ => by simp at h
  | x :: l, 0, h, h1, _ => by
    simp only [List.getD_cons_zero] at h1 ⊢
    rw [List.find?_cons, h1]
  | x :: l, i + 1, h, h1, h2 => by
    have h3 := h2 0 (by omega)
    simp only [List.getD_cons_zero] at h3
    rw [List.find?_cons, h3]
    simp only [List.getD_cons_succ] at h1 ⊢
    exact find_first q l i (by simpa using h) h1 fun j hj => by have := h2 (j + 1) (by omega); simpa using this
theorem inat_getD {l : List Nat} {j : Nat} (h : j < l.length) : (inat l).getD j 0 = ((l.getD j 0 : Nat) : Int) := by simp [inat, h]
/-- A map whose places hang together. -/
structure Good (N : Nat) (ps : List (Nat × Nat)) : Prop where
  hN : N ≤ 64
  lt : ∀ p ∈ ps, p.1 < N ∧ p.2 < N
  conn : ∀ a b, a < N → b < N → 0 ≤ D N ps a b ∧ D N ps a b < N
theorem Good.is {N : Nat} {ps : List (Nat × Nat)} (h : Good N ps) : ∀ a, a < N → IsDist N (Adj ps) a (dist N ps a) := fun a ha => dist_is h.lt ha
theorem Good.zero {N : Nat} {ps : List (Nat × Nat)} (h : Good N ps) {a b : Nat} (ha : a < N) (hb : b < N) : D N ps a b = 0 ↔ a = b := by
  constructor
  · intro e
    apply Classical.byContradiction
    intro hne
    have := (h.is a ha).pos hb (fun e => hne e.symm) (by unfold D at e; omega)
    unfold D at e
    omega
  · rintro rfl
    exact (h.is a ha).src0
theorem Good.nxt {N : Nat} {ps : List (Nat × Nat)} (h : Good N ps) {a b : Nat} (ha : a < N) (hb : b < N) (hne : a ≠ b) : nxt N ps b a ∈ nbl N ps a ∧ D N ps (nxt N ps b a) b = D N ps a b - 1 := by
  obtain ⟨k, hk, hadj, e⟩ := nearer adj_sym h.is ha hb hne (h.conn a b ha hb).1
  have hm : k ∈ nbl N ps a := nbl_mem.2 ⟨hk, hadj⟩
  have hs : ((nbl N ps a).find? fun k => decide (D N ps k b = D N ps a b - 1)).isSome = true := by
    rw [List.find?_isSome]
    exact ⟨k, hm, by simp only [decide_eq_true_eq]; exact e⟩
  obtain ⟨y, hy⟩ := Option.isSome_iff_exists.1 hs
  have h1 := List.mem_of_find?_eq_some hy
  have h2 := List.find?_some hy
  unfold Proofs.Ytfaphhcloanhnaa.nxt
  rw [hy]
  exact ⟨h1, by simpa using h2⟩

end Go.Proofs.Ytfaphhcloanhnaa

/- A shortest path; steps told: the program's faces. -/
namespace Go.Proofs.Ytfaphhcloanhnaa
open Go.Am Go.Dist
set_option maxRecDepth 4000
set_option maxHeartbeats 4000000
variable {E : Env} {L : Hp}
/-- The path from a to b. -/
def pathL (N : Nat) (ps : List (Nat × Nat)) (a b : Nat) : List Nat := a :: pathFrom N ps b (D N ps a b).toNat a
/-- The numbers of places are right. -/
def inR (N a b : Int) : Prop := 0 ≤ a ∧ a < N ∧ 0 ≤ b ∧ b < N
/-- What is told of a path. -/
structure PathR (N a b : Int) (ps : List (Int × Int)) (v : AVal) : Prop where
  ex : (¬ RightP N ps ∧ v = .tup [anil, aint 200]) ∨ (RightP N ps ∧ ¬ inR N a b ∧ v = .tup [anil, aint 2]) ∨ (RightP N ps ∧ inR N a b ∧ ∃ s, v = .tup [s, aint 0] ∧ SlI s (inat (pathL N.toNat (npairs ps) a.toNat b.toNat)))
theorem good_of {N : Nat} {ps : List (Int × Int)} (h : RightP N ps) : Good N (npairs ps) := by
  have hlt := mem_lt (npairs_lt h.ok)
  refine ⟨by have := h.n2; omega, hlt, fun a b ha hb => ⟨conn hlt (fun v hv => by have := h.all v (by rw [Int.toNat_natCast]; exact hv); rwa [Int.toNat_natCast] at this) ha hb, dist_lt hlt ha hb⟩⟩
end Go.Proofs.Ytfaphhcloanhnaa
namespace Go.Proofs.Ytfaphhcloanhnaa
open Go.Am Go.Dist
set_option maxRecDepth 4000
set_option maxHeartbeats 4000000
variable {E : Env} {L : Hp}
theorem find_filter {α : Type} (p q : α → Bool) (l : List α) : (l.filter p).find? q = l.find? fun a => p a && q a := by
  induction l with
  | nil => rfl
  | cons x l ih =>
    rw [List.filter_cons, List.find?_cons]
    cases hp : p x with
    | true => simp only [if_true, List.find?_cons, ih, Bool.true_and]
    | false => simp only [Bool.false_eq_true, if_false, ih, Bool.false_and]
theorem getD_range {N j : Nat} (h : j < N) : (List.range N).getD j 0 = j := by simp [h]
theorem nxt_least {N a b k : Nat} {ps : List (Nat × Nat)} (hG : Good N ps) (hne : ∀ p ∈ ps, p.1 ≠ p.2) (ha : a < N) (hk : k < N) (h1 : D N ps a k = 1) (h2 : D N ps k b = D N ps a b - 1) (hno : ∀ j, j < k → ¬ (D N ps a j = 1 ∧ D N ps j b = D N ps a b - 1)) : nxt N ps b a = k := by
  have hone : ∀ x, x < N → ((ps.contains (a, x) || ps.contains (x, a)) = true ↔ D N ps a x = 1) := by
    intro x hx
    have := one_iff (hG.is a ha) ha hx (fun hadj e => by
      subst e
      rcases hadj with h | h <;> exact hne _ h rfl)
    unfold D
    rw [this]
    unfold Adj
    simp
  unfold nxt nbl
  rw [find_filter]
  have := find_first (fun x => (ps.contains (a, x) || ps.contains (x, a)) && decide (D N ps x b = D N ps a b - 1)) (List.range N) k (by simpa using hk) (by
    rw [getD_range hk, (hone k hk).2 h1, decide_eq_true h2]; rfl) fun j hj => by
    rw [getD_range (by omega)]
    have h3 := hno j hj
    by_cases c : D N ps a j = 1
    · rw [decide_eq_false fun h => h3 ⟨c, h⟩, Bool.and_false]
    · cases hc : (ps.contains (a, j) || ps.contains (j, a)) with
      | false => rfl
      | true => exact absurd ((hone j (by omega)).1 hc) c
  rw [this, getD_range hk]
  rfl
theorem step_loop {N a b : Nat} {ps : List (Nat × Nat)} {dv : AVal} {us : List AVal} (hst : still E c_phasorref20_step_r3 = true) (hG : Good N ps) (hne : ∀ p ∈ ps, p.1 ≠ p.2) (ha : a < N) (hb : b < N) (hab : a ≠ b) (r1 : RowA dv us N) (r2 : us.length = N) (r3 : ∀ j, j < N → ∃ u, us[j]? = some u ∧ SlI u (dist N ps j)) :
    ∀ (d k : Nat) (t : Tr AVal), d + k = N → t.get 0 = some dv → t.get 1 = some (aint a) → t.get 2 = some (aint b) → t.get 7 = some (aint k) → (∀ j, j < k → ¬ (D N ps a j = 1 ∧ D N ps j b = D N ps a b - 1)) →
    WpO E (.loop c_phasorref20_step_l0) t L (fun ex t' L' => ex = .ret ∧ t'.get 6 = some (aint ((nxt N ps b a : Nat) : Int)) ∧ L' = L) := by
  intro d
  obtain ⟨ua, ha1, ha2⟩ := r3 a ha
  have ha1' : (us.drop (a * 1))[0]? = some ua := by simpa using ha1
  have la := dist_len N ps a
  have hN := hG.hN
  have hcn := hG.conn a b ha hb
  unfold D at hcn
  induction d with
  | zero =>
    intro k t hk h0 h1 h2 h7 hno
    obtain rfl : k = N := by omega
    obtain ⟨x, hx, hadj, e⟩ := nearer adj_sym hG.is ha hb hab (hG.conn a b ha hb).1
    refine absurd ⟨?_, e⟩ (hno x hx)
    exact (one_iff (hG.is a ha) ha hx (fun hadj e => by
      subst e
      rcases hadj with h | h <;> exact hne _ h rfl)).2 hadj
  | succ d ih =>
    intro k t0 hk h0 h1 h2 h7 hno
    have hkN : k < N := by omega
    obtain ⟨uk, hk1, hk2⟩ := r3 k hkN
    have hk1' : (us.drop (k * 1))[0]? = some uk := by simpa using hk1
    have lk := dist_len N ps k
    have next : ¬ (D N ps a k = 1 ∧ D N ps k b = D N ps a b - 1) → ∀ j, j < k + 1 → ¬ (D N ps a j = 1 ∧ D N ps j b = D N ps a b - 1) := fun h j hj => by
      by_cases e : j = k
      · subst e; exact h
      · exact hno j (by omega)
    refine wo_loop ?_
    repeat (first | intro id | refine goq ?_)
    (refine oo_guard (by exact slotq) (fun hc => ?_) (fun hc => ?_) <;> (try simp only [hc]) <;> (try simp only [decide_eq_true_eq, decide_eq_false_iff_not, ne_eq, Decidable.not_not] at hc))
    · repeat (first | intro id | refine goq ?_)
      refine wo_cond_if (by exact slotq) (fun hc => ?_) (fun hc => ?_) <;> (try simp only [decide_eq_true_eq, decide_eq_false_iff_not, ne_eq, Decidable.not_not] at hc)
      · repeat (first | intro id | refine goq ?_)
        refine ⟨rfl, ?_, rfl⟩
        rw [nxt_least (k := k) hG hne ha hkN (by unfold D; assumption) (by unfold D; exact hc) hno]
        exact slotq
      · repeat (first | intro id | refine goq ?_)
        refine ih (k + 1) _ (by omega) ?_ ?_ ?_ ?_ (next fun h => hc h.2)
        · exact slotq
        · exact slotq
        · exact slotq
        · exact slotq
    · have hcc := hc
      repeat (first | intro id | refine goq ?_)
      refine ih (k + 1) _ (by omega) ?_ ?_ ?_ ?_ (next fun h => hcc h.1)
      · exact slotq
      · exact slotq
      · exact slotq
      · exact slotq
theorem step_ok (hF : E.fns = fnsT) (hm : E.mode f_phasorref20_step = .iso false) {N a b : Nat} {ps : List (Nat × Nat)} {dv : AVal} (hG : Good N ps) (hne : ∀ p ∈ ps, p.1 ≠ p.2) (ha : a < N) (hb : b < N) (hab : a ≠ b) (hd : SlS dv (dists N ps N)) :
    CallO E f_phasorref20_step [dv, aint a, aint b] L fun v L' => v = aint ((nxt N ps b a : Nat) : Int) ∧ L' = L := by
  refine callO_iso0 hm (fns_of hF n_phasorref20_step) (vs_bare hd.bare (vs_bare rfl (vs_bare rfl vs_nil))) ?_
  obtain ⟨us, r1, r2, r3⟩ := hd.row
  rw [dists_length] at r1 r2 r3
  refine bodyO_of (Nat.le_of_ble_eq_true rfl) ?_; generalize ht : argSlots _ 0 .nil = t; have h0 : t.get 0 = some _ := (by rw [← ht]; rfl); have h1 : t.get 1 = some _ := (by rw [← ht]; rfl); have h2 : t.get 2 = some _ := (by rw [← ht]; rfl); clear ht
  repeat (first | intro id | refine goq ?_)
  refine WpO.mono (step_loop rfl hG hne ha hb hab r1 r2 (fun j hj => by obtain ⟨u, e1, e2⟩ := r3 j hj; rw [dists_getD hj] at e2; exact ⟨u, e1, e2⟩) N 0 _ (by omega) ?_ ?_ ?_ ?_ (fun j hj => by omega)) ?_
  · exact slotq
  · exact slotq
  · exact slotq
  · exact slotq
  rintro ex t1 L' ⟨rfl, h6, rfl⟩
  repeat (first | intro id | refine goq ?_)
  ((first | apply retO_r | apply retO_n); (focus (exact resq)))
  exact ⟨rfl, rfl⟩

theorem npairs_ne {N : Int} {ps : List (Int × Int)} (h : okAll N ps) : ∀ p ∈ npairs ps, p.1 ≠ p.2 := by
  intro p hp
  obtain ⟨q, hq, rfl⟩ := List.mem_map.1 hp
  obtain ⟨k, hk, e⟩ := List.getElem_of_mem hq
  have := h k hk
  simp only [List.getD_eq_getElem?_getD, List.getElem?_eq_getElem hk, Option.getD_some, e] at this
  unfold okP at this
  simp only
  omega
end Go.Proofs.Ytfaphhcloanhnaa

/- Steps between all places, told; what is told is written over. -/
namespace Go.Proofs.Ytfaphhcloanhnaa
open Go.Am Go.Dist
set_option maxRecDepth 4000
set_option maxHeartbeats 4000000
variable {E : Env} {L : Hp}
/-- One row out of many, and another in its place. -/
theorem RowsO.pick {cs : List AVal} {ls : List (List Int)} {H : Hp} (h : RowsO cs ls H) : ∀ j, j < ls.length → ∃ id cap A B, cs[j]? = some (.sl id 0 (ls.getD j []).length 1 cap) ∧ H = A ++ (id, (ls.getD j []).map aint) :: B ∧ ∀ l', l'.length = (ls.getD j []).length → RowsO cs (ls.set j l') (A ++ (id, l'.map aint) :: B) := by
  induction h with
  | nil => intro j hj; simp at hj
  | @snoc cs ls H id n cap l h hn ih =>
    intro j hj
    have hlen := (RowsO.one h).2
    by_cases e : j < ls.length
    · obtain ⟨id', cap', A, B, h1, h2, h3⟩ := ih j e
      have hg : (ls ++ [l]).getD j [] = ls.getD j [] := by simp [List.getElem?_append_left e]
      refine ⟨id', cap', A, B ++ [(id, l.map aint)], ?_, ?_, fun l' hl' => ?_⟩
      · rw [hg, List.getElem?_append_left (by omega)]; exact h1
      · rw [hg, h2, List.append_assoc, List.cons_append]
      · rw [hg] at hl'
        have := (h3 l' hl').snoc (id := id) (cap := cap) hn
        rw [List.set_append_left _ _ e]
        rw [List.append_assoc, List.cons_append] at this
        exact this
    · have e2 : j = ls.length := by rw [List.length_append] at hj; simp only [List.length_singleton] at hj; omega
      subst e2
      have hg : (ls ++ [l]).getD ls.length [] = l := by simp
      rw [hg]
      refine ⟨id, cap, H, [], ?_, rfl, fun l' hl' => ?_⟩
      · rw [List.getElem?_append_right (by omega)]; simp [hlen, hn]
      · rw [List.set_append_right _ _ (by omega), Nat.sub_self, List.set_cons_zero]
        exact h.snoc (hl'.trans hn)

end Go.Proofs.Ytfaphhcloanhnaa
namespace Go.Proofs.Ytfaphhcloanhnaa
open Go.Am Go.Dist
set_option maxRecDepth 4000
set_option maxHeartbeats 8000000
variable {E : Env} {L : Hp}
/-- An operation that does not fit. -/
def badB (N : Nat) (ps : List (Nat × Nat)) (o : OpD) : Bool := decide (o.kind = 1) && (decide (2 < o.qs.length) || (decide (o.qs.length = 2) && !decide (D N ps (o.qs.getD 0 0).toNat (o.qs.getD 1 0).toNat = 1)))
def FitsR (N : Int) (ps : List (Int × Int)) (c : CircD) (v : AVal) : Prop :=
  (¬ RightP N ps ∧ v = .tup [abool false, aint 200]) ∨ (RightP N ps ∧ ¬ CircOk c ∧ v = .tup [abool false, aint 80]) ∨
  (RightP N ps ∧ CircOk c ∧ ∃ x, v = .tup [abool x, aint 0] ∧ (x = true ↔ c.qubits ≤ N ∧ ∀ j, j < c.ops.length → badB N.toNat (npairs ps) (c.ops.getD j default) = false))
end Go.Proofs.Ytfaphhcloanhnaa
namespace Go.Proofs.Ytfaphhcloanhnaa
open Go.Am Go.Dist
set_option maxRecDepth 4000
set_option maxHeartbeats 8000000
variable {E : Env} {L : Hp}
end Go.Proofs.Ytfaphhcloanhnaa
namespace Go.Proofs.Ytfaphhcloanhnaa
open Go.Am
set_option maxRecDepth 4000
set_option maxHeartbeats 8000000
variable {E : Env} {L : Hp}
/-- A slice of numbers in a box of its own, or nil. -/
def OwnI (u : AVal) (l : List Int) (B : Hp) : Prop := (u = anil ∧ l = [] ∧ B = []) ∨ ∃ id cap, u = .sl id 0 l.length 1 cap ∧ B = [(id, l.map aint)]
theorem OwnI.isOne {u : AVal} {l : List Int} {B : Hp} (h : OwnI u l B) : u.one = true := by
  rcases h with ⟨rfl, -, -⟩ | ⟨id, cap, rfl, -⟩ <;> rfl
theorem OwnI.view {u : AVal} {l : List Int} {B M : Hp} (h : OwnI u l B) (k : Nat) (hM : ∀ id c, In id c B → In id c M) : ∃ q, ViewO M (k + 2) u q ∧ SlI q l := by
  rcases h with ⟨rfl, rfl, rfl⟩ | ⟨id, cap, rfl, rfl⟩
  · exact ⟨anil, vo_sc, .inl ⟨rfl, rfl, rfl⟩⟩
  · exact ⟨.rs (l.map aint) l.length cap, vo_sl (hM _ _ .here) (by rw [Nat.mul_one]; exact seg_full (by simp)) (vl_sc (sc_ints l)), .inr ⟨cap, rfl⟩⟩
inductive OpsB : List AVal → List OpD → Hp → Prop where
  | nil : OpsB [] [] []
  | snoc {cs : List AVal} {os : List OpD} {H B : Hp} {u : AVal} {o : OpD} (h : OpsB cs os H) (hq : OwnI u o.qs B) (hb : o.qs.length < 2 ^ 62) : OpsB (cs ++ opCells u o) (os ++ [o]) (H ++ B)
def CircO (v : AVal) (c : CircD) (B : Hp) : Prop := ∃ s cs Bs H, v = .agg [aint c.qubits, aint c.bits, s] ∧ BufO 6 s cs c.ops.length Bs ∧ OpsB cs c.ops H ∧ c.ops.length < 2 ^ 62 ∧ B = Bs ++ H
theorem OpsC.snoc {cs : List AVal} {os : List OpD} {q : AVal} {o : OpD} (h : OpsC cs os) (hq : SlI q o.qs) (hb : o.qs.length < 2 ^ 62) : OpsC (cs ++ opCells q o) (os ++ [o]) := by
  induction h with
  | nil => have := OpsC.cons hq hb .nil; simpa using this
  | cons hq' hb' h ih => rw [List.append_assoc]; exact .cons hq' hb' ih
theorem OpsB.view {cs : List AVal} {os : List OpD} {H M : Hp} (h : OpsB cs os H) (k : Nat) (hM : ∀ id c, In id c H → In id c M) : ∃ us, ViewL M (k + 2) cs us ∧ OpsC us os := by
  induction h with
  | nil => exact ⟨[], vl_nil, .nil⟩
  | @snoc cs os H B u o h hq hb ih =>
    obtain ⟨us, h1, h2⟩ := ih fun id c hi => hM id c hi.appl
    obtain ⟨q, h3, h4⟩ := hq.view k fun id c hi => hM id c hi.app
    refine ⟨us ++ opCells q o, vl_app h1 ?_, h2.snoc h4 hb⟩
    exact vl_cons vo_sc (vl_cons vo_sc (vl_cons h3 (vl_cons vo_sc (vl_cons vo_sc (vl_cons vo_sc vl_nil)))))
theorem bufInv {esz n : Nat} {v : AVal} {cs : List AVal} {B : Hp} (h : BufO esz v cs n B) : (v = anil ∧ cs = [] ∧ n = 0 ∧ B = []) ∨ ∃ id, v = .sl id 0 n esz none ∧ B = [(id, cs)] := by
  cases h with
  | nil => exact .inl ⟨rfl, rfl, rfl, rfl⟩
  | box _ _ => exact .inr ⟨_, rfl, rfl⟩
theorem CircO.view {v : AVal} {c : CircD} {B M : Hp} (h : CircO v c B) (k : Nat) (hM : ∀ id c, In id c B → In id c M) : ∃ u, ViewO M (k + 4) v u ∧ CircA u c := by
  obtain ⟨s, cs, Bs, H, rfl, hb, ho, hlt, rfl⟩ := h
  obtain ⟨us, h1, h2⟩ := ho.view k fun id c hi => hM id c hi.app
  have hlen := hb.length
  rcases bufInv hb with ⟨rfl, rfl, e, rfl⟩ | ⟨id, rfl, rfl⟩
  · have h3 := h2.length
    rw [e] at h3
    have h4 : us = [] := List.eq_nil_of_length_eq_zero (by simpa using h3)
    exact ⟨.agg [aint c.qubits, aint c.bits, anil], vo_agg (vl_cons vo_sc (vl_cons vo_sc (vl_cons vo_sc vl_nil))), anil, rfl, us, .inl ⟨rfl, e, h4⟩, h2, hlt⟩
  · exact ⟨_, vo_agg (vl_cons vo_sc (vl_cons vo_sc (vl_cons (vo_sl (hM _ _ (In.appl .here)) (seg_full hlen) h1) vl_nil))), _, rfl, us, .inr ⟨none, rfl⟩, h2, hlt⟩
/-- Of a size that can be. -/
structure Small (c : CircD) : Prop where
  ops : c.ops.length ≤ 1000000
  qs : ∀ k, k < c.ops.length → (c.ops.getD k default).qs.length ≤ 2000000
theorem Clone_open (hF : E.fns = fnsT) (hm : E.mode f_slices_Clone_int_int = .open_) {v : AVal} {l : List Int} (hv : SlI v l) (hl : l.length ≤ 2000000) : CallO E f_slices_Clone_int_int [v] L fun r L' => ∃ B, OwnI r l B ∧ L' = B ++ L := by
  refine CallO.to (callO_open hm (fns_of hF n_slices_Clone_int_int) ?_)
  have hv1 := RowA.isOne hv
  rcases hv with ⟨rfl, h0, h1⟩ | ⟨cap, rfl⟩
  · have : l = [] := List.eq_nil_of_length_eq_zero h0
    subst this
    refine bodyO_of (Nat.le_of_ble_eq_true rfl) ?_; generalize ht : argSlots _ 0 .nil = t; have h0 : t.get 0 = some _ := (by rw [← ht]; rfl); clear ht
    repeat (first | intro id | refine goq ?_)
    ((first | apply retO_r | apply retO_n); (focus (exact resq)))
    exact ⟨_, by exact subq, [], .inl ⟨rfl, rfl, rfl⟩, rfl⟩
  · have hrow : RowA (.rs (l.map aint) l.length cap) (l.map aint) l.length := .inr ⟨cap, rfl⟩
    refine bodyO_of (Nat.le_of_ble_eq_true rfl) ?_; generalize ht : argSlots _ 0 .nil = t; have h0 : t.get 0 = some _ := (by rw [← ht]; rfl); clear ht
    repeat (first | intro id | refine goq ?_)
    by_cases hl0 : l.length = 0
    · have : l = [] := List.eq_nil_of_length_eq_zero hl0
      subst this
      refine oo_append0 wanted_none (by exact slotq) rfl (by exact slotq) rfl ?_
      repeat (first | intro id | refine goq ?_)
      ((first | apply retO_r | apply retO_n); (focus (exact resq)))
      exact ⟨_, by exact subq, [(id, [])], .inr ⟨id, some 0, rfl, rfl⟩, rfl⟩
    · refine oo_appendF wanted_none (by exact slotq) .here (old := []) rfl rfl (by exact slotq) hrow (by omega) (by simp) (all_one_ints _) (by omega) (by omega) ?_
      intro id2
      repeat (first | intro id | refine goq ?_)
      ((first | apply retO_r | apply retO_n); (focus (exact resq)))
      exact ⟨_, by exact subq, [(id2, l.map aint)], .inr ⟨id2, none, by simp [resultV], rfl⟩, rfl⟩
theorem OpsB.one {cs : List AVal} {os : List OpD} {H : Hp} (h : OpsB cs os H) : cs.length = os.length * 6 := by
  induction h with
  | nil => rfl
  | snoc h hq hb ih => simp only [List.length_append, ih, opCells, List.length_cons, List.length_nil]; omega
theorem takeO_snoc {os : List OpD} {k : Nat} (hk : k < os.length) : os.take (k + 1) = os.take k ++ [os.getD k default] := by
  rw [List.take_succ_eq_append_getElem hk]
  simp [hk]
/-- The program's copy, round by round. -/
theorem ccopy_l0 (hF : E.fns = fnsT) (hmc : E.mode f_slices_Clone_int_int = .open_) {c : CircD} {s : AVal} {cs0 : List AVal} {i3 : Nat} (hr : RowA s cs0 c.ops.length) (hcs : OpsC cs0 c.ops) (hsm : Small c) :
    ∀ (d k : Nat) (t : Tr AVal) (a : AVal) (cs : List AVal) (B H : Hp), d + k = c.ops.length → t.get 3 = some (.ptr i3 0) → t.get 12 = some s → t.get 13 = some (aint c.ops.length) → t.get 14 = some (aint k) → BufO 6 a cs k B → OpsB cs (c.ops.take k) H →
    WpO E (.loop c_circuit_Copy_l0) t ((i3, [aint c.qubits, aint c.bits, a]) :: (B ++ (H ++ L))) (fun ex t' L' => ex = .exit 0 ∧ Keep [1, 2, 3] t t' ∧ ∃ a' cs' B' H', BufO 6 a' cs' c.ops.length B' ∧ OpsB cs' c.ops H' ∧ L' = (i3, [aint c.qubits, aint c.bits, a']) :: (B' ++ (H' ++ L))) := by
  have hs1 := RowA.isOne hr
  have hsm1 := hsm.ops
  intro d
  induction d with
  | zero =>
    intro k t a cs B H hk h3 h12 h13 h14 hb ho
    obtain rfl : k = c.ops.length := by omega
    refine wo_loop ?_
    repeat (first | intro id | refine goq ?_)
    rw [List.take_length] at ho
    exact ⟨rfl, by exact keepq, a, cs, B, H, hb, ho, rfl⟩
  | succ d ih =>
    intro k t a cs B H hk h3 h12 h13 h14 hb ho
    have hkl : k < c.ops.length := by omega
    obtain ⟨q, hq, hqb, hlt6, hseg⟩ := hcs.getE hkl
    have hql := hsm.qs k hkl
    have htk := takeO_snoc hkl
    generalize c.ops.getD k default = o at *
    have hq1 := RowA.isOne hq
    have ha1 := hb.isOne
    unfold opCells at hseg
    refine wo_loop ?_
    repeat (first | intro id | refine goq ?_)
    refine gok ?_
    refine (Clone_open hF hmc hq hql).mono ?_
    rintro u L' ⟨C, hu, rfl⟩
    have hu1 := hu.isOne
    repeat (first | intro id | refine goq ?_)
    have hb2 := hb.pushed (id := id) (nw := opCells u o) rfl (by simp only [opCells, List.all_cons, List.all_nil, hu1, Bool.and_true]; rfl)
    have ho2 := ho.snoc hu hqb
    rw [← htk] at ho2
    refine WpO.weak (WpO.mono (ih (k + 1) _ _ _ _ _ (by omega) ?_ ?_ ?_ ?_ hb2 ho2) ?_) ?_
    · exact slotq
    · exact slotq
    · exact slotq
    · exact slotq
    · rintro ex t' L' ⟨e1, e2, e3⟩
      exact ⟨e1, Keep.trans (by exact keepq) e2, e3⟩
    · rw [List.append_assoc]
      exact subq
/-- The program's copy: in boxes of its own. -/
theorem CCopy_open (hF : E.fns = fnsT) (hm : E.mode f_circuit_Copy = .open_) (hmc : E.mode f_slices_Clone_int_int = .open_) {c : CircD} {v : AVal} (hv : CircA v c) (hsm : Small c) : CallO E f_circuit_Copy [v] L fun r L' => ∃ B, CircO r c B ∧ L' = B ++ L := by
  refine CallO.to (callO_open hm (fns_of hF n_circuit_Copy) ?_)
  obtain ⟨s, rfl, cs, hr, hcs, hlt⟩ := hv
  have hs1 := RowA.isOne hr
  refine bodyO_of (Nat.le_of_ble_eq_true rfl) ?_; generalize ht : argSlots _ 0 .nil = t; have h0 : t.get 0 = some _ := (by rw [← ht]; rfl); clear ht
  repeat (first | intro id | refine goq ?_)
  rename_i i2
  refine WpO.mono (ccopy_l0 hF hmc hr hcs hsm c.ops.length 0 _ anil [] [] [] (by omega) ?_ ?_ ?_ ?_ .nil .nil) ?_
  · exact slotq
  · exact slotq
  · exact slotq
  · exact slotq
  rintro ex t' L' ⟨rfl, hK, a', cs', B', H', hb, ho, rfl⟩
  have g2 : t'.get 2 = some (.ptr i2 0) := (hK.ex 2 rfl).trans (by exact slotq)
  have g3 : t'.get 3 = some (.ptr id 0) := (hK.ex 3 rfl).trans (by exact slotq)
  have ha1 := hb.isOne
  repeat (first | intro id | refine goq ?_)
  ((first | apply retO_r | apply retO_n); (focus (exact resq)))
  exact ⟨B' ++ (H' ++ L), by exact subq, B' ++ H', ⟨a', cs', B', H', rfl, hb, ho, hlt, rfl⟩, (List.append_assoc _ _ _).symm⟩
/-- The document's copy, round by round. -/
theorem rcopy_l0 {c : CircD} {s : AVal} {cs0 : List AVal} {i1 i3 : Nat} (hr : RowA s cs0 c.ops.length) (hcs : OpsC cs0 c.ops) (hsm : Small c) :
    ∀ (d k : Nat) (t : Tr AVal) (a : AVal) (cs : List AVal) (B H : Hp), d + k = c.ops.length → t.get 1 = some (.ptr i1 0) → t.get 3 = some (.ptr i3 0) → t.get 4 = some (aint k) → BufO 6 a cs k B → OpsB cs (c.ops.take k) H →
    WpO E (.loop c_phasorref08_Copy_l0) t ((i3, [aint c.qubits, aint c.bits, a]) :: (i1, [aint c.qubits, aint c.bits, s]) :: (B ++ (H ++ L))) (fun ex t' L' => ex = .exit 0 ∧ Keep [1, 2, 3] t t' ∧ ∃ a' cs' B' H', BufO 6 a' cs' c.ops.length B' ∧ OpsB cs' c.ops H' ∧ L' = (i3, [aint c.qubits, aint c.bits, a']) :: (i1, [aint c.qubits, aint c.bits, s]) :: (B' ++ (H' ++ L))) := by
  have hs1 := RowA.isOne hr
  have hsm1 := hsm.ops
  intro d
  induction d with
  | zero =>
    intro k t a cs B H hk h1 h3 h4 hb ho
    obtain rfl : k = c.ops.length := by omega
    refine wo_loop ?_
    repeat (first | intro id | refine goq ?_)
    rw [List.take_length] at ho
    exact ⟨rfl, by exact keepq, a, cs, B, H, hb, ho, rfl⟩
  | succ d ih =>
    intro k t a cs B H hk h1 h3 h4 hb ho
    have hkl : k < c.ops.length := by omega
    obtain ⟨q, hq, hqb, hlt6, hseg⟩ := hcs.getE hkl
    have hql := hsm.qs k hkl
    have htk := takeO_snoc hkl
    generalize c.ops.getD k default = o at *
    have hq1 := RowA.isOne hq
    have ha1 := hb.isOne
    unfold opCells at hseg
    refine wo_loop ?_
    repeat (first | intro id | refine goq ?_)
    refine oo_appendR wanted_none (by exact slotq) .nil (by exact slotq) hq .nil (by simp) (all_one_ints _) (by omega) (by omega) ?_
    intro u C hu
    have hu1 := hu.isOne
    have hown : OwnI u o.qs C := by
      rcases bufInv hu with ⟨rfl, e1, e2, rfl⟩ | ⟨id, rfl, rfl⟩
      · have : o.qs = [] := List.eq_nil_of_length_eq_zero (by omega)
        exact .inl ⟨rfl, this, rfl⟩
      · exact .inr ⟨id, none, by simp, by simp⟩
    repeat (first | intro id | refine goq ?_)
    have hb2 := hb.pushed (id := id) (nw := opCells u o) rfl (by simp only [opCells, List.all_cons, List.all_nil, hu1, Bool.and_true]; rfl)
    have ho2 := ho.snoc hown hqb
    rw [← htk] at ho2
    refine WpO.weak (WpO.mono (ih (k + 1) _ _ _ _ _ (by omega) ?_ ?_ ?_ hb2 ho2) ?_) ?_
    · exact slotq
    · exact slotq
    · exact slotq
    · rintro ex t' L' ⟨e1, e2, e3⟩
      exact ⟨e1, Keep.trans (by exact keepq) e2, e3⟩
    · rw [List.append_assoc]
      exact subq
end Go.Proofs.Ytfaphhcloanhnaa
namespace Go.Am
structure Above (k : Nat) (m : Mem) : Prop where
  no : ∀ id, id < k → m.heap.get id = none
  next : k ≤ m.next
theorem Above.new {k : Nat} {m : Mem} (h : Above k m) (b : Box) : Above k (m.new b) :=
  ⟨fun id hid => by have := h.next; simp only [Mem.new, Tr.get_set]; rw [if_neg (by omega)]; exact h.no id hid, by have := h.next; simp only [Mem.new]; omega⟩
theorem Above.cut {k : Nat} {m : Mem} (h : Above k m) (id : Nat) : Above k (m.put id none) :=
  ⟨fun i hid => by
    simp only [Mem.put, Tr.get_set]
    split
    · rfl
    · exact h.no i hid, h.next⟩
theorem Above.put {k id : Nat} {m : Mem} {cs : List AVal} (h : Above k m) (hc : m.cells id = some cs) (b : Option Box) : Above k (m.put id b) := by
  refine ⟨fun i hid => ?_, h.next⟩
  simp only [Mem.put, Tr.get_set]
  split
  · rename_i e
    subst e
    unfold Mem.cells at hc
    rw [h.no i hid] at hc
    simp at hc
  · exact h.no i hid
theorem opVal_above {k : Nat} {s : Tr AVal} {m m' : Mem} {op : AOp} {v : AVal} (ha : Above k m) (h : opVal s m op = some (v, m')) : Above k m' := by
  cases op <;> simp only [opVal] at h
  all_goals (repeat' (split at h))
  all_goals (try (simp only [reduceCtorEq] at h; done))
  all_goals (try simp only [Option.map_eq_some_iff, Option.some.injEq, Prod.mk.injEq] at h)
  all_goals first
    | (obtain ⟨rfl, rfl⟩ := h; exact ha)
    | (obtain ⟨_, _, rfl, rfl⟩ := h; exact ha)
    | (obtain ⟨rfl, rfl⟩ := h; exact ha.new _)
    | (obtain ⟨rfl, rfl⟩ := h; exact (ha.cut _).new _)
    | (obtain ⟨rfl, rfl⟩ := h; exact ha.put (by assumption) _)
    | skip
def CfAbove (cf : CallF) : Prop := ∀ k g args m v m', cf g args m = some (v, m') → Above k m → Above k m'
section
variable {cf : CallF} {k : Nat}
theorem stepVal_above (hcf : CfAbove cf) {s : Tr AVal} {m m' : Mem} {op : AOp} {v : AVal} (ha : Above k m) (h : stepVal cf s m op = some (v, m')) : Above k m' := by
  unfold stepVal at h
  split at h
  · split at h
    · exact hcf _ _ _ _ _ _ h ha
    · simp at h
  · exact opVal_above ha h
theorem stepO_above (hcf : CfAbove cf) {o : AO} {s s' : St} (ha : Above k s.mem) (h : stepO cf o s = some s') : Above k s'.mem := by
  unfold stepO at h
  split at h
  · split at h
    · rename_i v m hv
      simp only [Option.some.injEq] at h
      subst h
      exact stepVal_above hcf ha hv
    · simp at h
  · simp only [Option.some.injEq] at h
    subst h
    exact ha
  · simp at h
theorem stepOs_above (hcf : CfAbove cf) : ∀ {l : List AO} {s s' : St}, Above k s.mem → stepOs cf l s = some s' → Above k s'.mem
  | [], s, s', ha, h => by simp only [stepOs, Option.some.injEq] at h; subst h; exact ha
  | o :: l, s, s', ha, h => by
    unfold stepOs at h
    split at h
    · rename_i s1 h1
      exact stepOs_above hcf (stepO_above hcf ha h1) h
    · simp at h
theorem effO_above (hcf : CfAbove cf) {o : AO} {s : St} {e : Eff} (ha : Above k s.mem) (h : effO cf o s = some e) : Above k (e.app s).mem := by
  have key : ∀ (ids : List Nat) (sub : Tr Box) (lo hi low : Nat) (wr : Bool) (d : Option Nat) (v : AVal) (r : List Nat) (af : Nat) (x y : Bool), (∀ id, id < k → sub.get id = none) → k ≤ hi → Above k (Eff.app ⟨d, v, r, ids, wr, lo, hi, low, sub, af, x, y⟩ s).mem := by
    intro ids sub lo hi low wr d v r af x y hs hk
    refine ⟨fun id hid => ?_, hk⟩
    simp only [Eff.app, mergeNew_get]
    split
    · exact hs id hid
    · split
      · rw [mergeIds_get]
        split
        · exact hs id hid
        · exact ha.no id hid
      · exact ha.no id hid
  unfold effO at h
  simp only at h
  split at h
  · split at h
    · rename_i ids _
      split at h
      · split at h
        · rename_i v m hv
          simp only [Option.some.injEq] at h
          subst h
          have := stepVal_above (k := k) hcf (m := ⟨restrict s.mem.heap ids, s.mem.next, s.mem.next⟩) ⟨fun id hid => by
            show (restrict s.mem.heap ids).get id = none
            rw [restrict_get]
            split
            · exact ha.no id hid
            · rfl, ha.next⟩ hv
          exact key _ _ _ _ _ _ _ _ _ _ _ _ this.no this.next
        · simp at h
      · simp at h
    · simp at h
  · simp only [Option.some.injEq] at h
    subst h
    exact key _ _ _ _ _ _ _ _ _ _ _ _ (fun id _ => Tr.get_nil id) ha.next
  · simp at h
theorem drawOs_above (hcf : CfAbove cf) : ∀ {l : List AO} {s : St} {r : St × List Eff}, Above k s.mem → drawOs cf l s = some r → Above k r.1.mem
  | [], s, r, ha, h => by simp only [drawOs, Option.some.injEq] at h; subst h; exact ha
  | o :: l, s, r, ha, h => by
    unfold drawOs at h
    split at h
    · rename_i e he
      split at h
      · rename_i s1 es h1
        simp only [Option.some.injEq] at h
        subst h
        exact drawOs_above (r := (s1, es)) hcf (effO_above hcf ha he) h1
      · simp at h
    · simp at h
end
section
variable {E : Env}
structure RunAbove (E : Env) (n : Nat) : Prop where
  run : ∀ k c s ex s', run E n c s = some (ex, s') → Above k s.mem → Above k s'.mem
  call : CfAbove (callF E n)
  body : ∀ k f args m v m', body E n f args m = some (v, m') → Above k m → Above k m'
/-- What is known of functions keeps to it. -/
def KnownAbove (E : Env) : Prop := ∀ k f args m v m', E.known f args m = some (v, m') → Above k m → Above k m'
theorem above_step {n : Nat} (hK : KnownAbove E) (ih : RunAbove E n) : RunAbove E (n + 1) := by
  refine ⟨fun k c s ex s' h ha => ?_, fun k g args m v m' h ha => ?_, fun k f args m v m' h ha => ?_⟩
  · cases c with
    | skip => simp only [Am.run, Option.some.injEq, Prod.mk.injEq] at h; rw [← h.2]; exact ha
    | exit id => simp only [Am.run, Option.some.injEq, Prod.mk.injEq] at h; rw [← h.2]; exact ha
    | ret => simp only [Am.run, Option.some.injEq, Prod.mk.injEq] at h; rw [← h.2]; exact ha
    | scope c => rw [Am.run] at h; exact ih.run _ _ _ _ _ h ha
    | reg ops d =>
      rw [Am.run] at h
      split at h
      · rename_i s1 hs
        simp only [Option.some.injEq, Prod.mk.injEq] at h
        obtain ⟨-, rfl⟩ := h
        split at hs
        · unfold drawn at hs
          split at hs
          · rename_i s2 es h2
            split at hs
            · simp only [Option.some.injEq] at hs
              subst hs
              exact drawOs_above (r := (s2, es)) ih.call ha h2
            · simp at hs
          · simp at hs
        · exact stepOs_above ih.call ha hs
      · simp at h
    | seq a b =>
      rw [Am.run] at h
      split at h
      · rename_i s1 hs
        exact ih.run _ _ _ _ _ h (ih.run _ _ _ _ _ hs ha)
      · exact ih.run _ _ _ _ _ h ha
    | cond c a b =>
      rw [Am.run] at h
      split at h
      · exact ih.run _ _ _ _ _ h ha
      · exact ih.run _ _ _ _ _ h ha
      · simp at h
    | blk id c =>
      rw [Am.run] at h
      split at h
      · rename_i j s1 hs
        have := ih.run _ _ _ _ _ hs ha
        split at h
        · simp only [Option.some.injEq, Prod.mk.injEq] at h; rw [← h.2]; exact this
        · simp only [Option.some.injEq, Prod.mk.injEq] at h; rw [← h.2]; exact this
      · exact ih.run _ _ _ _ _ h ha
    | loop c =>
      rw [Am.run] at h
      split at h
      · rename_i s1 hs
        exact ih.run _ _ _ _ _ h (ih.run _ _ _ _ _ hs ha)
      · exact ih.run _ _ _ _ _ h ha
  · cases g with
    | func f =>
      rw [callF] at h
      split at h
      · exact hK _ _ _ _ _ _ h ha
      · split at h
        · simp at h
        · split at h
          · rename_i v1 m1 hb
            simp only [Option.some.injEq, Prod.mk.injEq] at h
            obtain ⟨-, rfl⟩ := h
            have := ih.body k _ _ _ _ _ hb ⟨ha.no, ha.next⟩
            exact ⟨this.no, this.next⟩
          · simp at h
      · (repeat' (split at h)) <;> first | (simp only [reduceCtorEq] at h; done) | (simp only [Option.some.injEq, Prod.mk.injEq] at h; rw [← h.2]; exact ha)
      · split at h
        · simp at h
        · split at h
          · split at h
            · rename_i v1 m1 hb
              simp only [Option.some.injEq, Prod.mk.injEq] at h
              obtain ⟨-, rfl⟩ := h
              have := ih.body k _ _ _ _ _ hb ⟨fun id _ => Tr.get_nil id, ha.next⟩
              refine ⟨fun id hid => ?_, this.next⟩
              simp only [mergeNew_get]
              split
              · exact this.no id hid
              · exact ha.no id hid
            · simp at h
          · simp at h
    | _ => simp [callF] at h
  · rw [Am.body] at h
    split at h
    · split at h
      · rename_i s hr
        simp only [Option.map_eq_some_iff, Prod.mk.injEq] at h
        obtain ⟨_, -, -, rfl⟩ := h
        exact ih.run _ _ _ _ _ hr ha
      · rename_i s hr
        simp only [Option.map_eq_some_iff, Prod.mk.injEq] at h
        obtain ⟨_, -, -, rfl⟩ := h
        exact ih.run _ _ _ _ _ hr ha
      · simp at h
    · simp at h
theorem above_all (hK : KnownAbove E) : ∀ n, RunAbove E n
  | 0 => ⟨fun k c s ex s' h => by simp [Am.run] at h, fun k g args m v m' h => by simp [callF] at h, fun k f args m v m' h => by simp [Am.body] at h⟩
  | n + 1 => above_step hK (above_all hK n)
/-- Handed no box: what it makes is laid beside what was there. -/
theorem callO_fresh {f : FuncId} {fn : AFn} {args : List AVal} {L : Hp} {J : AVal → Hp → Prop} (hK : KnownAbove E) (hm : E.mode f = .fresh) (hf : E.fns f = some fn) (hb : args.all AVal.bare = true) (h : BodyO E fn args [] J) : CallO E f args L fun v L' => ∃ B, J v B ∧ L' = B ++ L := ⟨fun m ho => by
  refine call_fresh hm hf hb ?_
  obtain ⟨n, v, m', h1, B, h2, h3⟩ := h.ex ⟨.nil, m.next, m.next⟩ Ows.nil
  refine ⟨n, v, m', h1, B ++ L, ?_, B, h3, rfl⟩
  have hab := (above_all hK n).body m.next _ _ _ _ _ h1 ⟨fun id _ => Tr.get_nil id, Nat.le_refl _⟩
  have hnx := hab.next
  have hlen : m.next + (m'.next - m.next) = m'.next := by omega
  have hB : ∀ p ∈ B, m.next ≤ p.1 ∧ p.1 < m'.next := by
    intro p hp
    have hc := h2.at_ p hp
    have hlt := cells_next hc
    refine ⟨Nat.le_of_not_lt fun hl => ?_, hlt⟩
    unfold Mem.cells at hc
    rw [hab.no p.1 hl] at hc
    simp at hc
  refine ⟨?_, fun p hp => ?_⟩
  · rw [List.map_append, List.nodup_append]
    refine ⟨h2.nd, ho.nd, fun a ha b hb e => ?_⟩
    obtain ⟨p, hp, rfl⟩ := List.mem_map.1 ha
    obtain ⟨q, hq, rfl⟩ := List.mem_map.1 hb
    have := (hB p hp).1
    have := ho.lt hq
    omega
  · rcases List.mem_append.1 hp with hp | hp
    · have hc := h2.at_ p hp
      have hr := hB p hp
      unfold Mem.cells at hc ⊢
      simp only [mergeNew_get, hlen]
      rw [if_pos hr.2] at hc ⊢
      rw [if_pos hr]
      exact hc
    · have hc := ho.at_ p hp
      have hr := ho.lt hp
      unfold Mem.cells at hc ⊢
      simp only [mergeNew_get, hlen]
      rw [if_pos hr] at hc
      rw [if_pos (by omega), if_neg (by omega)]
      exact hc⟩
end
end Go.Am
namespace Go.Proofs.Ytfaphhcloanhnaa
open Go.Am
set_option maxRecDepth 4000
set_option maxHeartbeats 8000000
variable {E : Env} {L : Hp}
def swapF (a b p : Int) : Int := if p = a then b else if p = b then a else p
def swapPl (a b : Int) (l : List Int) : List Int := l.map (swapF a b)
def swapOp (a b : Int) : OpD := ⟨1, 14, [a, b], 0, -1, 0⟩
structure LaidD where
  ops : List OpD
  place : List Int
  swaps : Nat
def LaidD.swap (l : LaidD) (a b : Int) : LaidD := ⟨l.ops ++ [swapOp a b], swapPl a b l.place, l.swaps + 1⟩
def midPl (a b : Int) (l : List Int) (k : Nat) : List Int := (l.take k).map (swapF a b) ++ l.drop k
theorem midPl_zero (a b : Int) (l : List Int) : midPl a b l 0 = l := by simp [midPl]
theorem midPl_all (a b : Int) (l : List Int) : midPl a b l l.length = swapPl a b l := by simp [midPl, swapPl]
theorem midPl_len (a b : Int) (l : List Int) (k : Nat) (h : k ≤ l.length) : (midPl a b l k).length = l.length := by simp [midPl]; omega
theorem midPl_get {a b : Int} {l : List Int} {k : Nat} (h : k < l.length) : (midPl a b l k).getD k 0 = l.getD k 0 := by
  have hl : ((l.take k).map (swapF a b)).length = k := by simp; omega
  simp only [midPl, List.getD_eq_getElem?_getD]
  rw [List.getElem?_append_right (by omega), hl, Nat.sub_self, List.getElem?_drop, Nat.add_zero]
theorem midPl_set {a b : Int} {l : List Int} {k : Nat} (h : k < l.length) : (midPl a b l k).set k (swapF a b (l.getD k 0)) = midPl a b l (k + 1) := by
  have hl : ((l.take k).map (swapF a b)).length = k := by simp; omega
  unfold midPl
  rw [List.set_append_right _ _ (by omega), hl, Nat.sub_self, List.drop_eq_getElem_cons h, List.set_cons_zero, List.take_succ_eq_append_getElem h, List.map_append, List.append_assoc]
  have : l.getD k 0 = l[k] := by simp [h]
  rw [this]
  rfl
theorem midPl_same {a b : Int} {l : List Int} {k : Nat} (h : k < l.length) (h1 : l.getD k 0 ≠ a) (h2 : l.getD k 0 ≠ b) : midPl a b l k = midPl a b l (k + 1) := by
  rw [← midPl_set h]
  have : swapF a b (l.getD k 0) = (midPl a b l k).getD k 0 := by rw [midPl_get h]; simp only [swapF, if_neg h1, if_neg h2]
  rw [this]
  have hk : k < (midPl a b l k).length := by rw [midPl_len _ _ _ _ (by omega)]; exact h
  simp [hk]

theorem rswap_fresh (hF : E.fns = fnsT) (hK : KnownAbove E) (hm : E.mode f_route_swap = .fresh) (a b : Int) : CallO E f_route_swap [aint a, aint b] L fun v L' => ∃ id, v = .agg (opCells (.sl id 0 2 1 (some 2)) (swapOp a b)) ∧ L' = (id, [aint a, aint b]) :: L := by
  refine CallO.to ((callO_fresh hK hm (fns_of hF n_route_swap) rfl (J := fun v B => ∃ id i2 xs, v = .agg (opCells (.sl id 0 2 1 (some 2)) (swapOp a b)) ∧ B = [(id, [aint a, aint b]), (i2, xs)]) ?_).mono ?_)
  · refine bodyO_of (Nat.le_of_ble_eq_true rfl) ?_; generalize ht : argSlots _ 0 .nil = t; have h0 : t.get 0 = some _ := (by rw [← ht]; rfl); have h1 : t.get 1 = some _ := (by rw [← ht]; rfl); clear ht
    repeat (first | intro id | refine goq ?_)
    ((first | apply retO_r | apply retO_n); (focus (exact resq)))
    exact ⟨_, _, _, rfl, rfl⟩
  · rintro v L' ⟨B, ⟨id, i2, xs, rfl, rfl⟩, rfl⟩
    exact ⟨(id, [aint a, aint b]) :: L, by exact subq, id, rfl, rfl⟩
/-- What is laid, in boxes: the operations, the places. -/
def LaidB (l : LaidD) (ov pv : AVal) (B : Hp) : Prop := ∃ cs Bs H Pb, BufO 6 ov cs l.ops.length Bs ∧ OpsB cs l.ops H ∧ BufO 1 pv (l.place.map aint) l.place.length Pb ∧ l.ops.length ≤ 1000000 ∧ l.place.length ≤ 64 ∧ B = Bs ++ (H ++ Pb)
end Go.Proofs.Ytfaphhcloanhnaa
