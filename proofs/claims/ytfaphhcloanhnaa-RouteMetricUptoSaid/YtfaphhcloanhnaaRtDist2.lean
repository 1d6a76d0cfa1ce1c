/- Steps between places: the same both ways; no longer than by a third; a neighbour that is nearer. -/
import Derived.Test.YtfaphhcloanhnaaRtDist
set_option linter.unusedSimpArgs false
set_option linter.unusedVariables false
namespace Go.Dist
section
variable {N : Nat} {adj : Nat → Nat → Prop}
theorem IsDist.pos {a v : Nat} {r : List Int} (h : IsDist N adj a r) (hv : v < N) (hne : v ≠ a) (h0 : 0 ≤ r.getD v 0) : 1 ≤ r.getD v 0 := by
  obtain ⟨u, _, _, h1, h2⟩ := h.pred v hv hne h0
  omega
theorem IsDist.via {x u : Nat} {r r' : List Int} (h : IsDist N adj x r) (h' : IsDist N adj u r') (hx : x < N) (hu : u < N) (hadj : adj x u) : ∀ (k v : Nat), v < N → r'.getD v 0 = k → 0 ≤ r.getD v 0 ∧ r.getD v 0 ≤ k + 1 := by
  have h0 := h.edge x u hx hu hadj (by rw [h.src0]; omega)
  rw [h.src0] at h0
  intro k
  induction k with
  | zero =>
    intro v hv hk
    by_cases e : v = u
    · subst e; omega
    · have := h'.pos hv e (by omega); omega
  | succ k ih =>
    intro v hv hk
    by_cases e : v = u
    · subst e; have := h'.src0; omega
    · obtain ⟨w, hw, ha, h1, h2⟩ := h'.pred v hv e (by omega)
      have h3 := ih w hw (by omega)
      have h4 := h.edge w v hw hv ha h3.1
      omega
theorem IsDist.tri {a c : Nat} {r r' : List Int} (h : IsDist N adj a r) (h' : IsDist N adj c r') (hc : c < N) (h0 : 0 ≤ r.getD c 0) : ∀ (k v : Nat), v < N → r'.getD v 0 = k → 0 ≤ r.getD v 0 ∧ r.getD v 0 ≤ r.getD c 0 + k := by
  intro k
  induction k with
  | zero =>
    intro v hv hk
    by_cases e : v = c
    · subst e; omega
    · have := h'.pos hv e (by omega); omega
  | succ k ih =>
    intro v hv hk
    by_cases e : v = c
    · subst e; have := h'.src0; omega
    · obtain ⟨w, hw, ha, h1, h2⟩ := h'.pred v hv e (by omega)
      have h3 := ih w hw (by omega)
      have h4 := h.edge w v hw hv ha h3.1
      omega
theorem sym_le (hsym : ∀ a b, adj a b → adj b a) {R : Nat → List Int} (hR : ∀ a, a < N → IsDist N adj a (R a)) {y : Nat} (hy : y < N) : ∀ (k x : Nat), x < N → (R y).getD x 0 = k → 0 ≤ (R x).getD y 0 ∧ (R x).getD y 0 ≤ k := by
  intro k
  induction k with
  | zero =>
    intro x hx hk
    by_cases e : x = y
    · subst e; rw [(hR x hx).src0]; omega
    · have := (hR y hy).pos hx e (by omega); omega
  | succ k ih =>
    intro x hx hk
    by_cases e : x = y
    · subst e; rw [(hR x hx).src0]; omega
    · obtain ⟨u, hu, ha, h1, h2⟩ := (hR y hy).pred x hx e (by omega)
      have h3 := ih u hu (by omega)
      have h4 := (hR x hx).via (hR u hu) hx hu (hsym _ _ ha) ((R u).getD y 0).toNat y hy (by omega)
      omega
theorem sym_eq (hsym : ∀ a b, adj a b → adj b a) {R : Nat → List Int} (hR : ∀ a, a < N → IsDist N adj a (R a)) {x y : Nat} (hx : x < N) (hy : y < N) : (R x).getD y 0 = (R y).getD x 0 := by
  have l1 := (hR x hx).lo y hy
  have l2 := (hR y hy).lo x hx
  by_cases c : 0 ≤ (R y).getD x 0
  · have h1 := sym_le hsym hR hy ((R y).getD x 0).toNat x hx (by omega)
    have h2 := sym_le hsym hR hx ((R x).getD y 0).toNat y hy (by omega)
    omega
  · by_cases c' : 0 ≤ (R x).getD y 0
    · have h2 := sym_le hsym hR hx ((R x).getD y 0).toNat y hy (by omega)
      omega
    · omega
theorem one_iff {a b : Nat} {r : List Int} (h : IsDist N adj a r) (ha : a < N) (hb : b < N) (hne : adj a b → a ≠ b) : r.getD b 0 = 1 ↔ adj a b := by
  constructor
  · intro h1
    have hne : b ≠ a := by rintro rfl; have := h.src0; omega
    obtain ⟨u, hu, hadj, h2, h3⟩ := h.pred b hb hne (by omega)
    have : u = a := by
      apply Classical.byContradiction
      intro e
      have := h.pos hu e h2
      omega
    subst this
    exact hadj
  · intro hadj
    have h1 := h.edge a b ha hb hadj (by rw [h.src0]; omega)
    have h2 := h.pos hb (fun e => hne hadj e.symm) h1.1
    have := h.src0
    omega
/-- A neighbour that is one step nearer. -/
theorem nearer (hsym : ∀ a b, adj a b → adj b a) {R : Nat → List Int} (hR : ∀ a, a < N → IsDist N adj a (R a)) {a b : Nat} (ha : a < N) (hb : b < N) (hne : a ≠ b) (h0 : 0 ≤ (R a).getD b 0) : ∃ k, k < N ∧ adj a k ∧ (R k).getD b 0 = (R a).getD b 0 - 1 := by
  have e := sym_eq hsym hR ha hb
  obtain ⟨u, hu, hadj, h1, h2⟩ := (hR b hb).pred a ha hne (by omega)
  refine ⟨u, hu, hsym _ _ hadj, ?_⟩
  rw [sym_eq hsym hR hu hb]
  omega
end
theorem dist_lt {N src : Nat} {ps : List (Nat × Nat)} (hps : ∀ p ∈ ps, p.1 < N ∧ p.2 < N) (hsrc : src < N) {v : Nat} (hv : v < N) : (dist N ps src).getD v 0 < N :=
  lt_N hsrc (relN_pre hps N 0 (start N src) (by omega) (start_pre (adj := Adj ps) hsrc)) hv
theorem adj_sym {ps : List (Nat × Nat)} : ∀ a b, Adj ps a b → Adj ps b a := fun _ _ h => h.symm
/-- All places hang together: from 0 to each, so from each to each. -/
theorem conn {N : Nat} {ps : List (Nat × Nat)} (hps : ∀ p ∈ ps, p.1 < N ∧ p.2 < N) (h0 : ∀ v, v < N → 0 ≤ (dist N ps 0).getD v 0) {a b : Nat} (ha : a < N) (hb : b < N) : 0 ≤ (dist N ps a).getD b 0 := by
  have hR : ∀ x, x < N → IsDist N (Adj ps) x (dist N ps x) := fun x hx => dist_is hps hx
  have hz : 0 < N := by omega
  have h1 : 0 ≤ (dist N ps a).getD 0 0 := by rw [sym_eq adj_sym hR ha hz]; exact h0 a ha
  exact ((hR a ha).tri (hR 0 hz) hz h1 ((dist N ps 0).getD b 0).toNat b hb (by have := h0 b hb; omega)).1
end Go.Dist
