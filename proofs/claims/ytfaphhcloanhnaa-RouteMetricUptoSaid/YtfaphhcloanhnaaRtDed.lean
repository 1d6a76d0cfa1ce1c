/- Rising numbers: equal neighbours struck. -/
set_option linter.unusedSimpArgs false
set_option linter.unusedVariables false
namespace Go.Ded
/-- Of neighbours that are equal one stays. -/
def dd : List Int → List Int
  | [] => []
  | [a] => [a]
  | a :: b :: r => if a = b then dd (b :: r) else a :: dd (b :: r)
theorem dd_mem (x : Int) : ∀ l, x ∈ dd l ↔ x ∈ l
  | [] => by simp [dd]
  | [a] => by simp [dd]
  | a :: b :: r => by
    have ih := dd_mem x (b :: r)
    unfold dd
    split
    · rename_i e
      subst e
      rw [ih]
      simp
    · rw [List.mem_cons, ih, List.mem_cons (l := b :: r)]
theorem dd_head (a : Int) (r : List Int) : ∃ s, dd (a :: r) = a :: s := by
  induction r generalizing a with
  | nil => exact ⟨[], rfl⟩
  | cons b r ih =>
    unfold dd
    split
    · rename_i e
      subst e
      exact ih a
    · exact ⟨_, rfl⟩
theorem dd_rise : ∀ l : List Int, l.Pairwise (· ≤ ·) → (dd l).Pairwise (· < ·)
  | [], _ => by simp [dd]
  | [a], _ => by simp [dd]
  | a :: b :: r, h => by
    have h1 := List.pairwise_cons.1 h
    have ih := dd_rise (b :: r) h1.2
    unfold dd
    split
    · exact ih
    · rename_i hne
      refine List.pairwise_cons.2 ⟨fun x hx => ?_, ih⟩
      rw [dd_mem] at hx
      have h2 := h1.1 b (by simp)
      have h3 : b ≤ x := by
        rcases List.mem_cons.1 hx with rfl | hx
        · exact Int.le_refl _
        · exact (List.pairwise_cons.1 h1.2).1 x hx
      omega
theorem dd_snoc (l : List Int) (x : Int) : dd (l ++ [x]) = if l.getLast? = some x then dd l else dd l ++ [x] := by
  induction l with
  | nil => simp [dd]
  | cons a r ih =>
    cases r with
    | nil =>
      by_cases h : a = x <;> simp [dd, h]
    | cons b r =>
      rw [List.cons_append, List.cons_append]
      unfold dd
      rw [← List.cons_append, ih]
      have e : (a :: b :: r).getLast? = (b :: r).getLast? := by simp
      rw [e]
      split <;> split <;> simp
theorem dd_len (l : List Int) : (dd l).length ≤ l.length := by
  induction l with
  | nil => simp [dd]
  | cons a r ih =>
    cases r with
    | nil => simp [dd]
    | cons b r =>
      unfold dd
      split
      · simp only [List.length_cons] at ih ⊢; omega
      · simp only [List.length_cons] at ih ⊢; omega
/-- Rising lists of the same numbers are one. -/
theorem rise_eq : ∀ {a b : List Int}, a.Pairwise (· < ·) → b.Pairwise (· < ·) → (∀ x, x ∈ a ↔ x ∈ b) → a = b
  | [], [], _, _, _ => rfl
  | [], y :: b, _, _, h => by have := (h y).2 (by simp); simp at this
  | x :: a, [], _, _, h => by have := (h x).1 (by simp); simp at this
  | x :: a, y :: b, ha, hb, h => by
    have ha' := List.pairwise_cons.1 ha
    have hb' := List.pairwise_cons.1 hb
    have e : x = y := by
      rcases List.mem_cons.1 ((h x).1 (by simp)) with e | h1
      · exact e
      · rcases List.mem_cons.1 ((h y).2 (by simp)) with e | h2
        · exact e.symm
        · have := ha'.1 y h2
          have := hb'.1 x h1
          omega
    subst e
    rw [rise_eq ha'.2 hb'.2 fun z => ?_]
    constructor
    · intro hz
      rcases List.mem_cons.1 ((h z).1 (by simp [hz])) with e | h1
      · have := ha'.1 z hz; omega
      · exact h1
    · intro hz
      rcases List.mem_cons.1 ((h z).2 (by simp [hz])) with e | h1
      · have := hb'.1 z hz; omega
      · exact h1
end Go.Ded
