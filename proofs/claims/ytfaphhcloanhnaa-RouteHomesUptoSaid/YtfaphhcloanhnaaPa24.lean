/- Parts of the proof, joined by program: LaLR, LaHP, LaHS, LaHA, LaHQ, LaHB, LaLT, LaLU, LaLV, LaLW, LaLX. -/
import Derived.Test.YtfaphhcloanhnaaPa23
import Derived.Test.YtfaphhcloanhnaaPa1
import Derived.Test.YtfaphhcloanhnaaPa10
set_option linter.unusedSimpArgs false
set_option linter.unusedVariables false
namespace Go.Proofs.Ytfaphhcloanhnaa
open Go.Am Go.Dist
set_option maxRecDepth 4000
set_option maxHeartbeats 8000000
variable {E : Env} {L : Hp}
/-! Brought together -/
/-- Places of qubits: apart, and there. -/
structure PlOk (N : Nat) (pl : List Int) : Prop where
  lo : ∀ i, i < pl.length → 0 ≤ pl.getD i 0 ∧ pl.getD i 0 < N
  inj : ∀ i j, i < pl.length → j < pl.length → pl.getD i 0 = pl.getD j 0 → i = j
theorem swapF_inj {a b x y : Int} (h : swapF a b x = swapF a b y) : x = y := by
  unfold swapF at h
  repeat' (split at h)
  all_goals omega
theorem swapPl_get {a b : Int} {l : List Int} {i : Nat} (h : i < l.length) : (swapPl a b l).getD i 0 = swapF a b (l.getD i 0) := by simp [swapPl, h]
theorem swapPl_length (a b : Int) (l : List Int) : (swapPl a b l).length = l.length := by simp [swapPl]
theorem PlOk.swap {N : Nat} {pl : List Int} {a b : Int} (h : PlOk N pl) (ha : 0 ≤ a ∧ a < N) (hb : 0 ≤ b ∧ b < N) : PlOk N (swapPl a b pl) := by
  refine ⟨fun i hi => ?_, fun i j hi hj e => ?_⟩
  · rw [swapPl_length] at hi
    rw [swapPl_get hi]
    have := h.lo i hi
    unfold swapF
    split
    · exact hb
    · split
      · exact ha
      · exact this
  · rw [swapPl_length] at hi hj
    rw [swapPl_get hi, swapPl_get hj] at e
    exact h.inj i j hi hj (swapF_inj e)
def bringN (N : Nat) (ps : List (Nat × Nat)) (i j : Nat) : Nat → LaidD → LaidD
  | 0, l => l
  | d + 1, l => bringN N ps i j d (l.swap (l.place.getD i 0) ((nxt N ps (l.place.getD j 0).toNat (l.place.getD i 0).toNat : Nat) : Int))
end Go.Proofs.Ytfaphhcloanhnaa
namespace Go.Proofs.Ytfaphhcloanhnaa
/-- A tree: each place but 0 has a parent that is one step nearer to 0. -/
structure TreeP (par rk : Nat → Nat) : Prop where
  rk0 : rk 0 = 0
  zero : ∀ p, rk p = 0 → p = 0
  next : ∀ p, p ≠ 0 → rk (par p) + 1 = rk p
section
variable {par rk : Nat → Nat}
def upF (par : Nat → Nat) : Nat → Nat → List Nat
  | 0, p => [p]
  | n + 1, p => p :: upF par n (par p)
/-- From a place up to 0. -/
def upL (par rk : Nat → Nat) (p : Nat) : List Nat := upF par (rk p) p
theorem upL_cons (h : TreeP par rk) {p : Nat} (hp : p ≠ 0) : upL par rk p = p :: upL par rk (par p) := by
  unfold upL
  rw [← h.next p hp]
  rfl
theorem upL_zero (h : TreeP par rk) : upL par rk 0 = [0] := by
  unfold upL
  rw [h.rk0]
  rfl
theorem upL_ind (h : TreeP par rk) {P : Nat → Prop} (h0 : P 0) (hs : ∀ p, p ≠ 0 → P (par p) → P p) : ∀ p, P p := by
  have : ∀ n p, rk p = n → P p := by
    intro n
    induction n with
    | zero => intro p hp; rw [h.zero p hp]; exact h0
    | succ n ih =>
      intro p hp
      have hne : p ≠ 0 := fun e => by rw [e, h.rk0] at hp; omega
      exact hs p hne (ih _ (by have := h.next p hne; omega))
  exact fun p => this _ p rfl
theorem self_mem (h : TreeP par rk) (p : Nat) : p ∈ upL par rk p := by
  by_cases e : p = 0
  · rw [e, upL_zero h]; simp
  · rw [upL_cons h e]; simp
theorem zero_mem (h : TreeP par rk) : ∀ p, 0 ∈ upL par rk p := upL_ind h (by rw [upL_zero h]; simp) fun p hp ih => by rw [upL_cons h hp]; simp [ih]
theorem up_rk (h : TreeP par rk) : ∀ p, ∀ q ∈ upL par rk p, rk q ≤ rk p := upL_ind h (by rw [upL_zero h]; simp) fun p hp ih => by
  rw [upL_cons h hp]
  intro q hq
  rcases List.mem_cons.1 hq with rfl | hq
  · exact Nat.le_refl _
  · have := ih q hq
    have := h.next p hp
    omega
theorem up_nodup (h : TreeP par rk) : ∀ p, (upL par rk p).Nodup := upL_ind h (by rw [upL_zero h]; simp) fun p hp ih => by
  rw [upL_cons h hp, List.nodup_cons]
  refine ⟨fun hm => ?_, ih⟩
  have := up_rk h _ _ hm
  have := h.next p hp
  omega
/-- 0 is the last. -/
theorem up_last (h : TreeP par rk) : ∀ p, ∃ X, upL par rk p = X ++ [0] ∧ 0 ∉ X := upL_ind h ⟨[], upL_zero h, by simp⟩ fun p hp ⟨X, h1, h2⟩ => ⟨p :: X, by rw [upL_cons h hp, h1]; rfl, by simp [h2, Ne.symm hp]⟩
/-- The way that the program goes. -/
def wayP (par rk : Nat → Nat) (a b : Nat) : List Nat :=
  (upL par rk a).take ((upL par rk a).findIdx (fun x => (upL par rk b).contains x) + 1) ++ ((upL par rk b).take ((upL par rk b).idxOf ((upL par rk a).getD ((upL par rk a).findIdx fun x => (upL par rk b).contains x) 0))).reverse
theorem wayP_in (h : TreeP par rk) {a b : Nat} (hm : a ∈ upL par rk b) : wayP par rk a b = a :: ((upL par rk b).take ((upL par rk b).idxOf a)).reverse := by
  unfold wayP
  obtain ⟨r, hr⟩ : ∃ r, upL par rk a = a :: r := by
    by_cases e : a = 0
    · exact ⟨[], by rw [e, upL_zero h]⟩
    · exact ⟨_, upL_cons h e⟩
  have hf : (upL par rk a).findIdx (fun x => (upL par rk b).contains x) = 0 := by
    rw [hr, List.findIdx_cons]
    simp [hm]
  rw [hf, hr]
  simp
theorem wayP_out (h : TreeP par rk) {a b : Nat} (hm : a ∉ upL par rk b) : a ≠ 0 ∧ wayP par rk a b = a :: wayP par rk (par a) b := by
  have ha : a ≠ 0 := fun e => hm (e ▸ zero_mem h b)
  refine ⟨ha, ?_⟩
  have hc := upL_cons h ha
  have hf : (upL par rk a).findIdx (fun x => (upL par rk b).contains x) = (upL par rk (par a)).findIdx (fun x => (upL par rk b).contains x) + 1 := by
    rw [hc, List.findIdx_cons]
    have : (upL par rk b).contains a = false := by simpa using hm
    rw [this]
    rfl
  unfold wayP
  rw [hf, hc]
  simp
/-- The next place on the way from a to b, asq the document tells it. -/
def nxF (par : Nat → Nat) (a : Nat) : List Nat → Nat → Nat
  | [], _ => par a
  | p :: r, last => if p = a then last else if p = 0 then par a else nxF par a r p
def nxtT (par rk : Nat → Nat) (a b : Nat) : Nat := nxF par a (upL par rk b) b
theorem nxF_out {a : Nat} : ∀ (D : List Nat) (last : Nat), a ∉ D → nxF par a D last = par a
  | [], _, _ => rfl
  | p :: r, last, h => by
    unfold nxF
    rw [if_neg (fun e => h (by simp [e]))]
    split
    · rfl
    · exact nxF_out r p fun hm => h (by simp [hm])
theorem nxF_in {a : Nat} {Y : List Nat} : ∀ (X : List Nat) (last : Nat), a ∉ X → 0 ∉ X → nxF par a (X ++ a :: Y) last = X.getLastD last
  | [], last, _, _ => by simp [nxF]
  | p :: r, last, h, h0 => by
    rw [List.cons_append, nxF, if_neg (fun e => h (by simp [e])), if_neg (fun e => h0 (by simp [e])), nxF_in r p (fun hm => h (by simp [hm])) (fun hm => h0 (by simp [hm]))]
    cases r with
    | nil => rfl
    | cons q r => simp [List.getLastD]
/-- From place to place, until b. -/
inductive WalkP (nx : Nat → Nat → Nat) (b : Nat) : Nat → List Nat → Prop where
  | stop : WalkP nx b b [b]
  | step {a : Nat} {l : List Nat} (h : a ≠ b) (w : WalkP nx b (nx a b) l) : WalkP nx b a (a :: l)
theorem walk_in (h : TreeP par rk) {b : Nat} : ∀ (n : Nat) (X Y : List Nat) (a : Nat), X.length = n → upL par rk b = X ++ a :: Y → WalkP (nxtT par rk) b a (a :: X.reverse) := by
  intro n
  induction n with
  | zero =>
    intro X Y a hn hD
    obtain rfl : X = [] := List.eq_nil_of_length_eq_zero hn
    have : a = b := by
      by_cases e : b = 0
      · subst e
        rw [upL_zero h] at hD
        simp at hD
        exact hD.1.symm
      · rw [upL_cons h e] at hD
        simp at hD
        exact hD.1.symm
    subst this
    exact .stop
  | succ n ih =>
    intro X Y a hn hD
    obtain ⟨X', c, rfl⟩ : ∃ X' c, X = X' ++ [c] := by
      have hne : X ≠ [] := by intro e; rw [e] at hn; simp at hn
      exact ⟨X.dropLast, X.getLast hne, (List.dropLast_concat_getLast hne).symm⟩
    have hnd := up_nodup h b
    rw [hD] at hnd
    have hax : a ∉ X' ++ [c] := fun hm => by
      rw [List.nodup_append] at hnd
      exact hnd.2.2 a hm a (by simp) rfl
    have h0x : 0 ∉ X' ++ [c] := fun hm => by
      obtain ⟨Z, h1, -⟩ := up_last h b
      rw [h1] at hD
      have hl := congrArg List.getLast? hD
      rw [List.getLast?_append, List.getLast?_append] at hl
      simp only [List.getLast?_singleton, Option.some_or] at hl
      have hl2 : (a :: Y).getLast? = some 0 := by
        cases hg : (a :: Y).getLast? with
        | none => simp at hg
        | some z => rw [hg] at hl; simpa using hl.symm
      rw [List.nodup_append] at hnd
      exact hnd.2.2 0 hm 0 (List.mem_of_getLast? hl2) rfl
    have hb : a ≠ b := fun e => by
      apply hax
      have hh : (upL par rk b).head? = some b := by
        by_cases e : b = 0
        · rw [e, upL_zero h]; rfl
        · rw [upL_cons h e]; rfl
      rw [hD] at hh
      rw [e]
      cases X' with
      | nil => simp at hh; simp [hh]
      | cons x X' => simp at hh; simp [hh]
    have hn2 : nxtT par rk a b = c := by
      unfold nxtT
      rw [hD, nxF_in _ _ hax h0x]
      simp
    rw [List.reverse_append]
    refine .step hb ?_
    rw [hn2]
    exact ih X' (a :: Y) c (by simpa using hn) (by rw [hD, List.append_assoc]; rfl)
/-- The program's way is the document's, step by step. -/
theorem walk_way (h : TreeP par rk) (b : Nat) : ∀ a, WalkP (nxtT par rk) b a (wayP par rk a b) := by
  have hin : ∀ a, a ∈ upL par rk b → WalkP (nxtT par rk) b a (wayP par rk a b) := by
    intro a hm
    rw [wayP_in h hm]
    have hi := List.idxOf_lt_length_of_mem hm
    refine walk_in h _ _ ((upL par rk b).drop ((upL par rk b).idxOf a + 1)) a rfl ?_
    have h1 := List.take_append_drop ((upL par rk b).idxOf a) (upL par rk b)
    rw [List.drop_eq_getElem_cons hi, List.getElem_idxOf] at h1
    exact h1.symm
  refine upL_ind h (hin 0 (zero_mem h b)) fun a ha ih => ?_
  by_cases hm : a ∈ upL par rk b
  · exact hin a hm
  · rw [(wayP_out h hm).2]
    refine .step (fun e => hm (e ▸ self_mem h a)) ?_
    have : nxtT par rk a b = par a := nxF_out _ _ hm
    rw [this]
    exact ih
/-- Two lists in order that hold the same are the same. -/
theorem sorted_eq {α : Type} {r : α → α → Prop} (asym : ∀ a b, r a b → r b a → False) : ∀ {l m : List α}, l.Perm m → l.Pairwise r → m.Pairwise r → l = m
  | [], m, hp, _, _ => (hp.nil_eq).symm ▸ rfl
  | a :: l, [], hp, _, _ => (List.not_perm_cons_nil hp).elim
  | a :: l, b :: m, hp, hl, hm => by
    rw [List.pairwise_cons] at hl hm
    have e : a = b := by
      have h1 : a ∈ b :: m := hp.subset (by simp)
      have h2 : b ∈ a :: l := hp.symm.subset (by simp)
      rcases List.mem_cons.1 h1 with e | h1
      · exact e
      rcases List.mem_cons.1 h2 with e | h2
      · exact e.symm
      exact (asym _ _ (hl.1 b h2) (hm.1 a h1)).elim
    subst e
    rw [sorted_eq asym (List.Perm.cons_inv hp) hl.2 hm.2]
end
/-- The order in which the document brings the places home: the farthest first, of these the greatest. -/
def homeL (rk : Nat → Nat) (n : Nat) : List Nat := (List.range (n + 1)).reverse.flatMap fun d => (List.range n).reverse.filter fun p => rk p == d
def homeR (rk : Nat → Nat) (a b : Nat) : Prop := rk b < rk a ∨ rk a = rk b ∧ b < a
theorem homeR_asym {rk : Nat → Nat} (a b : Nat) (h : homeR rk a b) (k : homeR rk b a) : False := by
  unfold homeR at h k
  omega
theorem rev_range : ∀ n, (List.range n).reverse.Pairwise fun a b => b < a := fun n => by
  rw [List.pairwise_reverse]
  exact List.pairwise_lt_range
theorem homeL_sorted (rk : Nat → Nat) (n : Nat) : (homeL rk n).Pairwise (homeR rk) := by
  unfold homeL
  rw [List.pairwise_flatMap]
  refine ⟨fun d hd => ?_, ?_⟩
  · rw [List.pairwise_filter]
    refine (rev_range n).imp fun {a b} hab h1 h2 => ?_
    rw [beq_iff_eq] at h1 h2
    exact .inr ⟨by omega, hab⟩
  · refine (rev_range (n + 1)).imp fun {d e} hde x hx y hy => ?_
    rw [List.mem_filter, beq_iff_eq] at hx hy
    exact .inl (by omega)
theorem homeL_perm {rk : Nat → Nat} {n : Nat} (h : ∀ p, p < n → rk p ≤ n) : (homeL rk n).Perm (List.range n) := by
  have hnd : (homeL rk n).Nodup := by
    rw [List.nodup_iff_pairwise_ne]
    refine (homeL_sorted rk n).imp fun {a b} hab e => ?_
    subst e
    exact homeR_asym _ _ hab hab
  refine (List.perm_ext_iff_of_nodup hnd List.nodup_range).2 fun p => ?_
  unfold homeL
  simp only [List.mem_flatMap, List.mem_reverse, List.mem_range, List.mem_filter, beq_iff_eq]
  constructor
  · rintro ⟨d, h1, h2, h3⟩
    exact h2
  · intro hp
    exact ⟨rk p, by have := h p hp; omega, hp, rfl⟩
end Go.Proofs.Ytfaphhcloanhnaa
namespace Go.Proofs.Ytfaphhcloanhnaa
instance homeR_dec (rk : Nat → Nat) (a b : Nat) : Decidable (homeR rk a b) := by unfold homeR; exact inferInstance
theorem homeR_total {rk : Nat → Nat} {a b : Nat} (h : a ≠ b) : homeR rk a b ∨ homeR rk b a := by
  unfold homeR
  omega
theorem homeR_trans {rk : Nat → Nat} {a b c : Nat} (h : homeR rk a b) (k : homeR rk b c) : homeR rk a c := by
  unfold homeR at *
  omega
/-- Numbers from 0 on, sorted by the order. -/
theorem homeSort {rk : Nat → Nat} {n : Nat} (h : ∀ p, p < n → rk p ≤ n) : ((List.range n).mergeSort fun x y => !decide (homeR rk y x)) = homeL rk n := by
  have hp := List.mergeSort_perm (List.range n) fun x y => !decide (homeR rk y x)
  refine sorted_eq homeR_asym (hp.trans (homeL_perm h).symm) ?_ (homeL_sorted rk n)
  have h1 := List.pairwise_mergeSort (le := fun x y => !decide (homeR rk y x)) (fun a b c h1 h2 => by
    simp only [Bool.not_eq_true', decide_eq_false_iff_not] at *
    intro h3
    by_cases e : b = a
    · subst e; exact h2 h3
    · rcases homeR_total (rk := rk) e with h4 | h4
      · exact h1 h4
      · by_cases e2 : c = b
        · subst e2; exact h1 h3
        · rcases homeR_total (rk := rk) e2 with h5 | h5
          · exact h2 h5
          · exact homeR_asym _ _ h3 (homeR_trans h4 h5)) (fun a b => by
    simp only [Bool.or_eq_true, Bool.not_eq_true', decide_eq_false_iff_not]
    by_cases h3 : homeR rk b a
    · exact .inr fun h4 => homeR_asym _ _ h3 h4
    · exact .inl h3) (List.range n)
  have h2 : ((List.range n).mergeSort fun x y => !decide (homeR rk y x)).Nodup := hp.symm.nodup_iff.1 List.nodup_range
  rw [List.nodup_iff_pairwise_ne] at h2
  refine (h1.and h2).imp fun {a b} ⟨h3, h4⟩ => ?_
  simp only [Bool.not_eq_true', decide_eq_false_iff_not] at h3
  rcases homeR_total (rk := rk) h4 with h5 | h5
  · exact h5
  · exact (h3 h5).elim
/-- The program's comparison of two places. -/
def homeC (rk : Nat → Nat) (a b : Nat) : Int := if rk a = rk b then (b : Int) - a else (rk b : Int) - rk a
theorem homeC_lt {rk : Nat → Nat} {a b : Nat} : homeC rk a b < 0 ↔ homeR rk a b := by
  unfold homeC homeR
  split <;> omega
end Go.Proofs.Ytfaphhcloanhnaa
namespace Go.Proofs.Ytfaphhcloanhnaa
open Go.Am Go.Dist
set_option maxRecDepth 4000
set_option maxHeartbeats 8000000
variable {E : Env} {L : Hp}
/-- Places' distances from place 0; the tree. Beyond the map: a tail, so that all numbers hang together. -/
def rkT (N : Nat) (ps : List (Nat × Nat)) (p : Nat) : Nat := if p < N then (D N ps 0 p).toNat else p - N + 1
def parT (N : Nat) (ps : List (Nat × Nat)) (p : Nat) : Nat := if p < N then nxt N ps 0 p else if p = N then 0 else p - 1
theorem D_sym {N : Nat} {ps : List (Nat × Nat)} (h : Good N ps) {a b : Nat} (ha : a < N) (hb : b < N) : D N ps a b = D N ps b a := sym_eq adj_sym h.is ha hb
theorem tree_ok {N : Nat} {ps : List (Nat × Nat)} (h : Good N ps) (h0 : 0 < N) : TreeP (parT N ps) (rkT N ps) where
  rk0 := by
    unfold rkT
    rw [if_pos h0, (h.zero h0 h0).2 rfl]
    rfl
  zero := fun p hp => by
    unfold rkT at hp
    split at hp
    · rename_i hl
      have := (h.conn 0 p h0 hl).1
      exact ((h.zero h0 hl).1 (by omega)).symm
    · omega
  next := fun p hp => by
    by_cases hl : p < N
    · obtain ⟨h1, h2⟩ := h.nxt hl h0 hp
      have h3 := (nbl_mem.1 h1).1
      unfold parT
      rw [if_pos hl]
      unfold rkT
      rw [if_pos hl, if_pos h3, D_sym h h0 h3, D_sym h h0 hl, h2]
      have h4 := (h.conn p 0 hl h0).1
      have h5 : D N ps p 0 ≠ 0 := fun e => hp ((h.zero hl h0).1 e)
      omega
    · unfold parT
      rw [if_neg hl]
      by_cases e : p = N
      · rw [if_pos e]
        unfold rkT
        rw [if_pos h0, if_neg hl, (h.zero h0 h0).2 rfl]
        subst e
        simp
      · rw [if_neg e]
        unfold rkT
        rw [if_neg hl, if_neg (by omega)]
        omega
theorem rkT_le {N : Nat} {ps : List (Nat × Nat)} (h : Good N ps) (h0 : 0 < N) : ∀ p, p < N → rkT N ps p ≤ N := fun p hp => by
  unfold rkT
  rw [if_pos hp]
  have := (h.conn 0 p h0 hp).2
  omega
theorem upF_path {N : Nat} {ps : List (Nat × Nat)} (h : Good N ps) (h0 : 0 < N) : ∀ (n a : Nat), a < N → D N ps a 0 = n → upF (parT N ps) n a = a :: pathFrom N ps 0 n a
  | 0, a, _, _ => rfl
  | n + 1, a, ha, hD => by
    have hne : a ≠ 0 := by rintro rfl; have := (h.zero h0 h0).2 rfl; omega
    obtain ⟨h1, h2⟩ := h.nxt ha h0 hne
    have h3 := (nbl_mem.1 h1).1
    show a :: upF (parT N ps) n (parT N ps a) = a :: nxt N ps 0 a :: pathFrom N ps 0 n (nxt N ps 0 a)
    have : parT N ps a = nxt N ps 0 a := by unfold parT; rw [if_pos ha]
    rw [this, upF_path h h0 n _ h3 (by omega)]
theorem upL_path {N : Nat} {ps : List (Nat × Nat)} (h : Good N ps) {a : Nat} (ha : a < N) : upL (parT N ps) (rkT N ps) a = a :: pathFrom N ps 0 (D N ps a 0).toNat a := by
  have h0 : 0 < N := by omega
  have h1 := (h.conn a 0 ha h0).1
  unfold upL
  have : rkT N ps a = (D N ps a 0).toNat := by unfold rkT; rw [if_pos ha, D_sym h h0 ha]
  rw [this]
  exact upF_path h h0 _ a ha (by omega)
theorem up1_ok (hF : E.fns = fnsT) (hm : E.mode f_route_up_1 = .iso false) (hst : still E c_route_up_1_r1 = true) {N : Nat} {ps : List (Nat × Nat)} {fv : AVal} {x a : Nat} (hfv : SlI fv (dist N ps 0)) (hx : x < N) (ha : a < N) (hbd : 0 ≤ D N ps 0 a ∧ D N ps 0 a ≤ N) (hN : N ≤ 64) :
    CallO E f_route_up_1 [aint x, .ro [fv], .ro [aint a]] L fun v L' => v = abool (decide (D N ps 0 x = D N ps 0 a - 1)) ∧ L' = L := by
  refine callO_iso0 hm (fns_of hF n_route_up_1) (vs_bare rfl (vs_bare (by simp only [AVal.bare, bareAll, bare_SlI hfv]; rfl) (vs_bare rfl vs_nil))) ?_
  have lx := dist_len N ps 0
  have hf1 := RowA.isOne hfv
  unfold D at hbd ⊢
  refine bodyO_of (Nat.le_of_ble_eq_true rfl) ?_; generalize ht : argSlots _ 0 .nil = t; have h0 : t.get 0 = some _ := (by rw [← ht]; rfl); have h1 : t.get 1 = some _ := (by rw [← ht]; rfl); have h2 : t.get 2 = some _ := (by rw [← ht]; rfl); clear ht
  repeat (first | intro id | refine goq ?_)
  ((first | apply retO_r | apply retO_n); (focus (exact resq)))
  exact ⟨rfl, rfl⟩
theorem up_loop (hF : E.fns = fnsT) (hmi : E.mode f_slices_IndexFunc_int_int = .iso false) (hmp : E.mode f_route_up_1 = .iso false) (hst3 : still E c_route_up_r3 = true) (hst1 : still E c_route_up_1_r1 = true) {N i4 i5 : Nat} {ps : List (Nat × Nat)} {nv w fv : AVal} (hG : Good N ps) (h0N : 0 < N) (hnv : SlS nv ((nbs N ps).map inat)) (hw1 : w.one = true) (hfv : SlI fv (dist N ps 0)) (hview : ∀ M : Hp, (∀ id c, In id c L → In id c M) → ViewO M 62 w fv) :
    ∀ (n a : Nat) (t : Tr AVal) (acc : List Nat) (iw : Nat) (cap : Option Nat), a < N → D N ps a 0 = n → acc.length + n ≤ 1000 → (cap = some acc.length ∨ cap = none) → t.get 0 = some nv → t.get 4 = some (.ptr i4 0) → t.get 5 = some (.ptr i5 0) → t.get 7 = some (.sl iw 0 acc.length 1 cap) →
    WpO E (.loop c_route_up_l0) t ((iw, (inat acc).map aint) :: (i5, [aint a]) :: (i4, [w]) :: L) (fun ex t' L' => ex = .exit 0 ∧ ∃ iw' cap', t'.get 7 = some (.sl iw' 0 (acc ++ pathFrom N ps 0 n a).length 1 cap') ∧ (cap' = some (acc ++ pathFrom N ps 0 n a).length ∨ cap' = none) ∧ Am.Sub ((iw', (inat (acc ++ pathFrom N ps 0 n a)).map aint) :: L) L') := by
  intro n
  induction n with
  | zero =>
    intro a t acc iw cap ha hD hl hcp h0 h4 h5 h7
    have hab : a = 0 := (hG.zero ha h0N).1 hD
    refine wo_loop ?_
    repeat (first | intro id | refine goq ?_)
    refine ⟨rfl, iw, cap, ?_, ?_, ?_⟩
    · simp only [pathFrom, List.append_nil]; exact slotq
    · simp only [pathFrom, List.append_nil]; exact hcp
    · simp only [pathFrom, List.append_nil]; exact subq
  | succ n ih =>
    intro a t0 acc iw cap ha hD hl hcp h0 h4 h5 h7
    have hab : a ≠ 0 := by rintro rfl; have := (hG.zero ha ha).2 rfl; omega
    obtain ⟨hx1, hx2⟩ := hG.nxt ha h0N hab
    have hxN := (nbl_mem.1 hx1).1
    obtain ⟨us, r1, r2, r3⟩ := hnv.row
    rw [List.length_map, nbs_length] at r1 r2 r3
    obtain ⟨ua, ha1, ha2⟩ := r3 a ha
    have hnb : ((nbs N ps).map inat).getD a [] = inat (nbl N ps a) := by simp [nbs, ha]
    rw [hnb] at ha2
    have ha1' : (us.drop (a * 1))[0]? = some ua := by simpa using ha1
    have hll := inat_length (nbl N ps a)
    have hla := nbl_len N ps a
    have hN := hG.hN
    have hsg : seg ((inat acc).map aint) 0 (acc.length * 1) = some ((inat acc).map aint) := by rw [Nat.mul_one]; exact seg_full (by simp [inat])
    refine wo_loop ?_
    repeat (first | intro id | refine goq ?_)
    refine gok ?_
    refine (indexf_ok (g := f_route_up_1) (cv := [.ro [fv], .ro [aint a]]) (v := ua) (l := inat (nbl N ps a)) (p := fun x => decide (D N ps 0 x.toNat = D N ps 0 a - 1)) hF hmi ?_ ha2 (by omega) ?_).mono ?_
    · refine vs_bare (bare_SlI ha2) (vs_view rfl (vo_fn vl_nil (vl_cons (vo_ptr (by exact inq) (by simp) (vl_cons (hview _ ?_) vl_nil)) (vl_cons (vo_ptr (by exact inq) (by simp) (vl_cons vo_sc vl_nil)) vl_nil))) vs_nil)
      intro id c h
      exact .next (.next (.next h))
    · intro j hj
      rw [hll] at hj
      rw [inat_getD hj]
      have hm : (nbl N ps a).getD j 0 ∈ nbl N ps a := by rw [List.getD_eq_getElem?_getD, List.getElem?_eq_getElem hj]; exact List.getElem_mem hj
      have := hG.conn 0 a h0N ha
      exact up1_ok hF hmp hst1 hfv (nbl_mem.1 hm).1 ha ⟨this.1, by omega⟩ hN
    rintro r L' ⟨⟨i, rfl, hi⟩, rfl⟩
    have sy : ∀ k, k ∈ nbl N ps a → D N ps 0 k = D N ps k 0 := fun k hk => D_sym hG h0N (nbl_mem.1 hk).1
    have sya : D N ps 0 a = D N ps a 0 := D_sym hG h0N ha
    have mem : ∀ j, j < (nbl N ps a).length → (nbl N ps a).getD j 0 ∈ nbl N ps a := fun j hj => by rw [List.getD_eq_getElem?_getD, List.getElem?_eq_getElem hj]; exact List.getElem_mem hj
    have hi0 : 0 ≤ i := by
      rcases hi.lo with e | e
      · obtain ⟨j, hj, e2⟩ := List.getElem_of_mem hx1
        have h3 := hi.no (by omega) j (by omega)
        have h4 := of_decide_eq_false h3
        rw [inat_getD hj, List.getD_eq_getElem?_getD, List.getElem?_eq_getElem hj, Option.getD_some, e2, Int.toNat_natCast, sya, sy _ hx1] at h4
        exact absurd hx2 h4
      · exact e
    obtain ⟨q1, q2, q3⟩ := hi.yes hi0
    obtain ⟨j, rfl⟩ : ∃ j : Nat, i = j := ⟨i.toNat, by omega⟩
    rw [Int.toNat_natCast] at q1 q3
    rw [hll] at q1
    have q2' := of_decide_eq_true q2
    rw [Int.toNat_natCast, inat_getD q1, Int.toNat_natCast, sya, sy _ (mem j q1)] at q2'
    have hnx : (nbl N ps a).getD j 0 = nxt N ps 0 a := by
      have := find_first (fun k => decide (D N ps k 0 = D N ps a 0 - 1)) (nbl N ps a) j q1 (decide_eq_true q2') fun k hk => by
        have h4 := of_decide_eq_false (q3 k hk)
        rw [inat_getD (by omega), Int.toNat_natCast, sya, sy _ (mem k (by omega))] at h4
        exact decide_eq_false h4
      unfold nxt
      rw [this]
      rfl
    have hj1 : (((inat (nbl N ps a)).map aint).drop (j * 1))[0]? = some (aint ((nxt N ps 0 a : Nat) : Int)) := by rw [get_inat q1, hnx]
    have hlac : ((inat acc).map aint).length = acc.length := by simp [inat]
    rcases hcp with rfl | rfl
    all_goals
      repeat (first | intro id | refine goq ?_)
      have hcell : (inat acc).map aint ++ [aint ((nxt N ps 0 a : Nat) : Int)] = (inat (acc ++ [nxt N ps 0 a])).map aint := by
        rw [inat_app, List.map_append]; rfl
      rw [hnx, hcell]
      refine WpO.weak (WpO.mono (ih (nxt N ps 0 a) _ (acc ++ [nxt N ps 0 a]) id none hxN ?_ ?_ (.inr rfl) ?_ ?_ ?_ ?_) ?_) ?_
      rotate_left 6
      · rintro ex t' L' ⟨e1, iw', cap', e2, e4, e3⟩
        rw [List.append_assoc] at e2 e3 e4
        exact ⟨e1, iw', cap', e2, e4, e3⟩
      · exact subq
      · rw [hx2]; omega
      · rw [List.length_append]; simp only [List.length_singleton]; omega
      · exact slotq
      · exact slotq
      · exact slotq
      · rw [List.length_append]; exact slotq
theorem up_open (hF : E.fns = fnsT) (hm : E.mode f_route_up = .open_) (hmi : E.mode f_slices_IndexFunc_int_int = .iso false) (hmp : E.mode f_route_up_1 = .iso false) (hst3 : still E c_route_up_r3 = true) (hst1 : still E c_route_up_1_r1 = true) {N a : Nat} {ps : List (Nat × Nat)} {nv w fv : AVal} (hG : Good N ps) (hnv : SlS nv ((nbs N ps).map inat)) (ha : a < N) (hw1 : w.one = true) (hfv : SlI fv (dist N ps 0)) (hview : ∀ M : Hp, (∀ id c, In id c L → In id c M) → ViewO M 62 w fv) :
    CallO E f_route_up [nv, w, aint a] L fun v L' => ∃ id cap, v = .sl id 0 (upL (parT N ps) (rkT N ps) a).length 1 cap ∧ (cap = some (upL (parT N ps) (rkT N ps) a).length ∨ cap = none) ∧ L' = (id, (inat (upL (parT N ps) (rkT N ps) a)).map aint) :: L := by
  refine CallO.to (callO_open hm (fns_of hF n_route_up) ?_)
  have hN := hG.hN
  have h0N : 0 < N := by omega
  have hcn := hG.conn a 0 ha h0N
  have hnv1 : nv.one = true := by obtain ⟨us, h1, -, -⟩ := hnv; exact RowA.isOne h1
  refine bodyO_of (Nat.le_of_ble_eq_true rfl) ?_; generalize ht : argSlots _ 0 .nil = t; have h0 : t.get 0 = some _ := (by rw [← ht]; rfl); have h1 : t.get 1 = some _ := (by rw [← ht]; rfl); have h2 : t.get 2 = some _ := (by rw [← ht]; rfl); clear ht
  repeat (first | intro id | refine goq ?_)
  rename_i i4 i5
  refine WpO.mono (up_loop (L := L) (i4 := i4) (i5 := i5) hF hmi hmp hst3 hst1 hG h0N hnv hw1 hfv hview (D N ps a 0).toNat a _ [a] id (some 1) ha (by omega) (by simp only [List.length_singleton]; omega) (.inl rfl) ?_ ?_ ?_ ?_) ?_
  · exact slotq
  · exact slotq
  · exact slotq
  · exact slotq
  rintro ex t1 L' ⟨rfl, iw, cap, g7, hcap, hsub⟩
  have e : [a] ++ pathFrom N ps 0 (D N ps a 0).toNat a = upL (parT N ps) (rkT N ps) a := (upL_path hG ha).symm
  rw [e] at g7 hcap hsub
  refine blkO.x (seqO.n (WpO.weak ?_ hsub))
  repeat (first | intro id | refine goq ?_)
  ((first | apply retO_r | apply retO_n); (focus (exact resq)))
  exact ⟨_, by exact subq, _, cap, rfl, hcap, rfl⟩
end Go.Proofs.Ytfaphhcloanhnaa
namespace Go.Proofs.Ytfaphhcloanhnaa
open Go.Am
/-- What is laid; the count of swaps asq the program holds it. -/
structure LaidW where
  ops : List OpD
  place : List Int
  swaps : Int
def LaidW.swap (l : LaidW) (a b : Int) : LaidW := ⟨l.ops ++ [swapOp a b], swapPl a b l.place, IntKind.wrap .i64 (l.swaps + 1)⟩
/-- Swapped along a way. -/
def alongW : List Nat → LaidW → LaidW
  | a :: b :: r, l => alongW (b :: r) (l.swap a b)
  | _, l => l
theorem swapPl_len (a b : Int) (l : List Int) : (swapPl a b l).length = l.length := by simp [swapPl]
theorem swapPl_at {a b : Int} {l : List Int} {i : Nat} (h : i < l.length) : (swapPl a b l).getD i 0 = swapF a b (l.getD i 0) := by simp [swapPl, h]
theorem along_len : ∀ (W : List Nat) (l : LaidW), (alongW W l).ops.length = l.ops.length + (W.length - 1) ∧ (alongW W l).place.length = l.place.length
  | [], l => ⟨by simp [alongW], rfl⟩
  | [a], l => ⟨by simp [alongW], rfl⟩
  | a :: b :: r, l => by
    have := along_len (b :: r) (l.swap a b)
    unfold alongW
    rw [this.1, this.2]
    refine ⟨?_, swapPl_len _ _ _⟩
    simp only [LaidW.swap, List.length_append, List.length_cons, List.length_nil]
    omega
theorem WalkP.head {nx : Nat → Nat → Nat} {a b : Nat} {W : List Nat} (h : WalkP nx b a W) : ∃ r, W = a :: r := by cases h <;> exact ⟨_, rfl⟩
/-- One round of the document's loop. -/
theorem along_step {nx : Nat → Nat → Nat} {a b : Nat} {W : List Nat} (w : WalkP nx b (nx a b) W) (l : LaidW) : alongW (a :: W) l = alongW W (l.swap a (nx a b)) := by
  obtain ⟨r, rfl⟩ := w.head
  rfl
theorem swap_at {l : LaidW} {a b : Int} {p : Nat} (hp : p < l.place.length) (h : l.place.getD p 0 = a) : (l.swap a b).place.getD p 0 = b := by
  show (swapPl a b l.place).getD p 0 = b
  rw [swapPl_at hp, h]
  simp [swapF]
/-- A place brought home. -/
def homeOne (par rk : Nat → Nat) (l : LaidW) (p : Nat) : LaidW := alongW (wayP par rk (l.place.getD p 0).toNat p) l
theorem homeOne_len {par rk : Nat → Nat} (l : LaidW) (p : Nat) : l.ops.length ≤ (homeOne par rk l p).ops.length ∧ (homeOne par rk l p).place.length = l.place.length := by
  have := along_len (wayP par rk (l.place.getD p 0).toNat p) l
  unfold homeOne
  rw [this.1, this.2]
  exact ⟨by omega, rfl⟩
/-- All, in an order; ended where there are too many operations. -/
def homeRun (par rk : Nat → Nat) : List Nat → LaidW → Option LaidW
  | [], l => some l
  | p :: r, l => if 4096 < (homeOne par rk l p).ops.length then none else homeRun par rk r (homeOne par rk l p)
def homeAll (par rk : Nat → Nat) (ps : List Nat) (l : LaidW) : LaidW := ps.foldl (homeOne par rk) l
theorem homeAll_mono {par rk : Nat → Nat} : ∀ (ps : List Nat) (l : LaidW), l.ops.length ≤ (homeAll par rk ps l).ops.length
  | [], l => Nat.le_refl _
  | p :: r, l => Nat.le_trans (homeOne_len l p).1 (homeAll_mono r (homeOne par rk l p))
theorem homeRun_eq {par rk : Nat → Nat} : ∀ (ps : List Nat) (l : LaidW), l.ops.length ≤ 4096 → homeRun par rk ps l = if 4096 < (homeAll par rk ps l).ops.length then none else some (homeAll par rk ps l)
  | [], l, h => by
    show some l = if 4096 < l.ops.length then none else some l
    rw [if_neg (by omega)]
  | p :: r, l, h => by
    unfold homeRun
    show _ = if 4096 < (homeAll par rk r (homeOne par rk l p)).ops.length then none else some (homeAll par rk r (homeOne par rk l p))
    have hm := homeAll_mono (par := par) (rk := rk) r (homeOne par rk l p)
    by_cases h4 : 4096 < (homeOne par rk l p).ops.length
    · rw [if_pos h4, if_pos (by omega)]
    · rw [if_neg h4]
      exact homeRun_eq r _ (by omega)
/-- The document's loops, asq one. -/
theorem homeAll_docs {par rk : Nat → Nat} {n : Nat} (l : LaidW) : homeAll par rk (homeL rk n) l = (List.range (n + 1)).reverse.foldl (fun l d => (List.range n).reverse.foldl (fun l p => if rk p = d then homeOne par rk l p else l) l) l := by
  unfold homeAll homeL
  generalize (List.range (n + 1)).reverse = ds
  induction ds generalizing l with
  | nil => rfl
  | cons d ds ih =>
    rw [List.flatMap_cons, List.foldl_append, ih, List.foldl_cons]
    congr 1
    generalize (List.range n).reverse = ps
    clear ih
    induction ps generalizing l with
    | nil => rfl
    | cons p ps ih =>
      rw [List.filter_cons, List.foldl_cons]
      by_cases h : rk p = d
      · rw [if_pos (by simpa using h), if_pos h, List.foldl_cons]
        exact ih _
      · rw [if_neg (by simpa using h), if_neg h]
        exact ih _
end Go.Proofs.Ytfaphhcloanhnaa
namespace Go.Proofs.Ytfaphhcloanhnaa
open Go.Am
set_option maxRecDepth 4000
set_option maxHeartbeats 8000000
variable {E : Env} {L : Hp}
/-- What is laid, without its count. -/
def LaidW.d (l : LaidW) : LaidD := ⟨l.ops, l.place, 0⟩
theorem lswapW_l0 {a b : Int} {il ip n : Nat} {sw : Int} {cap : Option Nat} {ov : AVal} {pl : List Int} (hn : pl.length = n) (hlt : n ≤ 1000000) :
    ∀ (d k : Nat) (t : Tr AVal), d + k = n → t.get 0 = some (.ptr il 0) → t.get 1 = some (aint a) → t.get 2 = some (aint b) → t.get 30 = some (.sl ip 0 n 1 cap) → t.get 31 = some (aint n) → t.get 32 = some (aint k) →
    WpO E (.loop c_route_laid_swap_l0) t ((il, [ov, .sl ip 0 n 1 cap, aint sw]) :: (ip, (midPl a b pl k).map aint) :: L) (fun ex t' L' => ex = .exit 0 ∧ L' = (il, [ov, .sl ip 0 n 1 cap, aint sw]) :: (ip, (swapPl a b pl).map aint) :: L) := by
  intro d
  induction d with
  | zero =>
    intro k t hk h0 h1 h2 h30 h31 h32
    obtain rfl : k = n := by omega
    refine wo_loop ?_
    repeat (first | intro id | refine goq ?_)
    exact ⟨rfl, by rw [← hn, midPl_all]⟩
  | succ d ih =>
    intro k t hk h0 h1 h2 h30 h31 h32
    have hkl : k < pl.length := by omega
    have hml := midPl_len a b pl k (by omega)
    have hg := midPl_get (a := a) (b := b) hkl
    have hst := midPl_set (a := a) (b := b) hkl
    have hsm := midPl_same (a := a) (b := b) hkl
    have key : ∀ t2 : Tr AVal, t2.get 0 = some (.ptr il 0) → t2.get 1 = some (aint a) → t2.get 2 = some (aint b) → t2.get 30 = some (.sl ip 0 n 1 cap) → t2.get 31 = some (aint n) → t2.get 32 = some (aint ((k + 1 : Nat) : Int)) →
      ∀ l, l = midPl a b pl (k + 1) → WpO E (.loop c_route_laid_swap_l0) t2 ((il, [ov, .sl ip 0 n 1 cap, aint sw]) :: (ip, l.map aint) :: L) (fun ex t' L' => ex = .exit 0 ∧ L' = (il, [ov, .sl ip 0 n 1 cap, aint sw]) :: (ip, (swapPl a b pl).map aint) :: L) :=
      fun t2 e0 e1 e2 e3 e4 e5 l hl => by rw [hl]; exact ih (k + 1) t2 (by omega) e0 e1 e2 e3 e4 e5
    generalize midPl a b pl k = ml at *
    refine wo_loop ?_
    by_cases c1 : pl.getD k 0 = a
    · have hf : swapF a b (pl.getD k 0) = b := by simp only [swapF, if_pos c1]
      rw [hf] at hst
      repeat (first | intro id | refine goq ?_)
      refine key _ ?_ ?_ ?_ ?_ ?_ ?_ _ hst
      · exact slotq
      · exact slotq
      · exact slotq
      · exact slotq
      · exact slotq
      · exact slotq
    by_cases c2 : pl.getD k 0 = b
    · have hf : swapF a b (pl.getD k 0) = a := by simp only [swapF, if_neg c1, if_pos c2]
      rw [hf] at hst
      repeat (first | intro id | refine goq ?_)
      refine key _ ?_ ?_ ?_ ?_ ?_ ?_ _ hst
      · exact slotq
      · exact slotq
      · exact slotq
      · exact slotq
      · exact slotq
      · exact slotq
    · have hs := hsm c1 c2
      repeat (first | intro id | refine goq ?_)
      refine key _ ?_ ?_ ?_ ?_ ?_ ?_ _ hs
      · exact slotq
      · exact slotq
      · exact slotq
      · exact slotq
      · exact slotq
      · exact slotq
theorem LSwapW_open (hF : E.fns = fnsT) (hK : KnownAbove E) (hm : E.mode f_route_laid_swap = .open_) (hms : E.mode f_route_swap = .fresh) (hst : still E c_route_laid_swap_r0 = true) {il : Nat} {l : LaidW} {ov pv : AVal} {B : Hp} {a b : Int} (h : LaidB l.d ov pv B) (h2 : l.ops.length < 1000000) :
    CallO E f_route_laid_swap [.ptr il 0, aint a, aint b] ((il, [ov, pv, aint l.swaps]) :: (B ++ L)) fun v L' => v = .tup [] ∧ ∃ ov' pv' B', LaidB (l.swap a b).d ov' pv' B' ∧ L' = (il, [ov', pv', aint (l.swap a b).swaps]) :: (B' ++ L) := by
  refine CallO.to (callO_open hm (fns_of hF n_route_laid_swap) ?_)
  obtain ⟨cs, Bs, H, Pb, hb, ho, hp, -, hpl, rfl⟩ := h
  simp only [LaidW.d] at hb ho hp hpl
  have ov1 := hb.isOne
  have pv1 := hp.isOne
  rw [List.append_assoc, List.append_assoc]
  refine bodyO_of (Nat.le_of_ble_eq_true rfl) ?_; generalize ht : argSlots _ 0 .nil = t; have h0 : t.get 0 = some _ := (by rw [← ht]; rfl); have h1 : t.get 1 = some _ := (by rw [← ht]; rfl); have h2 : t.get 2 = some _ := (by rw [← ht]; rfl); clear ht
  repeat (first | intro id | refine goq ?_)
  refine gok ?_
  refine (rswap_fresh hF hK hms a b).mono ?_
  rintro v L' ⟨is, rfl, rfl⟩
  unfold opCells
  repeat (first | intro id | refine goq ?_)
  have hb2 := hb.pushed (id := id) (nw := opCells (.sl is 0 2 1 (some 2)) (swapOp a b)) rfl rfl
  have ho2 := ho.snoc (u := .sl is 0 2 1 (some 2)) (o := swapOp a b) (B := [(is, [aint a, aint b])]) (.inr ⟨is, some 2, rfl, rfl⟩) (by simp [swapOp])
  unfold opCells at hb2 ho2
  rcases bufInv hp with ⟨rfl, hp0, hn0, rfl⟩ | ⟨ip, rfl, rfl⟩
  · have hpl0 : l.place = [] := List.eq_nil_of_length_eq_zero hn0
    refine wo_loop ?_
    repeat (first | intro id | refine goq ?_)
    ((first | apply retO_r | apply retO_n); (focus (exact resq)))
    refine ⟨(il, [.sl id 0 (l.ops.length + 1) 6 none, anil, aint (IntKind.wrap .i64 (l.swaps + 1))]) :: (([(id, _)] ++ ((H ++ [(is, [aint a, aint b])]) ++ [])) ++ L), ?_, rfl, _, _, _, ⟨_, _, _, [], by simpa [LaidW.swap, LaidW.d] using hb2, ho2, by simpa [LaidW.swap, LaidW.d, swapPl, hpl0] using BufO.nil, by simp [LaidW.swap, LaidW.d]; omega, by simp [LaidW.swap, LaidW.d, swapPl, hpl0], rfl⟩, rfl⟩
    simp only [List.append_assoc, List.cons_append, List.nil_append]
    exact subq
  · refine WpO.weak (WpO.mono (lswapW_l0 (a := a) (b := b) (il := il) (ip := ip) (sw := IntKind.wrap .i64 (l.swaps + 1)) (ov := .sl id 0 (l.ops.length + 1) 6 none) (L := (id, cs ++ opCells (.sl is 0 2 1 (some 2)) (swapOp a b)) :: (is, [aint a, aint b]) :: (H ++ L)) (cap := none) (pl := l.place) rfl (by omega) l.place.length 0 _ (by omega) ?_ ?_ ?_ ?_ ?_ ?_) ?_) ?_
    · exact slotq
    · exact slotq
    · exact slotq
    · exact slotq
    · exact slotq
    · exact slotq
    · rintro ex t' L' ⟨rfl, rfl⟩
      repeat (first | intro id | refine goq ?_)
      ((first | apply retO_r | apply retO_n); (focus (exact resq)))
      refine ⟨(il, [.sl id 0 (l.ops.length + 1) 6 none, .sl ip 0 l.place.length 1 none, aint (IntKind.wrap .i64 (l.swaps + 1))]) :: (([(id, _)] ++ ((H ++ [(is, [aint a, aint b])]) ++ [(ip, (swapPl a b l.place).map aint)])) ++ L), ?_, rfl, _, _, _, ⟨_, _, _, [(ip, (swapPl a b l.place).map aint)], by simpa [LaidW.swap, LaidW.d] using hb2, ho2, ?_, by simp [LaidW.swap, LaidW.d]; omega, by simpa [LaidW.swap, LaidW.d, swapPl] using hpl, rfl⟩, rfl⟩
      · simp only [List.append_assoc, List.cons_append, List.nil_append]
        exact subq
      · have : (l.swap a b).d.place.length = l.place.length := by simp [LaidW.swap, LaidW.d, swapPl]
        rw [this]
        exact .box (by simp [LaidW.swap, LaidW.d, swapPl]) (all_one_ints _)
    · rw [midPl_zero]
      exact subq
end Go.Proofs.Ytfaphhcloanhnaa
namespace Go.Proofs.Ytfaphhcloanhnaa
open Go.Am Go.Dist
set_option maxRecDepth 4000
set_option maxHeartbeats 8000000
variable {E : Env} {L : Hp}
def iotaPl (n : Nat) : List Int := (List.range n).map fun (i : Nat) => (i : Int)
def movedOp (o : OpD) (pl : List Int) : OpD := { o with qs := o.qs.map fun q => pl.getD q.toNat 0 }
def broughtOp (N : Nat) (ps : List (Nat × Nat)) (o : OpD) (l : LaidD) : LaidD :=
  if o.kind = 1 ∧ o.qs.length = 2 then bringN N ps (o.qs.getD 0 0).toNat (o.qs.getD 1 0).toNat (D N ps (l.place.getD (o.qs.getD 0 0).toNat 0).toNat (l.place.getD (o.qs.getD 1 0).toNat 0).toNat - 1).toNat l else l
def layOp (N : Nat) (ps : List (Nat × Nat)) (l : LaidD) (o : OpD) : LaidD :=
  ⟨(broughtOp N ps o l).ops ++ [movedOp o (broughtOp N ps o l).place], (broughtOp N ps o l).place, (broughtOp N ps o l).swaps⟩
def laidAll (N : Nat) (ps : List (Nat × Nat)) (c : CircD) (k : Nat) : LaidD := (c.ops.take k).foldl (layOp N ps) ⟨[], iotaPl c.qubits.toNat, 0⟩
/-- What holds of what is laid, on the way. -/
structure LaidOk (N : Nat) (c : CircD) (l : LaidD) (k : Nat) : Prop where
  pl : PlOk N l.place
  len : l.place.length = c.qubits.toNat
  lo : k ≤ l.ops.length
  sw : l.ops.length = k + l.swaps
/-! A copied circuit, from the front -/
inductive OpsS (cs : List AVal) (os : List OpD) : Nat → Hp → Prop where
  | done : OpsS cs os os.length []
  | more {k : Nat} {u : AVal} {B H : Hp} (hk : k < os.length) (hs : seg cs (0 + k * 6) 6 = some (opCells u (os.getD k default))) (hq : OwnI u (os.getD k default).qs B) (h : OpsS cs os (k + 1) H) : OpsS cs os k (B ++ H)
theorem OpsS.ext {cs : List AVal} {os : List OpD} {k : Nat} {H B : Hp} {u : AVal} {o : OpD} (hl : cs.length = os.length * 6) (h : OpsS cs os k H) (hq : OwnI u o.qs B) : OpsS (cs ++ opCells u o) (os ++ [o]) k (H ++ B) := by
  induction h with
  | done =>
    have e : (os ++ [o]).getD os.length default = o := by simp
    have := OpsS.more (cs := cs ++ opCells u o) (os := os ++ [o]) (k := os.length) (u := u) (B := B) (H := []) (by simp) (by
      rw [e, seg, if_pos (by simp [hl, opCells]), Nat.zero_add, ← hl, List.drop_left]
      simp [opCells]) (by rw [e]; exact hq) (by have := OpsS.done (cs := cs ++ opCells u o) (os := os ++ [o]); simpa using this)
    simpa using this
  | @more k u' B' H' hk hs hq' h ih =>
    have e : (os ++ [o]).getD k default = os.getD k default := by simp [List.getElem?_append_left hk]
    rw [List.append_assoc]
    refine .more (u := u') (by simp; omega) ?_ (by rw [e]; exact hq') ih
    rw [e]
    unfold seg at hs ⊢
    split at hs
    · rename_i hle
      rw [if_pos (by simp; omega), List.drop_append_of_le_length (by omega), List.take_append_of_le_length (by simp; omega)]
      exact hs
    · cases hs
end Go.Proofs.Ytfaphhcloanhnaa
namespace Go.Proofs.Ytfaphhcloanhnaa
open Go.Am Go.Dist
set_option maxRecDepth 4000
set_option maxHeartbeats 8000000
variable {E : Env} {L : Hp}
end Go.Proofs.Ytfaphhcloanhnaa
namespace Go.Proofs.Ytfaphhcloanhnaa
open Go.Am Go.Dist
set_option maxRecDepth 4000
set_option maxHeartbeats 16000000
variable {E : Env} {L : Hp}
theorem OwnI.slen {u : AVal} {l : List Int} {B : Hp} (h : OwnI u l B) : sliceLen u = some l.length := by
  rcases h with ⟨rfl, rfl, -⟩ | ⟨id, cap, rfl, -⟩ <;> rfl
def zeroR : List AVal := [aint 0, aint 0, anil, anil, aint 0]
/-- How the loop ends. -/
def L3post (N : Nat) (ps : List (Nat × Nat)) (c : CircD) (il i4 : Nat) (t : Tr AVal) (L : Hp) (ex : Ex) (t' : Tr AVal) (L' : Hp) : Prop :=
  (ex = .exit 2 ∧ Keep [2, 3, 4, 11] t t' ∧ (laidAll N ps c c.ops.length).ops.length ≤ 4096 ∧ ∃ ov pv B, LaidB (laidAll N ps c c.ops.length) ov pv B ∧ Am.Sub ((il, [ov, pv, aint (laidAll N ps c c.ops.length).swaps]) :: (B ++ ((i4, zeroR) :: L))) L') ∨
  (ex = .ret ∧ t'.get 4 = t.get 4 ∧ t'.get 5 = some (aint 201) ∧ 4096 < (laidAll N ps c c.ops.length).ops.length ∧ Am.Sub ((i4, zeroR) :: L) L')
theorem L3post.keep {N : Nat} {ps : List (Nat × Nat)} {c : CircD} {il i4 : Nat} {t t1 : Tr AVal} {ex : Ex} {t' : Tr AVal} {L' : Hp} (hK : Keep [2, 3, 4, 11] t t1) (h : L3post N ps c il i4 t1 L ex t' L') : L3post N ps c il i4 t L ex t' L' := by
  rcases h with ⟨h1, h2, h3⟩ | ⟨h1, h2, h3⟩
  · exact .inl ⟨h1, hK.trans h2, h3⟩
  · exact .inr ⟨h1, h2.trans (hK.ex 4 rfl), h3⟩
end Go.Proofs.Ytfaphhcloanhnaa
namespace Go.Proofs.Ytfaphhcloanhnaa
open Go.Am Go.Dist
set_option maxRecDepth 4000
set_option maxHeartbeats 16000000
variable {E : Env} {L : Hp}
/-- More qubits than a map's edge holds. -/
def wideOp (o : OpD) : Bool := decide (o.kind = 1 ∧ 2 < o.qs.length)
end Go.Proofs.Ytfaphhcloanhnaa
namespace Go.Proofs.Ytfaphhcloanhnaa
open Go.Am Go.Dist
set_option maxRecDepth 4000
set_option maxHeartbeats 16000000
variable {E : Env} {L : Hp}
def WideC (c : CircD) : Prop := ∃ j, j < c.ops.length ∧ wideOp (c.ops.getD j default) = true
def laidC (N : Int) (ps : List (Int × Int)) (c : CircD) : LaidD := laidAll N.toNat (npairs ps) c c.ops.length
/-- What Route tells, its rows in boxes. -/
structure RoutedO (N : Int) (ps : List (Int × Int)) (c : CircD) (v : AVal) (B : Hp) : Prop where
  ex : (¬ RightP N ps ∧ v = .tup [.agg zeroR, aint 200] ∧ B = []) ∨ (RightP N ps ∧ ¬ CircOk c ∧ v = .tup [.agg zeroR, aint 80] ∧ B = []) ∨
    (RightP N ps ∧ CircOk c ∧ (N < c.qubits ∨ WideC c ∨ 4096 < (laidC N ps c).ops.length) ∧ v = .tup [.agg zeroR, aint 201] ∧ B = []) ∨
    (RightP N ps ∧ CircOk c ∧ c.qubits ≤ N ∧ ¬ WideC c ∧ (laidC N ps c).ops.length ≤ 4096 ∧ ∃ ov pv, LaidB (laidC N ps c) ov pv B ∧ v = .tup [.agg [aint N, aint c.bits, ov, pv, aint (laidC N ps c).swaps], aint 0])
theorem WpO.re {A : AC} {t : Tr AVal} {Q : Ex → Tr AVal → Hp → Prop} (h : WpO E A t L fun ex t' L' => ∃ L0, Am.Sub L0 L' ∧ Q ex t' L0) : WpO E A t L Q := ⟨fun m hm => (h.ex m hm).mono fun _ _ ⟨L', h1, L0, h2, h3⟩ => ⟨L0, h1.sub h2, h3⟩⟩
end Go.Proofs.Ytfaphhcloanhnaa
