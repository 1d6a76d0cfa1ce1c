/- The abstract machine, part 13: regions whose order is drawn. -/
import Derived.Test.YtfaphhcloanhnaaAmReg
set_option linter.unusedSimpArgs false
set_option linter.unusedVariables false
namespace Go.Am

theorem restrict_get {α : Type} (h : Tr α) (x : Nat) : ∀ l : List Nat, (restrict h l).get x = if x ∈ l then h.get x else none
  | [] => by simp [restrict, Tr.get_nil]
  | id :: r => by
    rw [restrict, Tr.get_set, restrict_get h x r]
    by_cases e : x = id
    · subst e; simp
    · simp [e]
theorem mergeIds_get (h sub : Tr Box) (x : Nat) : ∀ l : List Nat, (mergeIds h sub l).get x = if x ∈ l then sub.get x else h.get x
  | [] => by simp [mergeIds]
  | id :: r => by
    rw [mergeIds, Tr.get_set, mergeIds_get h sub x r]
    by_cases e : x = id
    · subst e; simp
    · simp [e]
theorem mergeNew_get (h sub : Tr Box) (lo x : Nat) : ∀ n : Nat, (mergeNew h sub lo n).get x = if lo ≤ x ∧ x < lo + n then sub.get x else h.get x
  | 0 => by simp [mergeNew]; intros; omega
  | n + 1 => by
    rw [mergeNew, Tr.get_set, mergeNew_get h sub lo x n]
    by_cases e : x = lo + n
    · subst e; simp
    · rw [if_neg e]
      by_cases k : lo ≤ x ∧ x < lo + n
      · rw [if_pos k, if_pos ⟨k.1, by omega⟩]
      · rw [if_neg k, if_neg (by omega)]

/-! ### What a point of the state is behind some of the operations -/
def Eff.hit (t : Nat) (e : Eff) : Bool := e.dst == some t
def Eff.cov (id : Nat) (e : Eff) : Bool := e.all || (decide (e.lo ≤ id) && decide (id < e.hi)) || (e.wr && e.ids.contains id)

def lastV {β : Type} (hit : Eff → Bool) (val : Eff → β) : (Nat → Bool) → List Eff → β → β
  | _, [], b => b
  | D, e :: r, b => lastV hit val (fun j => D (j + 1)) r (if D 0 && hit e then val e else b)

section
variable {β : Type} {hit : Eff → Bool} {val : Eff → β}
theorem lastV_congr : ∀ (es : List Eff) (D D' : Nat → Bool) (b : β), (∀ (j : Nat) e, es[j]? = some e → hit e = true → D j = D' j) → lastV hit val D es b = lastV hit val D' es b
  | [], D, D', b, h => rfl
  | e :: r, D, D', b, h => by
    unfold lastV
    have h0 : (D 0 && hit e) = (D' 0 && hit e) := by
      cases hh : hit e with
      | false => simp
      | true => rw [h 0 e rfl hh]
    rw [h0]
    exact lastV_congr r _ _ _ fun j x hx hh => h (j + 1) x (by simpa using hx) hh
theorem lastV_none : ∀ (es : List Eff) (D : Nat → Bool) (b : β), (∀ (j : Nat) e, es[j]? = some e → D j = true → hit e = false) → lastV hit val D es b = b
  | [], D, b, h => rfl
  | e :: r, D, b, h => by
    unfold lastV
    have h0 : (D 0 && hit e) = false := by
      cases hh : D 0 with
      | false => simp
      | true => rw [h 0 e rfl hh]; rfl
    rw [h0, if_neg (by simp)]
    exact lastV_none r _ _ fun j x hx hh => h (j + 1) x (by simpa using hx) hh
theorem lastV_at : ∀ (es : List Eff) (D : Nat → Bool) (b : β) (i : Nat) (e : Eff), es[i]? = some e → D i = true → hit e = true →
    (∀ (j : Nat) x, i < j → es[j]? = some x → D j = true → hit x = false) → lastV hit val D es b = val e
  | [], D, b, i, e, hi, _, _, _ => by simp at hi
  | x :: r, D, b, 0, e, hi, hD, hh, h => by
    simp at hi
    subst hi
    unfold lastV
    rw [hD, hh, if_pos (by rfl)]
    exact lastV_none r _ _ fun j y hy hd => h (j + 1) y (by omega) (by simpa using hy) hd
  | x :: r, D, b, i + 1, e, hi, hD, hh, h => by
    unfold lastV
    exact lastV_at r _ _ i e (by simpa using hi) hD hh fun j y hj hy hd => h (j + 1) y (by omega) (by simpa using hy) hd
end

def insD (D : Nat → Bool) (i : Nat) : Nat → Bool := fun j => D j || j == i

/-! ### The steps, as they were taken in the text's order -/
def slotD (es : List Eff) (s : St) (D : Nat → Bool) (t : Nat) : Option AVal := lastV (Eff.hit t) (fun e => some e.v) D es (s.slots.get t)
def heapD (es : List Eff) (s : St) (D : Nat → Bool) (id : Nat) : Option Box := lastV (Eff.cov id) (fun e => e.sub.get id) D es (s.mem.heap.get id)

theorem app_slot (e : Eff) (s : St) (t : Nat) : (e.app s).slots.get t = if Eff.hit t e then some e.v else s.slots.get t := by
  unfold Eff.app Eff.hit
  simp only
  cases h : e.dst with
  | none => simp [setDst]
  | some d =>
    simp only [setDst, Tr.get_set]
    by_cases k : t = d
    · subst k; simp
    · rw [if_neg k, if_neg (by simpa using fun h => k h.symm)]
theorem app_heap (e : Eff) (s : St) (id : Nat) (ha : e.all = false) (hle : e.lo ≤ e.hi) : (e.app s).mem.heap.get id = if Eff.cov id e then e.sub.get id else s.mem.heap.get id := by
  unfold Eff.app Eff.cov
  simp only [mergeNew_get, ha, Bool.false_or]
  have : e.lo + (e.hi - e.lo) = e.hi := by omega
  rw [this]
  by_cases k : e.lo ≤ id ∧ id < e.hi
  · rw [if_pos k, if_pos (by simp [k])]
  · rw [if_neg k]
    have k' : (decide (e.lo ≤ id) && decide (id < e.hi)) = false := by
      rw [← Bool.not_eq_true, Bool.and_eq_true, decide_eq_true_iff, decide_eq_true_iff]; exact k
    rw [k']
    simp only [Bool.false_or]
    cases hw : e.wr with
    | false => simp
    | true =>
      simp only [if_true, Bool.true_and, mergeIds_get]
      by_cases c : id ∈ e.ids
      · rw [if_pos c, if_pos (by simpa using c)]
      · rw [if_neg c, if_neg (by simpa using c)]

theorem effO_spec {cf : CallF} {o : AO} {s : St} {e : Eff} (h : effO cf o s = some e) :
    e.lo = s.mem.next ∧ e.dst = o.dst ∧ e.reads = slotsOf o ∧ e.after = o.after ∧ (∀ id ∈ e.ids, id < s.mem.next) ∧ (e.see = false ∧ e.all = false) ∧
    ((wantedA (restrict s.slots (slotsOf o)) o.guard = some true ∧ ∃ m, stepVal cf (restrict s.slots (slotsOf o)) ⟨restrict s.mem.heap e.ids, s.mem.next, s.mem.next⟩ o.op = some (e.v, m) ∧
        e.wr = decide (m.low < s.mem.next) ∧ e.hi = m.next ∧ e.low = m.low ∧ e.sub = m.heap) ∨
     (wantedA (restrict s.slots (slotsOf o)) o.guard = some false ∧ e.v = .tup [] ∧ e.ids = [] ∧ e.wr = false ∧ e.hi = e.lo ∧ e.low = s.mem.next ∧ e.sub = .nil)) := by
  unfold effO at h
  simp only at h
  split at h
  · rename_i hw
    split at h
    · rename_i ids hids
      split at h
      · rename_i hall
        split at h
        · rename_i v m hv
          simp only [Option.some.injEq] at h
          subst h
          refine ⟨rfl, rfl, rfl, rfl, fun id hid => ?_, ⟨rfl, rfl⟩, .inl ⟨hw, m, hv, rfl, rfl, rfl, rfl⟩⟩
          have := List.all_eq_true.1 hall id hid
          simpa using this
        · simp at h
      · simp at h
    · simp at h
  · rename_i hw
    simp only [Option.some.injEq] at h
    subst h
    exact ⟨rfl, rfl, rfl, rfl, fun id hid => by simp at hid, ⟨rfl, rfl⟩, .inr ⟨hw, rfl, rfl, rfl, rfl, rfl, rfl⟩⟩
  · simp at h

section
variable {P : Program} {cf : CallF}

theorem effO_grow (hcf : CfOk P cf) {o : AO} {s : St} {e : Eff} (h : effO cf o s = some e) : e.lo ≤ e.hi ∧ Grow s.mem (e.app s).mem := by
  obtain ⟨h1, h2, h3, h4, h5, ⟨_, hall⟩, h6⟩ := effO_spec h
  rcases h6 with ⟨hw, m, hv, g1, g2, g3, g4⟩ | ⟨hw, g0, g1, g2, g3, g4, g5⟩
  · have hg := stepVal_grow hcf hv
    have hle : e.lo ≤ e.hi := by rw [h1, g2]; exact hg.next
    refine ⟨hle, ?_, ?_, fun id hid => ?_⟩
    · show s.mem.next ≤ e.hi
      rw [← h1]; exact hle
    · show min s.mem.low e.low ≤ s.mem.low
      omega
    · rw [app_heap _ _ _ hall hle]
      by_cases c : Eff.cov id e = true
      · rw [if_pos c]
        unfold Eff.cov at c
        rw [h1, hall] at c
        have : (decide (s.mem.next ≤ id)) = false := by simp; exact hid
        rw [this] at c
        simp only [Bool.false_and, Bool.false_or, Bool.and_eq_true] at c
        have hmem : id ∈ e.ids := by simpa using c.2
        rcases hg.same id hid with k | k
        · left
          show min s.mem.low e.low ≤ id
          rw [g3]
          omega
        · right
          rw [g4, k]
          simp [restrict_get, hmem]
      · rw [if_neg c]
        exact .inr rfl
  · have hle : e.lo ≤ e.hi := by omega
    refine ⟨hle, ?_, ?_, fun id hid => ?_⟩
    · show s.mem.next ≤ e.hi
      omega
    · show min s.mem.low e.low ≤ s.mem.low
      omega
    · rw [app_heap _ _ _ hall hle]
      right
      rw [if_neg]
      unfold Eff.cov
      rw [g1, g2, hall]
      simp
      intro; omega

theorem drawOs_spec (hcf : CfOk P cf) : ∀ (l : List AO) (s s' : St) (es : List Eff), drawOs cf l s = some (s', es) →
    es.length = l.length ∧ Grow s.mem s'.mem ∧
    (∀ t, s'.slots.get t = slotD es s (fun _ => true) t) ∧ (∀ id, s'.mem.heap.get id = heapD es s (fun _ => true) id) ∧
    (∀ (i : Nat) e o, es[i]? = some e → l[i]? = some o → ∃ si : St, effO cf o si = some e ∧ s.mem.next ≤ si.mem.next ∧ e.hi ≤ s'.mem.next ∧
      (∀ t, si.slots.get t = slotD es s (fun j => decide (j < i)) t) ∧ (∀ id, si.mem.heap.get id = heapD es s (fun j => decide (j < i)) id)) ∧
    (∀ (i : Nat) e, es[i]? = some e → s.mem.next ≤ e.lo ∧ e.lo ≤ e.hi ∧ ∀ (j : Nat) e', i < j → es[j]? = some e' → e.hi ≤ e'.lo)
  | [], s, s', es, h => by
    simp only [drawOs, Option.some.injEq, Prod.mk.injEq] at h
    obtain ⟨rfl, rfl⟩ := h
    exact ⟨rfl, Grow.refl _, fun t => rfl, fun id => rfl, fun i e o hi => by simp at hi, fun i e hi => by simp at hi⟩
  | o :: l, s, s', es, h => by
    unfold drawOs at h
    split at h
    · rename_i e he
      split at h
      · rename_i s1 es' hr
        simp only [Option.some.injEq, Prod.mk.injEq] at h
        obtain ⟨rfl, rfl⟩ := h
        obtain ⟨hle, hg⟩ := effO_grow hcf he
        obtain ⟨h1, h2, h3, h4, h5, h6⟩ := drawOs_spec hcf l _ _ _ hr
        obtain ⟨e1, _, _, _, _, ⟨_, hall⟩, _⟩ := effO_spec he
        have hn : (e.app s).mem.next = e.hi := rfl
        have hslot : ∀ (D : Nat → Bool) t, D 0 = true → slotD es' (e.app s) (fun j => D (j + 1)) t = slotD (e :: es') s D t := by
          intro D t h0
          unfold slotD
          rw [app_slot]
          conv => rhs; unfold lastV
          rw [h0, Bool.true_and]
        have hheap : ∀ (D : Nat → Bool) id, D 0 = true → heapD es' (e.app s) (fun j => D (j + 1)) id = heapD (e :: es') s D id := by
          intro D t h0
          unfold heapD
          rw [app_heap _ _ _ hall hle]
          conv => rhs; unfold lastV
          rw [h0, Bool.true_and]
        refine ⟨by simp [h1], hg.trans h2, fun t => (h3 t).trans (hslot (fun _ => true) t rfl), fun id => (h4 id).trans (hheap (fun _ => true) id rfl), fun i x ox hi hl => ?_, fun i x hi => ?_⟩
        · cases i with
          | zero =>
            simp at hi hl
            subst hi hl
            refine ⟨s, he, Nat.le_refl _, hn ▸ h2.next, fun t => ?_, fun id => ?_⟩
            · exact (lastV_none _ _ _ fun j y hy hd => by simp at hd).symm
            · exact (lastV_none _ _ _ fun j y hy hd => by simp at hd).symm
          | succ i =>
            obtain ⟨si, k1, k2, k3, k4, k5⟩ := h5 i x ox (by simpa using hi) (by simpa using hl)
            refine ⟨si, k1, ?_, k3, fun t => ?_, fun id => ?_⟩
            · rw [hn] at k2; omega
            · rw [k4, ← hslot _ t (by simp)]; congr 1; funext j; simp
            · rw [k5, ← hheap _ id (by simp)]; congr 1; funext j; simp
        · cases i with
          | zero =>
            simp at hi
            subst hi
            refine ⟨by omega, hle, fun j y hj hy => ?_⟩
            cases j with
            | zero => omega
            | succ j => exact hn ▸ (h6 j y (by simpa using hy)).1
          | succ i =>
            obtain ⟨k1, k2, k3⟩ := h6 i x (by simpa using hi)
            refine ⟨by rw [hn] at k1; omega, k2, fun j y hj hy => ?_⟩
            cases j with
            | zero => omega
            | succ j => exact k3 j y (by omega) (by simpa using hy)
      · simp at h
    · simp at h

theorem apartFrom_spec {e : Eff} : ∀ {l : List (Nat × Eff)}, apartFrom e l = true → ∀ p ∈ l, e.after.testBit p.1 = true ∨ meets p.2 e = false
  | [], _, p, hp => by simp at hp
  | (i, a) :: r, h, p, hp => by
    unfold apartFrom at h
    simp only [Bool.and_eq_true, Bool.or_eq_true, Bool.not_eq_true'] at h
    simp at hp
    rcases hp with rfl | hp
    · exact h.1
    · exact apartFrom_spec h.2 p hp
theorem allApart_spec : ∀ (es : List Eff) (j : Nat) (done : List (Nat × Eff)), allApart j done es = true →
    (∀ p ∈ done, ∀ (k : Nat) e, es[k]? = some e → e.after.testBit p.1 = true ∨ meets p.2 e = false) ∧
    (∀ (i k : Nat) a b, i < k → es[i]? = some a → es[k]? = some b → b.after.testBit (j + i) = true ∨ meets a b = false)
  | [], j, done, h => ⟨fun p hp k e he => by simp at he, fun i k a b _ ha => by simp at ha⟩
  | e :: r, j, done, h => by
    unfold allApart at h
    simp only [Bool.and_eq_true] at h
    obtain ⟨k1, k2⟩ := allApart_spec r (j + 1) ((j, e) :: done) h.2
    refine ⟨fun p hp k x hx => ?_, fun i k a b hik ha hb => ?_⟩
    · cases k with
      | zero =>
        simp at hx
        subst hx
        exact apartFrom_spec h.1 p hp
      | succ k => exact k1 p (by simp [hp]) k x (by simpa using hx)
    · cases k with
      | zero => omega
      | succ k =>
        cases i with
        | zero =>
          simp at ha
          subst ha
          exact k1 (j, e) (by simp) k b (by simpa using hb)
        | succ i =>
          have := k2 i k a b (by omega) (by simpa using ha) (by simpa using hb)
          have e' : j + 1 + i = j + (i + 1) := by omega
          rw [e'] at this
          exact this

theorem meets_false {a b : Eff} (h : meets a b = false) :
    (∀ d, a.dst = some d → d ∉ b.reads ∧ b.dst ≠ some d) ∧ (∀ d, b.dst = some d → d ∉ a.reads) ∧
    ((a.wr = true ∨ b.wr = true) → ∀ id, id ∈ a.ids → id ∉ b.ids) ∧ (∀ id ∈ b.ids, ¬ (a.lo ≤ id ∧ id < a.hi)) := by
  unfold meets at h
  simp only [Bool.or_eq_false_iff] at h
  obtain ⟨⟨⟨h1, h2⟩, h3⟩, h4⟩ := h
  refine ⟨fun d hd => ?_, fun d hd => ?_, fun hw id ha hb => ?_, fun id hb hr => ?_⟩
  · rw [hd] at h1
    simp only [Bool.or_eq_false_iff] at h1
    exact ⟨by simpa using h1.1, by simpa using h1.2⟩
  · rw [hd] at h2
    simpa using h2
  · have hw' : (a.wr || b.wr) = true := by simpa using hw
    rw [hw', Bool.true_and] at h3
    rw [List.any_eq_false] at h3
    exact h3 id ha (by simpa using hb)
  · rw [List.any_eq_false] at h4
    exact h4 id hb (by simpa using hr)
end
end Go.Am
