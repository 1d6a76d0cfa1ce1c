/- Parts of the proof, joined by program: AmDraw, AmFrs, LaLS, LaLY. -/
import Derived.Test.YtfaphhcloanhnaaPa15
import Derived.Test.YtfaphhcloanhnaaPa6
import Derived.Test.YtfaphhcloanhnaaPa9
set_option linter.unusedSimpArgs false
set_option linter.unusedVariables false
namespace Go.Am

theorem restrict_get {α : Type} (h : Tr α) (x : Nat) : ∀ l : List Nat, (restrict h l).get x = if x ∈ l then h.get x else none
  | [] => by simp [restrict, Tr.get_nil]
  | id :: r => by
    rw [restrict, Tr.get_set, restrict_get h x r]
    by_cases e : x = id
    · subst e; simp
    · simp [e]
theorem mergeIds_get (h sub : Tr Box) (x : Nat) : ∀ l : List Nat, (mergeIds h sub l).get x = if x ∈ l then sub.get x else h.get x
  | [] => by simp [mergeIds]
  | id :: r => by
    rw [mergeIds, Tr.get_set, mergeIds_get h sub x r]
    by_cases e : x = id
    · subst e; simp
    · simp [e]
theorem mergeNew_get (h sub : Tr Box) (lo x : Nat) : ∀ n : Nat, (mergeNew h sub lo n).get x = if lo ≤ x ∧ x < lo + n then sub.get x else h.get x
  | 0 => by simp [mergeNew]; intros; omega
  | n + 1 => by
    rw [mergeNew, Tr.get_set, mergeNew_get h sub lo x n]
    by_cases e : x = lo + n
    · subst e; simp
    · rw [if_neg e]
      by_cases k : lo ≤ x ∧ x < lo + n
      · rw [if_pos k, if_pos ⟨k.1, by omega⟩]
      · rw [if_neg k, if_neg (by omega)]

/-! ### What a point of the state is behind some of the operations -/
def Eff.hit (t : Nat) (e : Eff) : Bool := e.dst == some t
def Eff.cov (id : Nat) (e : Eff) : Bool := e.all || (decide (e.lo ≤ id) && decide (id < e.hi)) || (e.wr && e.ids.contains id)

def lastV {β : Type} (hit : Eff → Bool) (val : Eff → β) : (Nat → Bool) → List Eff → β → β
  | _, [], b => b
  | D, e :: r, b => lastV hit val (fun j => D (j + 1)) r (if D 0 && hit e then val e else b)

section
variable {β : Type} {hit : Eff → Bool} {val : Eff → β}
theorem lastV_congr : ∀ (es : List Eff) (D D' : Nat → Bool) (b : β), (∀ (j : Nat) e, es[j]? = some e → hit e = true → D j = D' j) → lastV hit val D es b = lastV hit val D' es b
  | [], D, D', b, h => rfl
  | e :: r, D, D', b, h => by
    unfold lastV
    have h0 : (D 0 && hit e) = (D' 0 && hit e) := by
      cases hh : hit e with
      | false => simp
      | true => rw [h 0 e rfl hh]
    rw [h0]
    exact lastV_congr r _ _ _ fun j x hx hh => h (j + 1) x (by simpa using hx) hh
theorem lastV_none : ∀ (es : List Eff) (D : Nat → Bool) (b : β), (∀ (j : Nat) e, es[j]? = some e → D j = true → hit e = false) → lastV hit val D es b = b
  | [], D, b, h => rfl
  | e :: r, D, b, h => by
    unfold lastV
    have h0 : (D 0 && hit e) = false := by
      cases hh : D 0 with
      | false => simp
      | true => rw [h 0 e rfl hh]; rfl
    rw [h0, if_neg (by simp)]
    exact lastV_none r _ _ fun j x hx hh => h (j + 1) x (by simpa using hx) hh
theorem lastV_at : ∀ (es : List Eff) (D : Nat → Bool) (b : β) (i : Nat) (e : Eff), es[i]? = some e → D i = true → hit e = true →
    (∀ (j : Nat) x, i < j → es[j]? = some x → D j = true → hit x = false) → lastV hit val D es b = val e
  | [], D, b, i, e, hi, _, _, _ => by simp at hi
  | x :: r, D, b, 0, e, hi, hD, hh, h => by
    simp at hi
    subst hi
    unfold lastV
    rw [hD, hh, if_pos (by rfl)]
    exact lastV_none r _ _ fun j y hy hd => h (j + 1) y (by omega) (by simpa using hy) hd
  | x :: r, D, b, i + 1, e, hi, hD, hh, h => by
    unfold lastV
    exact lastV_at r _ _ i e (by simpa using hi) hD hh fun j y hj hy hd => h (j + 1) y (by omega) (by simpa using hy) hd
end

def insD (D : Nat → Bool) (i : Nat) : Nat → Bool := fun j => D j || j == i

/-! ### The steps, as they were taken in the text's order -/
def slotD (es : List Eff) (s : St) (D : Nat → Bool) (t : Nat) : Option AVal := lastV (Eff.hit t) (fun e => some e.v) D es (s.slots.get t)
def heapD (es : List Eff) (s : St) (D : Nat → Bool) (id : Nat) : Option Box := lastV (Eff.cov id) (fun e => e.sub.get id) D es (s.mem.heap.get id)

theorem app_slot (e : Eff) (s : St) (t : Nat) : (e.app s).slots.get t = if Eff.hit t e then some e.v else s.slots.get t := by
  unfold Eff.app Eff.hit
  simp only
  cases h : e.dst with
  | none => simp [setDst]
  | some d =>
    simp only [setDst, Tr.get_set]
    by_cases k : t = d
    · subst k; simp
    · rw [if_neg k, if_neg (by simpa using fun h => k h.symm)]
theorem app_heap (e : Eff) (s : St) (id : Nat) (ha : e.all = false) (hle : e.lo ≤ e.hi) : (e.app s).mem.heap.get id = if Eff.cov id e then e.sub.get id else s.mem.heap.get id := by
  unfold Eff.app Eff.cov
  simp only [mergeNew_get, ha, Bool.false_or]
  have : e.lo + (e.hi - e.lo) = e.hi := by omega
  rw [this]
  by_cases k : e.lo ≤ id ∧ id < e.hi
  · rw [if_pos k, if_pos (by simp [k])]
  · rw [if_neg k]
    have k' : (decide (e.lo ≤ id) && decide (id < e.hi)) = false := by
      rw [← Bool.not_eq_true, Bool.and_eq_true, decide_eq_true_iff, decide_eq_true_iff]; exact k
    rw [k']
    simp only [Bool.false_or]
    cases hw : e.wr with
    | false => simp
    | true =>
      simp only [if_true, Bool.true_and, mergeIds_get]
      by_cases c : id ∈ e.ids
      · rw [if_pos c, if_pos (by simpa using c)]
      · rw [if_neg c, if_neg (by simpa using c)]

theorem effO_spec {cf : CallF} {o : AO} {s : St} {e : Eff} (h : effO cf o s = some e) :
    e.lo = s.mem.next ∧ e.dst = o.dst ∧ e.reads = slotsOf o ∧ e.after = o.after ∧ (∀ id ∈ e.ids, id < s.mem.next) ∧ (e.see = false ∧ e.all = false) ∧
    ((wantedA (restrict s.slots (slotsOf o)) o.guard = some true ∧ ∃ m, stepVal cf (restrict s.slots (slotsOf o)) ⟨restrict s.mem.heap e.ids, s.mem.next, s.mem.next⟩ o.op = some (e.v, m) ∧
        e.wr = decide (m.low < s.mem.next) ∧ e.hi = m.next ∧ e.low = m.low ∧ e.sub = m.heap) ∨
     (wantedA (restrict s.slots (slotsOf o)) o.guard = some false ∧ e.v = .tup [] ∧ e.ids = [] ∧ e.wr = false ∧ e.hi = e.lo ∧ e.low = s.mem.next ∧ e.sub = .nil)) := by
  unfold effO at h
  simp only at h
  split at h
  · rename_i hw
    split at h
    · rename_i ids hids
      split at h
      · rename_i hall
        split at h
        · rename_i v m hv
          simp only [Option.some.injEq] at h
          subst h
          refine ⟨rfl, rfl, rfl, rfl, fun id hid => ?_, ⟨rfl, rfl⟩, .inl ⟨hw, m, hv, rfl, rfl, rfl, rfl⟩⟩
          have := List.all_eq_true.1 hall id hid
          simpa using this
        · simp at h
      · simp at h
    · simp at h
  · rename_i hw
    simp only [Option.some.injEq] at h
    subst h
    exact ⟨rfl, rfl, rfl, rfl, fun id hid => by simp at hid, ⟨rfl, rfl⟩, .inr ⟨hw, rfl, rfl, rfl, rfl, rfl, rfl⟩⟩
  · simp at h

section
variable {P : Program} {cf : CallF}

theorem effO_grow (hcf : CfOk P cf) {o : AO} {s : St} {e : Eff} (h : effO cf o s = some e) : e.lo ≤ e.hi ∧ Grow s.mem (e.app s).mem := by
  obtain ⟨h1, h2, h3, h4, h5, ⟨_, hall⟩, h6⟩ := effO_spec h
  rcases h6 with ⟨hw, m, hv, g1, g2, g3, g4⟩ | ⟨hw, g0, g1, g2, g3, g4, g5⟩
  · have hg := stepVal_grow hcf hv
    have hle : e.lo ≤ e.hi := by rw [h1, g2]; exact hg.next
    refine ⟨hle, ?_, ?_, fun id hid => ?_⟩
    · show s.mem.next ≤ e.hi
      rw [← h1]; exact hle
    · show min s.mem.low e.low ≤ s.mem.low
      omega
    · rw [app_heap _ _ _ hall hle]
      by_cases c : Eff.cov id e = true
      · rw [if_pos c]
        unfold Eff.cov at c
        rw [h1, hall] at c
        have : (decide (s.mem.next ≤ id)) = false := by simp; exact hid
        rw [this] at c
        simp only [Bool.false_and, Bool.false_or, Bool.and_eq_true] at c
        have hmem : id ∈ e.ids := by simpa using c.2
        rcases hg.same id hid with k | k
        · left
          show min s.mem.low e.low ≤ id
          rw [g3]
          omega
        · right
          rw [g4, k]
          simp [restrict_get, hmem]
      · rw [if_neg c]
        exact .inr rfl
  · have hle : e.lo ≤ e.hi := by omega
    refine ⟨hle, ?_, ?_, fun id hid => ?_⟩
    · show s.mem.next ≤ e.hi
      omega
    · show min s.mem.low e.low ≤ s.mem.low
      omega
    · rw [app_heap _ _ _ hall hle]
      right
      rw [if_neg]
      unfold Eff.cov
      rw [g1, g2, hall]
      simp
      intro; omega

theorem drawOs_spec (hcf : CfOk P cf) : ∀ (l : List AO) (s s' : St) (es : List Eff), drawOs cf l s = some (s', es) →
    es.length = l.length ∧ Grow s.mem s'.mem ∧
    (∀ t, s'.slots.get t = slotD es s (fun _ => true) t) ∧ (∀ id, s'.mem.heap.get id = heapD es s (fun _ => true) id) ∧
    (∀ (i : Nat) e o, es[i]? = some e → l[i]? = some o → ∃ si : St, effO cf o si = some e ∧ s.mem.next ≤ si.mem.next ∧ e.hi ≤ s'.mem.next ∧
      (∀ t, si.slots.get t = slotD es s (fun j => decide (j < i)) t) ∧ (∀ id, si.mem.heap.get id = heapD es s (fun j => decide (j < i)) id)) ∧
    (∀ (i : Nat) e, es[i]? = some e → s.mem.next ≤ e.lo ∧ e.lo ≤ e.hi ∧ ∀ (j : Nat) e', i < j → es[j]? = some e' → e.hi ≤ e'.lo)
  | [], s, s', es, h => by
    simp only [drawOs, Option.some.injEq, Prod.mk.injEq] at h
    obtain ⟨rfl, rfl⟩ := h
    exact ⟨rfl, Grow.refl _, fun t => rfl, fun id => rfl, fun i e o hi => by simp at hi, fun i e hi => by simp at hi⟩
  | o :: l, s, s', es, h => by
    unfold drawOs at h
    split at h
    · rename_i e he
      split at h
      · rename_i s1 es' hr
        simp only [Option.some.injEq, Prod.mk.injEq] at h
        obtain ⟨rfl, rfl⟩ := h
        obtain ⟨hle, hg⟩ := effO_grow hcf he
        obtain ⟨h1, h2, h3, h4, h5, h6⟩ := drawOs_spec hcf l _ _ _ hr
        obtain ⟨e1, _, _, _, _, ⟨_, hall⟩, _⟩ := effO_spec he
        have hn : (e.app s).mem.next = e.hi := rfl
        have hslot : ∀ (D : Nat → Bool) t, D 0 = true → slotD es' (e.app s) (fun j => D (j + 1)) t = slotD (e :: es') s D t := by
          intro D t h0
          unfold slotD
          rw [app_slot]
          conv => rhs; unfold lastV
          rw [h0, Bool.true_and]
        have hheap : ∀ (D : Nat → Bool) id, D 0 = true → heapD es' (e.app s) (fun j => D (j + 1)) id = heapD (e :: es') s D id := by
          intro D t h0
          unfold heapD
          rw [app_heap _ _ _ hall hle]
          conv => rhs; unfold lastV
          rw [h0, Bool.true_and]
        refine ⟨by simp [h1], hg.trans h2, fun t => (h3 t).trans (hslot (fun _ => true) t rfl), fun id => (h4 id).trans (hheap (fun _ => true) id rfl), fun i x ox hi hl => ?_, fun i x hi => ?_⟩
        · cases i with
          | zero =>
            simp at hi hl
            subst hi hl
            refine ⟨s, he, Nat.le_refl _, hn ▸ h2.next, fun t => ?_, fun id => ?_⟩
            · exact (lastV_none _ _ _ fun j y hy hd => by simp at hd).symm
            · exact (lastV_none _ _ _ fun j y hy hd => by simp at hd).symm
          | succ i =>
            obtain ⟨si, k1, k2, k3, k4, k5⟩ := h5 i x ox (by simpa using hi) (by simpa using hl)
            refine ⟨si, k1, ?_, k3, fun t => ?_, fun id => ?_⟩
            · rw [hn] at k2; omega
            · rw [k4, ← hslot _ t (by simp)]; congr 1; funext j; simp
            · rw [k5, ← hheap _ id (by simp)]; congr 1; funext j; simp
        · cases i with
          | zero =>
            simp at hi
            subst hi
            refine ⟨by omega, hle, fun j y hj hy => ?_⟩
            cases j with
            | zero => omega
            | succ j => exact hn ▸ (h6 j y (by simpa using hy)).1
          | succ i =>
            obtain ⟨k1, k2, k3⟩ := h6 i x (by simpa using hi)
            refine ⟨by rw [hn] at k1; omega, k2, fun j y hj hy => ?_⟩
            cases j with
            | zero => omega
            | succ j => exact k3 j y (by omega) (by simpa using hy)
      · simp at h
    · simp at h

theorem apartFrom_spec {e : Eff} : ∀ {l : List (Nat × Eff)}, apartFrom e l = true → ∀ p ∈ l, e.after.testBit p.1 = true ∨ meets p.2 e = false
  | [], _, p, hp => by simp at hp
  | (i, a) :: r, h, p, hp => by
    unfold apartFrom at h
    simp only [Bool.and_eq_true, Bool.or_eq_true, Bool.not_eq_true'] at h
    simp at hp
    rcases hp with rfl | hp
    · exact h.1
    · exact apartFrom_spec h.2 p hp
theorem allApart_spec : ∀ (es : List Eff) (j : Nat) (done : List (Nat × Eff)), allApart j done es = true →
    (∀ p ∈ done, ∀ (k : Nat) e, es[k]? = some e → e.after.testBit p.1 = true ∨ meets p.2 e = false) ∧
    (∀ (i k : Nat) a b, i < k → es[i]? = some a → es[k]? = some b → b.after.testBit (j + i) = true ∨ meets a b = false)
  | [], j, done, h => ⟨fun p hp k e he => by simp at he, fun i k a b _ ha => by simp at ha⟩
  | e :: r, j, done, h => by
    unfold allApart at h
    simp only [Bool.and_eq_true] at h
    obtain ⟨k1, k2⟩ := allApart_spec r (j + 1) ((j, e) :: done) h.2
    refine ⟨fun p hp k x hx => ?_, fun i k a b hik ha hb => ?_⟩
    · cases k with
      | zero =>
        simp at hx
        subst hx
        exact apartFrom_spec h.1 p hp
      | succ k => exact k1 p (by simp [hp]) k x (by simpa using hx)
    · cases k with
      | zero => omega
      | succ k =>
        cases i with
        | zero =>
          simp at ha
          subst ha
          exact k1 (j, e) (by simp) k b (by simpa using hb)
        | succ i =>
          have := k2 i k a b (by omega) (by simpa using ha) (by simpa using hb)
          have e' : j + 1 + i = j + (i + 1) := by omega
          rw [e'] at this
          exact this

theorem meets_false {a b : Eff} (h : meets a b = false) :
    (∀ d, a.dst = some d → d ∉ b.reads ∧ b.dst ≠ some d) ∧ (∀ d, b.dst = some d → d ∉ a.reads) ∧
    ((a.wr = true ∨ b.wr = true) → ∀ id, id ∈ a.ids → id ∉ b.ids) ∧ (∀ id ∈ b.ids, ¬ (a.lo ≤ id ∧ id < a.hi)) := by
  unfold meets at h
  simp only [Bool.or_eq_false_iff] at h
  obtain ⟨⟨⟨h1, h2⟩, h3⟩, h4⟩ := h
  refine ⟨fun d hd => ?_, fun d hd => ?_, fun hw id ha hb => ?_, fun id hb hr => ?_⟩
  · rw [hd] at h1
    simp only [Bool.or_eq_false_iff] at h1
    exact ⟨by simpa using h1.1, by simpa using h1.2⟩
  · rw [hd] at h2
    simpa using h2
  · have hw' : (a.wr || b.wr) = true := by simpa using hw
    rw [hw', Bool.true_and] at h3
    rw [List.any_eq_false] at h3
    exact h3 id ha (by simpa using hb)
  · rw [List.any_eq_false] at h4
    exact h4 id hb (by simpa using hr)
end
end Go.Am
namespace Go.Am
structure Above (k : Nat) (m : Mem) : Prop where
  no : ∀ id, id < k → m.heap.get id = none
  next : k ≤ m.next
theorem Above.new {k : Nat} {m : Mem} (h : Above k m) (b : Box) : Above k (m.new b) :=
  ⟨fun id hid => by have := h.next; simp only [Mem.new, Tr.get_set]; rw [if_neg (by omega)]; exact h.no id hid, by have := h.next; simp only [Mem.new]; omega⟩
theorem Above.cut {k : Nat} {m : Mem} (h : Above k m) (id : Nat) : Above k (m.put id none) :=
  ⟨fun i hid => by
    simp only [Mem.put, Tr.get_set]
    split
    · rfl
    · exact h.no i hid, h.next⟩
theorem Above.put {k id : Nat} {m : Mem} {cs : List AVal} (h : Above k m) (hc : m.cells id = some cs) (b : Option Box) : Above k (m.put id b) := by
  refine ⟨fun i hid => ?_, h.next⟩
  simp only [Mem.put, Tr.get_set]
  split
  · rename_i e
    subst e
    unfold Mem.cells at hc
    rw [h.no i hid] at hc
    simp at hc
  · exact h.no i hid
theorem opVal_above {k : Nat} {s : Tr AVal} {m m' : Mem} {op : AOp} {v : AVal} (ha : Above k m) (h : opVal s m op = some (v, m')) : Above k m' := by
  cases op <;> simp only [opVal] at h
  all_goals (repeat' (split at h))
  all_goals (try (simp only [reduceCtorEq] at h; done))
  all_goals (try simp only [Option.map_eq_some_iff, Option.some.injEq, Prod.mk.injEq] at h)
  all_goals first
    | (obtain ⟨rfl, rfl⟩ := h; exact ha)
    | (obtain ⟨_, _, rfl, rfl⟩ := h; exact ha)
    | (obtain ⟨rfl, rfl⟩ := h; exact ha.new _)
    | (obtain ⟨rfl, rfl⟩ := h; exact (ha.cut _).new _)
    | (obtain ⟨rfl, rfl⟩ := h; exact ha.put (by assumption) _)
    | skip
def CfAbove (cf : CallF) : Prop := ∀ k g args m v m', cf g args m = some (v, m') → Above k m → Above k m'
section
variable {cf : CallF} {k : Nat}
theorem stepVal_above (hcf : CfAbove cf) {s : Tr AVal} {m m' : Mem} {op : AOp} {v : AVal} (ha : Above k m) (h : stepVal cf s m op = some (v, m')) : Above k m' := by
  unfold stepVal at h
  split at h
  · split at h
    · exact hcf _ _ _ _ _ _ h ha
    · simp at h
  · exact opVal_above ha h
theorem stepO_above (hcf : CfAbove cf) {o : AO} {s s' : St} (ha : Above k s.mem) (h : stepO cf o s = some s') : Above k s'.mem := by
  unfold stepO at h
  split at h
  · split at h
    · rename_i v m hv
      simp only [Option.some.injEq] at h
      subst h
      exact stepVal_above hcf ha hv
    · simp at h
  · simp only [Option.some.injEq] at h
    subst h
    exact ha
  · simp at h
theorem stepOs_above (hcf : CfAbove cf) : ∀ {l : List AO} {s s' : St}, Above k s.mem → stepOs cf l s = some s' → Above k s'.mem
  | [], s, s', ha, h => by simp only [stepOs, Option.some.injEq] at h; subst h; exact ha
  | o :: l, s, s', ha, h => by
    unfold stepOs at h
    split at h
    · rename_i s1 h1
      exact stepOs_above hcf (stepO_above hcf ha h1) h
    · simp at h
theorem effO_above (hcf : CfAbove cf) {o : AO} {s : St} {e : Eff} (ha : Above k s.mem) (h : effO cf o s = some e) : Above k (e.app s).mem := by
  have key : ∀ (ids : List Nat) (sub : Tr Box) (lo hi low : Nat) (wr : Bool) (d : Option Nat) (v : AVal) (r : List Nat) (af : Nat) (x y : Bool), (∀ id, id < k → sub.get id = none) → k ≤ hi → Above k (Eff.app ⟨d, v, r, ids, wr, lo, hi, low, sub, af, x, y⟩ s).mem := by
    intro ids sub lo hi low wr d v r af x y hs hk
    refine ⟨fun id hid => ?_, hk⟩
    simp only [Eff.app, mergeNew_get]
    split
    · exact hs id hid
    · split
      · rw [mergeIds_get]
        split
        · exact hs id hid
        · exact ha.no id hid
      · exact ha.no id hid
  unfold effO at h
  simp only at h
  split at h
  · split at h
    · rename_i ids _
      split at h
      · split at h
        · rename_i v m hv
          simp only [Option.some.injEq] at h
          subst h
          have := stepVal_above (k := k) hcf (m := ⟨restrict s.mem.heap ids, s.mem.next, s.mem.next⟩) ⟨fun id hid => by
            show (restrict s.mem.heap ids).get id = none
            rw [restrict_get]
            split
            · exact ha.no id hid
            · rfl, ha.next⟩ hv
          exact key _ _ _ _ _ _ _ _ _ _ _ _ this.no this.next
        · simp at h
      · simp at h
    · simp at h
  · simp only [Option.some.injEq] at h
    subst h
    exact key _ _ _ _ _ _ _ _ _ _ _ _ (fun id _ => Tr.get_nil id) ha.next
  · simp at h
theorem drawOs_above (hcf : CfAbove cf) : ∀ {l : List AO} {s : St} {r : St × List Eff}, Above k s.mem → drawOs cf l s = some r → Above k r.1.mem
  | [], s, r, ha, h => by simp only [drawOs, Option.some.injEq] at h; subst h; exact ha
  | o :: l, s, r, ha, h => by
    unfold drawOs at h
    split at h
    · rename_i e he
      split at h
      · rename_i s1 es h1
        simp only [Option.some.injEq] at h
        subst h
        exact drawOs_above (r := (s1, es)) hcf (effO_above hcf ha he) h1
      · simp at h
    · simp at h
end
section
variable {E : Env}
structure RunAbove (E : Env) (n : Nat) : Prop where
  run : ∀ k c s ex s', run E n c s = some (ex, s') → Above k s.mem → Above k s'.mem
  call : CfAbove (callF E n)
  body : ∀ k f args m v m', body E n f args m = some (v, m') → Above k m → Above k m'
/-- What is known of functions keeps to it. -/
def KnownAbove (E : Env) : Prop := ∀ k f args m v m', E.known f args m = some (v, m') → Above k m → Above k m'
theorem above_step {n : Nat} (hK : KnownAbove E) (ih : RunAbove E n) : RunAbove E (n + 1) := by
  refine ⟨fun k c s ex s' h ha => ?_, fun k g args m v m' h ha => ?_, fun k f args m v m' h ha => ?_⟩
  · cases c with
    | skip => simp only [Am.run, Option.some.injEq, Prod.mk.injEq] at h; rw [← h.2]; exact ha
    | exit id => simp only [Am.run, Option.some.injEq, Prod.mk.injEq] at h; rw [← h.2]; exact ha
    | ret => simp only [Am.run, Option.some.injEq, Prod.mk.injEq] at h; rw [← h.2]; exact ha
    | scope c => rw [Am.run] at h; exact ih.run _ _ _ _ _ h ha
    | reg ops d =>
      rw [Am.run] at h
      split at h
      · rename_i s1 hs
        simp only [Option.some.injEq, Prod.mk.injEq] at h
        obtain ⟨-, rfl⟩ := h
        split at hs
        · unfold drawn at hs
          split at hs
          · rename_i s2 es h2
            split at hs
            · simp only [Option.some.injEq] at hs
              subst hs
              exact drawOs_above (r := (s2, es)) ih.call ha h2
            · simp at hs
          · simp at hs
        · exact stepOs_above ih.call ha hs
      · simp at h
    | seq a b =>
      rw [Am.run] at h
      split at h
      · rename_i s1 hs
        exact ih.run _ _ _ _ _ h (ih.run _ _ _ _ _ hs ha)
      · exact ih.run _ _ _ _ _ h ha
    | cond c a b =>
      rw [Am.run] at h
      split at h
      · exact ih.run _ _ _ _ _ h ha
      · exact ih.run _ _ _ _ _ h ha
      · simp at h
    | blk id c =>
      rw [Am.run] at h
      split at h
      · rename_i j s1 hs
        have := ih.run _ _ _ _ _ hs ha
        split at h
        · simp only [Option.some.injEq, Prod.mk.injEq] at h; rw [← h.2]; exact this
        · simp only [Option.some.injEq, Prod.mk.injEq] at h; rw [← h.2]; exact this
      · exact ih.run _ _ _ _ _ h ha
    | loop c =>
      rw [Am.run] at h
      split at h
      · rename_i s1 hs
        exact ih.run _ _ _ _ _ h (ih.run _ _ _ _ _ hs ha)
      · exact ih.run _ _ _ _ _ h ha
  · cases g with
    | func f =>
      rw [callF] at h
      split at h
      · exact hK _ _ _ _ _ _ h ha
      · split at h
        · simp at h
        · split at h
          · rename_i v1 m1 hb
            simp only [Option.some.injEq, Prod.mk.injEq] at h
            obtain ⟨-, rfl⟩ := h
            have := ih.body k _ _ _ _ _ hb ⟨ha.no, ha.next⟩
            exact ⟨this.no, this.next⟩
          · simp at h
      · (repeat' (split at h)) <;> first | (simp only [reduceCtorEq] at h; done) | (simp only [Option.some.injEq, Prod.mk.injEq] at h; rw [← h.2]; exact ha)
      · split at h
        · simp at h
        · split at h
          · split at h
            · rename_i v1 m1 hb
              simp only [Option.some.injEq, Prod.mk.injEq] at h
              obtain ⟨-, rfl⟩ := h
              have := ih.body k _ _ _ _ _ hb ⟨fun id _ => Tr.get_nil id, ha.next⟩
              refine ⟨fun id hid => ?_, this.next⟩
              simp only [mergeNew_get]
              split
              · exact this.no id hid
              · exact ha.no id hid
            · simp at h
          · simp at h
    | _ => simp [callF] at h
  · rw [Am.body] at h
    split at h
    · split at h
      · rename_i s hr
        simp only [Option.map_eq_some_iff, Prod.mk.injEq] at h
        obtain ⟨_, -, -, rfl⟩ := h
        exact ih.run _ _ _ _ _ hr ha
      · rename_i s hr
        simp only [Option.map_eq_some_iff, Prod.mk.injEq] at h
        obtain ⟨_, -, -, rfl⟩ := h
        exact ih.run _ _ _ _ _ hr ha
      · simp at h
    · simp at h
theorem above_all (hK : KnownAbove E) : ∀ n, RunAbove E n
  | 0 => ⟨fun k c s ex s' h => by simp [Am.run] at h, fun k g args m v m' h => by simp [callF] at h, fun k f args m v m' h => by simp [Am.body] at h⟩
  | n + 1 => above_step hK (above_all hK n)
/-- Handed no box: what it makes is laid beside what was there. -/
theorem callO_fresh {f : FuncId} {fn : AFn} {args : List AVal} {L : Hp} {J : AVal → Hp → Prop} (hK : KnownAbove E) (hm : E.mode f = .fresh) (hf : E.fns f = some fn) (hb : args.all AVal.bare = true) (h : BodyO E fn args [] J) : CallO E f args L fun v L' => ∃ B, J v B ∧ L' = B ++ L := ⟨fun m ho => by
  refine call_fresh hm hf hb ?_
  obtain ⟨n, v, m', h1, B, h2, h3⟩ := h.ex ⟨.nil, m.next, m.next⟩ Ows.nil
  refine ⟨n, v, m', h1, B ++ L, ?_, B, h3, rfl⟩
  have hab := (above_all hK n).body m.next _ _ _ _ _ h1 ⟨fun id _ => Tr.get_nil id, Nat.le_refl _⟩
  have hnx := hab.next
  have hlen : m.next + (m'.next - m.next) = m'.next := by omega
  have hB : ∀ p ∈ B, m.next ≤ p.1 ∧ p.1 < m'.next := by
    intro p hp
    have hc := h2.at_ p hp
    have hlt := cells_next hc
    refine ⟨Nat.le_of_not_lt fun hl => ?_, hlt⟩
    unfold Mem.cells at hc
    rw [hab.no p.1 hl] at hc
    simp at hc
  refine ⟨?_, fun p hp => ?_⟩
  · rw [List.map_append, List.nodup_append]
    refine ⟨h2.nd, ho.nd, fun a ha b hb e => ?_⟩
    obtain ⟨p, hp, rfl⟩ := List.mem_map.1 ha
    obtain ⟨q, hq, rfl⟩ := List.mem_map.1 hb
    have := (hB p hp).1
    have := ho.lt hq
    omega
  · rcases List.mem_append.1 hp with hp | hp
    · have hc := h2.at_ p hp
      have hr := hB p hp
      unfold Mem.cells at hc ⊢
      simp only [mergeNew_get, hlen]
      rw [if_pos hr.2] at hc ⊢
      rw [if_pos hr]
      exact hc
    · have hc := ho.at_ p hp
      have hr := ho.lt hp
      unfold Mem.cells at hc ⊢
      simp only [mergeNew_get, hlen]
      rw [if_pos hr] at hc
      rw [if_pos (by omega), if_neg (by omega)]
      exact hc⟩
end
end Go.Am
namespace Go.Proofs.Ytfaphhcloanhnaa
open Go.Am
set_option maxRecDepth 4000
set_option maxHeartbeats 8000000
variable {E : Env} {L : Hp}
def swapF (a b p : Int) : Int := if p = a then b else if p = b then a else p
def swapPl (a b : Int) (l : List Int) : List Int := l.map (swapF a b)
def swapOp (a b : Int) : OpD := ⟨1, 14, [a, b], 0, -1, 0⟩
structure LaidD where
  ops : List OpD
  place : List Int
  swaps : Nat
def LaidD.swap (l : LaidD) (a b : Int) : LaidD := ⟨l.ops ++ [swapOp a b], swapPl a b l.place, l.swaps + 1⟩
def midPl (a b : Int) (l : List Int) (k : Nat) : List Int := (l.take k).map (swapF a b) ++ l.drop k
theorem midPl_zero (a b : Int) (l : List Int) : midPl a b l 0 = l := by simp [midPl]
theorem midPl_all (a b : Int) (l : List Int) : midPl a b l l.length = swapPl a b l := by simp [midPl, swapPl]
theorem midPl_len (a b : Int) (l : List Int) (k : Nat) (h : k ≤ l.length) : (midPl a b l k).length = l.length := by simp [midPl]; omega
theorem midPl_get {a b : Int} {l : List Int} {k : Nat} (h : k < l.length) : (midPl a b l k).getD k 0 = l.getD k 0 := by
  have hl : ((l.take k).map (swapF a b)).length = k := by simp; omega
  simp only [midPl, List.getD_eq_getElem?_getD]
  rw [List.getElem?_append_right (by omega), hl, Nat.sub_self, List.getElem?_drop, Nat.add_zero]
theorem midPl_set {a b : Int} {l : List Int} {k : Nat} (h : k < l.length) : (midPl a b l k).set k (swapF a b (l.getD k 0)) = midPl a b l (k + 1) := by
  have hl : ((l.take k).map (swapF a b)).length = k := by simp; omega
  unfold midPl
  rw [List.set_append_right _ _ (by omega), hl, Nat.sub_self, List.drop_eq_getElem_cons h, List.set_cons_zero, List.take_succ_eq_append_getElem h, List.map_append, List.append_assoc]
  have : l.getD k 0 = l[k] := by simp [h]
  rw [this]
  rfl
theorem midPl_same {a b : Int} {l : List Int} {k : Nat} (h : k < l.length) (h1 : l.getD k 0 ≠ a) (h2 : l.getD k 0 ≠ b) : midPl a b l k = midPl a b l (k + 1) := by
  rw [← midPl_set h]
  have : swapF a b (l.getD k 0) = (midPl a b l k).getD k 0 := by rw [midPl_get h]; simp only [swapF, if_neg h1, if_neg h2]
  rw [this]
  have hk : k < (midPl a b l k).length := by rw [midPl_len _ _ _ _ (by omega)]; exact h
  simp [hk]

theorem rswap_fresh (hF : E.fns = fnsT) (hK : KnownAbove E) (hm : E.mode f_route_swap = .fresh) (a b : Int) : CallO E f_route_swap [aint a, aint b] L fun v L' => ∃ id, v = .agg (opCells (.sl id 0 2 1 (some 2)) (swapOp a b)) ∧ L' = (id, [aint a, aint b]) :: L := by
  refine CallO.to ((callO_fresh hK hm (fns_of hF n_route_swap) rfl (J := fun v B => ∃ id i2 xs, v = .agg (opCells (.sl id 0 2 1 (some 2)) (swapOp a b)) ∧ B = [(id, [aint a, aint b]), (i2, xs)]) ?_).mono ?_)
  · refine bodyO_of (Nat.le_of_ble_eq_true rfl) ?_; generalize ht : argSlots _ 0 .nil = t; have h0 : t.get 0 = some _ := (by rw [← ht]; rfl); have h1 : t.get 1 = some _ := (by rw [← ht]; rfl); clear ht
    repeat (first | intro id | refine goq ?_)
    ((first | apply retO_r | apply retO_n); (focus (exact resq)))
    exact ⟨_, _, _, rfl, rfl⟩
  · rintro v L' ⟨B, ⟨id, i2, xs, rfl, rfl⟩, rfl⟩
    exact ⟨(id, [aint a, aint b]) :: L, by exact subq, id, rfl, rfl⟩
theorem lswap_l0 {a b : Int} {il ip n sw : Nat} {cap : Option Nat} {ov : AVal} {pl : List Int} (hn : pl.length = n) (hlt : n ≤ 1000000) :
    ∀ (d k : Nat) (t : Tr AVal), d + k = n → t.get 0 = some (.ptr il 0) → t.get 1 = some (aint a) → t.get 2 = some (aint b) → t.get 30 = some (.sl ip 0 n 1 cap) → t.get 31 = some (aint n) → t.get 32 = some (aint k) →
    WpO E (.loop c_route_laid_swap_l0) t ((il, [ov, .sl ip 0 n 1 cap, aint sw]) :: (ip, (midPl a b pl k).map aint) :: L) (fun ex t' L' => ex = .exit 0 ∧ L' = (il, [ov, .sl ip 0 n 1 cap, aint sw]) :: (ip, (swapPl a b pl).map aint) :: L) := by
  intro d
  induction d with
  | zero =>
    intro k t hk h0 h1 h2 h30 h31 h32
    obtain rfl : k = n := by omega
    refine wo_loop ?_
    repeat (first | intro id | refine goq ?_)
    exact ⟨rfl, by rw [← hn, midPl_all]⟩
  | succ d ih =>
    intro k t hk h0 h1 h2 h30 h31 h32
    have hkl : k < pl.length := by omega
    have hml := midPl_len a b pl k (by omega)
    have hg := midPl_get (a := a) (b := b) hkl
    have hst := midPl_set (a := a) (b := b) hkl
    have hsm := midPl_same (a := a) (b := b) hkl
    have key : ∀ t2 : Tr AVal, t2.get 0 = some (.ptr il 0) → t2.get 1 = some (aint a) → t2.get 2 = some (aint b) → t2.get 30 = some (.sl ip 0 n 1 cap) → t2.get 31 = some (aint n) → t2.get 32 = some (aint ((k + 1 : Nat) : Int)) →
      ∀ l, l = midPl a b pl (k + 1) → WpO E (.loop c_route_laid_swap_l0) t2 ((il, [ov, .sl ip 0 n 1 cap, aint sw]) :: (ip, l.map aint) :: L) (fun ex t' L' => ex = .exit 0 ∧ L' = (il, [ov, .sl ip 0 n 1 cap, aint sw]) :: (ip, (swapPl a b pl).map aint) :: L) :=
      fun t2 e0 e1 e2 e3 e4 e5 l hl => by rw [hl]; exact ih (k + 1) t2 (by omega) e0 e1 e2 e3 e4 e5
    generalize midPl a b pl k = ml at *
    refine wo_loop ?_
    by_cases c1 : pl.getD k 0 = a
    · have hf : swapF a b (pl.getD k 0) = b := by simp only [swapF, if_pos c1]
      rw [hf] at hst
      repeat (first | intro id | refine goq ?_)
      refine key _ ?_ ?_ ?_ ?_ ?_ ?_ _ hst
      · exact slotq
      · exact slotq
      · exact slotq
      · exact slotq
      · exact slotq
      · exact slotq
    by_cases c2 : pl.getD k 0 = b
    · have hf : swapF a b (pl.getD k 0) = a := by simp only [swapF, if_neg c1, if_pos c2]
      rw [hf] at hst
      repeat (first | intro id | refine goq ?_)
      refine key _ ?_ ?_ ?_ ?_ ?_ ?_ _ hst
      · exact slotq
      · exact slotq
      · exact slotq
      · exact slotq
      · exact slotq
      · exact slotq
    · have hs := hsm c1 c2
      repeat (first | intro id | refine goq ?_)
      refine key _ ?_ ?_ ?_ ?_ ?_ ?_ _ hs
      · exact slotq
      · exact slotq
      · exact slotq
      · exact slotq
      · exact slotq
      · exact slotq
/-- What is laid, in boxes: the operations, the places. -/
def LaidB (l : LaidD) (ov pv : AVal) (B : Hp) : Prop := ∃ cs Bs H Pb, BufO 6 ov cs l.ops.length Bs ∧ OpsB cs l.ops H ∧ BufO 1 pv (l.place.map aint) l.place.length Pb ∧ l.ops.length ≤ 1000000 ∧ l.place.length ≤ 64 ∧ B = Bs ++ (H ++ Pb)
theorem LSwap_open (hF : E.fns = fnsT) (hK : KnownAbove E) (hm : E.mode f_route_laid_swap = .open_) (hms : E.mode f_route_swap = .fresh) (hst : still E c_route_laid_swap_r0 = true) {il : Nat} {l : LaidD} {ov pv : AVal} {B : Hp} {a b : Int} (h : LaidB l ov pv B) (h2 : l.ops.length < 1000000) (h3 : l.swaps < 1000000) :
    CallO E f_route_laid_swap [.ptr il 0, aint a, aint b] ((il, [ov, pv, aint l.swaps]) :: (B ++ L)) fun v L' => v = .tup [] ∧ ∃ ov' pv' B', LaidB (l.swap a b) ov' pv' B' ∧ L' = (il, [ov', pv', aint (l.swap a b).swaps]) :: (B' ++ L) := by
  refine CallO.to (callO_open hm (fns_of hF n_route_laid_swap) ?_)
  obtain ⟨cs, Bs, H, Pb, hb, ho, hp, -, hpl, rfl⟩ := h
  have ov1 := hb.isOne
  have pv1 := hp.isOne
  rw [List.append_assoc, List.append_assoc]
  refine bodyO_of (Nat.le_of_ble_eq_true rfl) ?_; generalize ht : argSlots _ 0 .nil = t; have h0 : t.get 0 = some _ := (by rw [← ht]; rfl); have h1 : t.get 1 = some _ := (by rw [← ht]; rfl); have h2 : t.get 2 = some _ := (by rw [← ht]; rfl); clear ht
  repeat (first | intro id | refine goq ?_)
  refine gok ?_
  refine (rswap_fresh hF hK hms a b).mono ?_
  rintro v L' ⟨is, rfl, rfl⟩
  unfold opCells
  repeat (first | intro id | refine goq ?_)
  have hb2 := hb.pushed (id := id) (nw := opCells (.sl is 0 2 1 (some 2)) (swapOp a b)) rfl rfl
  have ho2 := ho.snoc (u := .sl is 0 2 1 (some 2)) (o := swapOp a b) (B := [(is, [aint a, aint b])]) (.inr ⟨is, some 2, rfl, rfl⟩) (by simp [swapOp])
  unfold opCells at hb2 ho2
  rcases bufInv hp with ⟨rfl, hp0, hn0, rfl⟩ | ⟨ip, rfl, rfl⟩
  · have hpl0 : l.place = [] := List.eq_nil_of_length_eq_zero hn0
    refine wo_loop ?_
    repeat (first | intro id | refine goq ?_)
    ((first | apply retO_r | apply retO_n); (focus (exact resq)))
    refine ⟨(il, [.sl id 0 (l.ops.length + 1) 6 none, anil, aint ((l.swaps + 1 : Nat) : Int)]) :: (([(id, _)] ++ ((H ++ [(is, [aint a, aint b])]) ++ [])) ++ L), ?_, rfl, _, _, _, ⟨_, _, _, [], by simpa [LaidD.swap] using hb2, ho2, by simpa [LaidD.swap, swapPl, hpl0] using BufO.nil, by simp [LaidD.swap]; omega, by simp [LaidD.swap, swapPl, hpl0], rfl⟩, rfl⟩
    simp only [List.append_assoc, List.cons_append, List.nil_append]
    exact subq
  · refine WpO.weak (WpO.mono (lswap_l0 (a := a) (b := b) (il := il) (ip := ip) (sw := l.swaps + 1) (ov := .sl id 0 (l.ops.length + 1) 6 none) (L := (id, cs ++ opCells (.sl is 0 2 1 (some 2)) (swapOp a b)) :: (is, [aint a, aint b]) :: (H ++ L)) (cap := none) (pl := l.place) rfl (by omega) l.place.length 0 _ (by omega) ?_ ?_ ?_ ?_ ?_ ?_) ?_) ?_
    · exact slotq
    · exact slotq
    · exact slotq
    · exact slotq
    · exact slotq
    · exact slotq
    · rintro ex t' L' ⟨rfl, rfl⟩
      repeat (first | intro id | refine goq ?_)
      ((first | apply retO_r | apply retO_n); (focus (exact resq)))
      refine ⟨(il, [.sl id 0 (l.ops.length + 1) 6 none, .sl ip 0 l.place.length 1 none, aint ((l.swaps + 1 : Nat) : Int)]) :: (([(id, _)] ++ ((H ++ [(is, [aint a, aint b])]) ++ [(ip, (swapPl a b l.place).map aint)])) ++ L), ?_, rfl, _, _, _, ⟨_, _, _, [(ip, (swapPl a b l.place).map aint)], by simpa [LaidD.swap] using hb2, ho2, ?_, by simp [LaidD.swap]; omega, by simpa [LaidD.swap, swapPl] using hpl, rfl⟩, rfl⟩
      · simp only [List.append_assoc, List.cons_append, List.nil_append]
        exact subq
      · have : (l.swap a b).place.length = l.place.length := by simp [LaidD.swap, swapPl]
        rw [this]
        exact .box (by simp [LaidD.swap, swapPl]) (all_one_ints _)
    · rw [midPl_zero]
      exact subq
end Go.Proofs.Ytfaphhcloanhnaa
namespace Go.Proofs.Ytfaphhcloanhnaa
open Go.Am
set_option maxRecDepth 4000
set_option maxHeartbeats 8000000
variable {E : Env} {L : Hp}
theorem rlswap_l0 {a b nq nb : Int} {il ip n sw : Nat} {cap : Option Nat} {ov : AVal} {pl : List Int} (hn : pl.length = n) (hlt : n ≤ 1000000) :
    ∀ (d k : Nat) (t : Tr AVal), d + k = n → t.get 0 = some (.ptr il 0) → t.get 1 = some (aint a) → t.get 2 = some (aint b) → t.get 6 = some (aint k) →
    WpO E (.loop c_phasorref20_laid_swap_l0) t ((il, [aint nq, aint nb, ov, .sl ip 0 n 1 cap, aint sw]) :: (ip, (midPl a b pl k).map aint) :: L) (fun ex t' L' => ex = .exit 0 ∧ L' = (il, [aint nq, aint nb, ov, .sl ip 0 n 1 cap, aint sw]) :: (ip, (swapPl a b pl).map aint) :: L) := by
  intro d
  induction d with
  | zero =>
    intro k t hk h0 h1 h2 h6
    obtain rfl : k = n := by omega
    refine wo_loop ?_
    repeat (first | intro id | refine goq ?_)
    exact ⟨rfl, by rw [← hn, midPl_all]⟩
  | succ d ih =>
    intro k t hk h0 h1 h2 h6
    have hkl : k < pl.length := by omega
    have hml := midPl_len a b pl k (by omega)
    have hg := midPl_get (a := a) (b := b) hkl
    have hst := midPl_set (a := a) (b := b) hkl
    have hsm := midPl_same (a := a) (b := b) hkl
    have key : ∀ t2 : Tr AVal, t2.get 0 = some (.ptr il 0) → t2.get 1 = some (aint a) → t2.get 2 = some (aint b) → t2.get 6 = some (aint ((k + 1 : Nat) : Int)) →
      ∀ l, l = midPl a b pl (k + 1) → WpO E (.loop c_phasorref20_laid_swap_l0) t2 ((il, [aint nq, aint nb, ov, .sl ip 0 n 1 cap, aint sw]) :: (ip, l.map aint) :: L) (fun ex t' L' => ex = .exit 0 ∧ L' = (il, [aint nq, aint nb, ov, .sl ip 0 n 1 cap, aint sw]) :: (ip, (swapPl a b pl).map aint) :: L) :=
      fun t2 e0 e1 e2 e5 l hl => by rw [hl]; exact ih (k + 1) t2 (by omega) e0 e1 e2 e5
    generalize midPl a b pl k = ml at *
    refine wo_loop ?_
    by_cases c1 : pl.getD k 0 = a
    · have hf : swapF a b (pl.getD k 0) = b := by simp only [swapF, if_pos c1]
      rw [hf] at hst
      repeat (first | intro id | refine goq ?_)
      refine key _ ?_ ?_ ?_ ?_ _ hst
      · exact slotq
      · exact slotq
      · exact slotq
      · exact slotq
    by_cases c2 : pl.getD k 0 = b
    · have hf : swapF a b (pl.getD k 0) = a := by simp only [swapF, if_neg c1, if_pos c2]
      rw [hf] at hst
      repeat (first | intro id | refine goq ?_)
      refine key _ ?_ ?_ ?_ ?_ _ hst
      · exact slotq
      · exact slotq
      · exact slotq
      · exact slotq
    · have hs := hsm c1 c2
      repeat (first | intro id | refine goq ?_)
      refine key _ ?_ ?_ ?_ ?_ _ hs
      · exact slotq
      · exact slotq
      · exact slotq
      · exact slotq
theorem RLSwap_open (hF : E.fns = fnsT) (hm : E.mode f_phasorref20_laid_swap = .open_) {il : Nat} {l : LaidD} {ov pv : AVal} {B : Hp} {a b nq nb : Int} (h : LaidB l ov pv B) (h2 : l.ops.length < 1000000) (h3 : l.swaps < 1000000) :
    CallO E f_phasorref20_laid_swap [.ptr il 0, aint a, aint b] ((il, [aint nq, aint nb, ov, pv, aint l.swaps]) :: (B ++ L)) fun v L' => v = .tup [] ∧ ∃ ov' pv' B', LaidB (l.swap a b) ov' pv' B' ∧ L' = (il, [aint nq, aint nb, ov', pv', aint (l.swap a b).swaps]) :: (B' ++ L) := by
  refine CallO.to (callO_open hm (fns_of hF n_phasorref20_laid_swap) ?_)
  obtain ⟨cs, Bs, H, Pb, hb, ho, hp, -, hpl, rfl⟩ := h
  have ov1 := hb.isOne
  have pv1 := hp.isOne
  rw [List.append_assoc, List.append_assoc]
  refine bodyO_of (Nat.le_of_ble_eq_true rfl) ?_; generalize ht : argSlots _ 0 .nil = t; have h0 : t.get 0 = some _ := (by rw [← ht]; rfl); have h1 : t.get 1 = some _ := (by rw [← ht]; rfl); have h2 : t.get 2 = some _ := (by rw [← ht]; rfl); clear ht
  repeat (first | intro id | refine goq ?_)
  rename_i is i17
  have z0 : AVal.sc (Value.int .i64 0) = aint 0 := rfl
  have z1 : AVal.sc (Value.int .i64 1) = aint 1 := rfl
  have z14 : AVal.sc (Value.int .i64 14) = aint 14 := rfl
  have zm : AVal.sc (Value.int .i64 (-1)) = aint (-1) := rfl
  simp only [z0, z1, z14, zm]
  have hb2 := hb.pushed (id := id) (nw := opCells (.sl is 0 2 1 (some 2)) (swapOp a b)) rfl rfl
  have ho2 := ho.snoc (u := .sl is 0 2 1 (some 2)) (o := swapOp a b) (B := [(is, [aint a, aint b])]) (.inr ⟨is, some 2, rfl, rfl⟩) (by simp [swapOp])
  unfold opCells at hb2 ho2
  simp only [swapOp] at hb2 ho2
  rcases bufInv hp with ⟨rfl, hp0, hn0, rfl⟩ | ⟨ip, rfl, rfl⟩
  · have hpl0 : l.place = [] := List.eq_nil_of_length_eq_zero hn0
    refine wo_loop ?_
    repeat (first | intro id | refine goq ?_)
    ((first | apply retO_r | apply retO_n); (focus (exact resq)))
    refine ⟨(il, [aint nq, aint nb, .sl id 0 (l.ops.length + 1) 6 none, anil, aint ((l.swaps + 1 : Nat) : Int)]) :: (([(id, _)] ++ ((H ++ [(is, [aint a, aint b])]) ++ [])) ++ L), ?_, rfl, _, _, _, ⟨_, _, _, [], by simpa [LaidD.swap] using hb2, ho2, by simpa [LaidD.swap, swapPl, hpl0] using BufO.nil, by simp [LaidD.swap]; omega, by simp [LaidD.swap, swapPl, hpl0], rfl⟩, rfl⟩
    simp only [List.append_assoc, List.cons_append, List.nil_append]
    exact subq
  · refine WpO.weak (WpO.mono (rlswap_l0 (a := a) (b := b) (nq := nq) (nb := nb) (il := il) (ip := ip) (sw := l.swaps + 1) (ov := .sl id 0 (l.ops.length + 1) 6 none) (L := (id, cs ++ [aint 1, aint 14, .sl is 0 2 1 (some 2), aint 0, aint (-1), aint 0]) :: (is, [aint a, aint b]) :: (H ++ L)) (cap := none) (pl := l.place) rfl (by omega) l.place.length 0 _ (by omega) ?_ ?_ ?_ ?_) ?_) ?_
    · exact slotq
    · exact slotq
    · exact slotq
    · exact slotq
    · rintro ex t' L' ⟨rfl, rfl⟩
      repeat (first | intro id | refine goq ?_)
      ((first | apply retO_r | apply retO_n); (focus (exact resq)))
      refine ⟨(il, [aint nq, aint nb, .sl id 0 (l.ops.length + 1) 6 none, .sl ip 0 l.place.length 1 none, aint ((l.swaps + 1 : Nat) : Int)]) :: (([(id, _)] ++ ((H ++ [(is, [aint a, aint b])]) ++ [(ip, (swapPl a b l.place).map aint)])) ++ L), ?_, rfl, _, _, _, ⟨_, _, _, [(ip, (swapPl a b l.place).map aint)], by simpa [LaidD.swap] using hb2, ho2, ?_, by simp [LaidD.swap]; omega, by simpa [LaidD.swap, swapPl] using hpl, rfl⟩, rfl⟩
      · simp only [List.append_assoc, List.cons_append, List.nil_append]
        exact subq
      · have : (l.swap a b).place.length = l.place.length := by simp [LaidD.swap, swapPl]
        rw [this]
        exact .box (by simp [LaidD.swap, swapPl]) (all_one_ints _)
    · rw [midPl_zero]
      exact subq
end Go.Proofs.Ytfaphhcloanhnaa
