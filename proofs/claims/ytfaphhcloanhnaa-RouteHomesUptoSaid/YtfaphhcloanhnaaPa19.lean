/- Parts of the proof, joined by program: AmDraw, AmDraw2. -/
import Derived.Test.YtfaphhcloanhnaaPa18
set_option linter.unusedSimpArgs false
set_option linter.unusedVariables false
namespace Go.Am

theorem restrict_get {α : Type} (h : Tr α) (x : Nat) : ∀ l : List Nat, (restrict h l).get x = if x ∈ l then h.get x else none
  | [] => by simp [restrict, Tr.get_nil]
  | id :: r => by
    rw [restrict, Tr.get_set, restrict_get h x r]
    by_cases e : x = id
    · subst e; simp
    · simp [e]
theorem mergeIds_get (h sub : Tr Box) (x : Nat) : ∀ l : List Nat, (mergeIds h sub l).get x = if x ∈ l then sub.get x else h.get x
  | [] => by simp [mergeIds]
  | id :: r => by
    rw [mergeIds, Tr.get_set, mergeIds_get h sub x r]
    by_cases e : x = id
    · subst e; simp
    · simp [e]
theorem mergeNew_get (h sub : Tr Box) (lo x : Nat) : ∀ n : Nat, (mergeNew h sub lo n).get x = if lo ≤ x ∧ x < lo + n then sub.get x else h.get x
  | 0 => by simp [mergeNew]; intros; omega
  | n + 1 => by
    rw [mergeNew, Tr.get_set, mergeNew_get h sub lo x n]
    by_cases e : x = lo + n
    · subst e; simp
    · rw [if_neg e]
      by_cases k : lo ≤ x ∧ x < lo + n
      · rw [if_pos k, if_pos ⟨k.1, by omega⟩]
      · rw [if_neg k, if_neg (by omega)]

/-! ### What a point of the state is behind some of the operations -/
def Eff.hit (t : Nat) (e : Eff) : Bool := e.dst == some t
def Eff.cov (id : Nat) (e : Eff) : Bool := e.all || (decide (e.lo ≤ id) && decide (id < e.hi)) || (e.wr && e.ids.contains id)

def lastV {β : Type} (hit : Eff → Bool) (val : Eff → β) : (Nat → Bool) → List Eff → β → β
  | _, [], b => b
  | D, e :: r, b => lastV hit val (fun j => D (j + 1)) r (if D 0 && hit e then val e else b)

section
variable {β : Type} {hit : Eff → Bool} {val : Eff → β}
theorem lastV_congr : ∀ (es : List Eff) (D D' : Nat → Bool) (b : β), (∀ (j : Nat) e, es[j]? = some e → hit e = true → D j = D' j) → lastV hit val D es b = lastV hit val D' es b
  | [], D, D', b, h => rfl
  | e :: r, D, D', b, h => by
    unfold lastV
    have h0 : (D 0 && hit e) = (D' 0 && hit e) := by
      cases hh : hit e with
      | false => simp
      | true => rw [h 0 e rfl hh]
    rw [h0]
    exact lastV_congr r _ _ _ fun j x hx hh => h (j + 1) x (by simpa using hx) hh
theorem lastV_none : ∀ (es : List Eff) (D : Nat → Bool) (b : β), (∀ (j : Nat) e, es[j]? = some e → D j = true → hit e = false) → lastV hit val D es b = b
  | [], D, b, h => rfl
  | e :: r, D, b, h => by
    unfold lastV
    have h0 : (D 0 && hit e) = false := by
      cases hh : D 0 with
      | false => simp
      | true => rw [h 0 e rfl hh]; rfl
    rw [h0, if_neg (by simp)]
    exact lastV_none r _ _ fun j x hx hh => h (j + 1) x (by simpa using hx) hh
theorem lastV_at : ∀ (es : List Eff) (D : Nat → Bool) (b : β) (i : Nat) (e : Eff), es[i]? = some e → D i = true → hit e = true →
    (∀ (j : Nat) x, i < j → es[j]? = some x → D j = true → hit x = false) → lastV hit val D es b = val e
  | [], D, b, i, e, hi, _, _, _ => by simp at hi
  | x :: r, D, b, 0, e, hi, hD, hh, h => by
    simp at hi
    subst hi
    unfold lastV
    rw [hD, hh, if_pos (by rfl)]
    exact lastV_none r _ _ fun j y hy hd => h (j + 1) y (by omega) (by simpa using hy) hd
  | x :: r, D, b, i + 1, e, hi, hD, hh, h => by
    unfold lastV
    exact lastV_at r _ _ i e (by simpa using hi) hD hh fun j y hj hy hd => h (j + 1) y (by omega) (by simpa using hy) hd
end

def insD (D : Nat → Bool) (i : Nat) : Nat → Bool := fun j => D j || j == i

/-! ### The steps, asq they were taken in the text's order -/
def slotD (es : List Eff) (s : St) (D : Nat → Bool) (t : Nat) : Option AVal := lastV (Eff.hit t) (fun e => some e.v) D es (s.slots.get t)
def heapD (es : List Eff) (s : St) (D : Nat → Bool) (id : Nat) : Option Box := lastV (Eff.cov id) (fun e => e.sub.get id) D es (s.mem.heap.get id)

theorem app_slot (e : Eff) (s : St) (t : Nat) : (e.app s).slots.get t = if Eff.hit t e then some e.v else s.slots.get t := by
  unfold Eff.app Eff.hit
  simp only
  cases h : e.dst with
  | none => simp [setDst]
  | some d =>
    simp only [setDst, Tr.get_set]
    by_cases k : t = d
    · subst k; simp
    · rw [if_neg k, if_neg (by simpa using fun h => k h.symm)]
theorem app_heap (e : Eff) (s : St) (id : Nat) (ha : e.all = false) (hle : e.lo ≤ e.hi) : (e.app s).mem.heap.get id = if Eff.cov id e then e.sub.get id else s.mem.heap.get id := by
  unfold Eff.app Eff.cov
  simp only [mergeNew_get, ha, Bool.false_or]
  have : e.lo + (e.hi - e.lo) = e.hi := by omega
  rw [this]
  by_cases k : e.lo ≤ id ∧ id < e.hi
  · rw [if_pos k, if_pos (by simp [k])]
  · rw [if_neg k]
    have k' : (decide (e.lo ≤ id) && decide (id < e.hi)) = false := by
      rw [← Bool.not_eq_true, Bool.and_eq_true, decide_eq_true_iff, decide_eq_true_iff]; exact k
    rw [k']
    simp only [Bool.false_or]
    cases hw : e.wr with
    | false => simp
    | true =>
      simp only [if_true, Bool.true_and, mergeIds_get]
      by_cases c : id ∈ e.ids
      · rw [if_pos c, if_pos (by simpa using c)]
      · rw [if_neg c, if_neg (by simpa using c)]

theorem effO_spec {cf : CallF} {o : AO} {s : St} {e : Eff} (h : effO cf o s = some e) :
    e.lo = s.mem.next ∧ e.dst = o.dst ∧ e.reads = slotsOf o ∧ e.after = o.after ∧ (∀ id ∈ e.ids, id < s.mem.next) ∧ (e.see = false ∧ e.all = false) ∧
    ((wantedA (restrict s.slots (slotsOf o)) o.guard = some true ∧ ∃ m, stepVal cf (restrict s.slots (slotsOf o)) ⟨restrict s.mem.heap e.ids, s.mem.next, s.mem.next⟩ o.op = some (e.v, m) ∧
        e.wr = decide (m.low < s.mem.next) ∧ e.hi = m.next ∧ e.low = m.low ∧ e.sub = m.heap) ∨
     (wantedA (restrict s.slots (slotsOf o)) o.guard = some false ∧ e.v = .tup [] ∧ e.ids = [] ∧ e.wr = false ∧ e.hi = e.lo ∧ e.low = s.mem.next ∧ e.sub = .nil)) := by
  unfold effO at h
  simp only at h
  split at h
  · rename_i hw
    split at h
    · rename_i ids hids
      split at h
      · rename_i hall
        split at h
        · rename_i v m hv
          simp only [Option.some.injEq] at h
          subst h
          refine ⟨rfl, rfl, rfl, rfl, fun id hid => ?_, ⟨rfl, rfl⟩, .inl ⟨hw, m, hv, rfl, rfl, rfl, rfl⟩⟩
          have := List.all_eq_true.1 hall id hid
          simpa using this
        · simp at h
      · simp at h
    · simp at h
  · rename_i hw
    simp only [Option.some.injEq] at h
    subst h
    exact ⟨rfl, rfl, rfl, rfl, fun id hid => by simp at hid, ⟨rfl, rfl⟩, .inr ⟨hw, rfl, rfl, rfl, rfl, rfl, rfl⟩⟩
  · simp at h

section
variable {P : Program} {cf : CallF}

theorem effO_grow (hcf : CfOk P cf) {o : AO} {s : St} {e : Eff} (h : effO cf o s = some e) : e.lo ≤ e.hi ∧ Grow s.mem (e.app s).mem := by
  obtain ⟨h1, h2, h3, h4, h5, ⟨_, hall⟩, h6⟩ := effO_spec h
  rcases h6 with ⟨hw, m, hv, g1, g2, g3, g4⟩ | ⟨hw, g0, g1, g2, g3, g4, g5⟩
  · have hg := stepVal_grow hcf hv
    have hle : e.lo ≤ e.hi := by rw [h1, g2]; exact hg.next
    refine ⟨hle, ?_, ?_, fun id hid => ?_⟩
    · show s.mem.next ≤ e.hi
      rw [← h1]; exact hle
    · show min s.mem.low e.low ≤ s.mem.low
      omega
    · rw [app_heap _ _ _ hall hle]
      by_cases c : Eff.cov id e = true
      · rw [if_pos c]
        unfold Eff.cov at c
        rw [h1, hall] at c
        have : (decide (s.mem.next ≤ id)) = false := by simp; exact hid
        rw [this] at c
        simp only [Bool.false_and, Bool.false_or, Bool.and_eq_true] at c
        have hmem : id ∈ e.ids := by simpa using c.2
        rcases hg.same id hid with k | k
        · left
          show min s.mem.low e.low ≤ id
          rw [g3]
          omega
        · right
          rw [g4, k]
          simp [restrict_get, hmem]
      · rw [if_neg c]
        exact .inr rfl
  · have hle : e.lo ≤ e.hi := by omega
    refine ⟨hle, ?_, ?_, fun id hid => ?_⟩
    · show s.mem.next ≤ e.hi
      omega
    · show min s.mem.low e.low ≤ s.mem.low
      omega
    · rw [app_heap _ _ _ hall hle]
      right
      rw [if_neg]
      unfold Eff.cov
      rw [g1, g2, hall]
      simp
      intro; omega

theorem drawOs_spec (hcf : CfOk P cf) : ∀ (l : List AO) (s s' : St) (es : List Eff), drawOs cf l s = some (s', es) →
    es.length = l.length ∧ Grow s.mem s'.mem ∧
    (∀ t, s'.slots.get t = slotD es s (fun _ => true) t) ∧ (∀ id, s'.mem.heap.get id = heapD es s (fun _ => true) id) ∧
    (∀ (i : Nat) e o, es[i]? = some e → l[i]? = some o → ∃ si : St, effO cf o si = some e ∧ s.mem.next ≤ si.mem.next ∧ e.hi ≤ s'.mem.next ∧
      (∀ t, si.slots.get t = slotD es s (fun j => decide (j < i)) t) ∧ (∀ id, si.mem.heap.get id = heapD es s (fun j => decide (j < i)) id)) ∧
    (∀ (i : Nat) e, es[i]? = some e → s.mem.next ≤ e.lo ∧ e.lo ≤ e.hi ∧ ∀ (j : Nat) e', i < j → es[j]? = some e' → e.hi ≤ e'.lo)
  | [], s, s', es, h => by
    simp only [drawOs, Option.some.injEq, Prod.mk.injEq] at h
    obtain ⟨rfl, rfl⟩ := h
    exact ⟨rfl, Grow.refl _, fun t => rfl, fun id => rfl, fun i e o hi => by simp at hi, fun i e hi => by simp at hi⟩
  | o :: l, s, s', es, h => by
    unfold drawOs at h
    split at h
    · rename_i e he
      split at h
      · rename_i s1 es' hr
        simp only [Option.some.injEq, Prod.mk.injEq] at h
        obtain ⟨rfl, rfl⟩ := h
        obtain ⟨hle, hg⟩ := effO_grow hcf he
        obtain ⟨h1, h2, h3, h4, h5, h6⟩ := drawOs_spec hcf l _ _ _ hr
        obtain ⟨e1, _, _, _, _, ⟨_, hall⟩, _⟩ := effO_spec he
        have hn : (e.app s).mem.next = e.hi := rfl
        have hslot : ∀ (D : Nat → Bool) t, D 0 = true → slotD es' (e.app s) (fun j => D (j + 1)) t = slotD (e :: es') s D t := by
          intro D t h0
          unfold slotD
          rw [app_slot]
          conv => rhs; unfold lastV
          rw [h0, Bool.true_and]
        have hheap : ∀ (D : Nat → Bool) id, D 0 = true → heapD es' (e.app s) (fun j => D (j + 1)) id = heapD (e :: es') s D id := by
          intro D t h0
          unfold heapD
          rw [app_heap _ _ _ hall hle]
          conv => rhs; unfold lastV
          rw [h0, Bool.true_and]
        refine ⟨by simp [h1], hg.trans h2, fun t => (h3 t).trans (hslot (fun _ => true) t rfl), fun id => (h4 id).trans (hheap (fun _ => true) id rfl), fun i x ox hi hl => ?_, fun i x hi => ?_⟩
        · cases i with
          | zero =>
            simp at hi hl
            subst hi hl
            refine ⟨s, he, Nat.le_refl _, hn ▸ h2.next, fun t => ?_, fun id => ?_⟩
            · exact (lastV_none _ _ _ fun j y hy hd => by simp at hd).symm
            · exact (lastV_none _ _ _ fun j y hy hd => by simp at hd).symm
          | succ i =>
            obtain ⟨si, k1, k2, k3, k4, k5⟩ := h5 i x ox (by simpa using hi) (by simpa using hl)
            refine ⟨si, k1, ?_, k3, fun t => ?_, fun id => ?_⟩
            · rw [hn] at k2; omega
            · rw [k4, ← hslot _ t (by simp)]; congr 1; funext j; simp
            · rw [k5, ← hheap _ id (by simp)]; congr 1; funext j; simp
        · cases i with
          | zero =>
            simp at hi
            subst hi
            refine ⟨by omega, hle, fun j y hj hy => ?_⟩
            cases j with
            | zero => omega
            | succ j => exact hn ▸ (h6 j y (by simpa using hy)).1
          | succ i =>
            obtain ⟨k1, k2, k3⟩ := h6 i x (by simpa using hi)
            refine ⟨by rw [hn] at k1; omega, k2, fun j y hj hy => ?_⟩
            cases j with
            | zero => omega
            | succ j => exact k3 j y (by omega) (by simpa using hy)
      · simp at h
    · simp at h

theorem apartFrom_spec {e : Eff} : ∀ {l : List (Nat × Eff)}, apartFrom e l = true → ∀ p ∈ l, e.after.testBit p.1 = true ∨ meets p.2 e = false
  | [], _, p, hp => by simp at hp
  | (i, a) :: r, h, p, hp => by
    unfold apartFrom at h
    simp only [Bool.and_eq_true, Bool.or_eq_true, Bool.not_eq_true'] at h
    simp at hp
    rcases hp with rfl | hp
    · exact h.1
    · exact apartFrom_spec h.2 p hp
theorem allApart_spec : ∀ (es : List Eff) (j : Nat) (done : List (Nat × Eff)), allApart j done es = true →
    (∀ p ∈ done, ∀ (k : Nat) e, es[k]? = some e → e.after.testBit p.1 = true ∨ meets p.2 e = false) ∧
    (∀ (i k : Nat) a b, i < k → es[i]? = some a → es[k]? = some b → b.after.testBit (j + i) = true ∨ meets a b = false)
  | [], j, done, h => ⟨fun p hp k e he => by simp at he, fun i k a b _ ha => by simp at ha⟩
  | e :: r, j, done, h => by
    unfold allApart at h
    simp only [Bool.and_eq_true] at h
    obtain ⟨k1, k2⟩ := allApart_spec r (j + 1) ((j, e) :: done) h.2
    refine ⟨fun p hp k x hx => ?_, fun i k a b hik ha hb => ?_⟩
    · cases k with
      | zero =>
        simp at hx
        subst hx
        exact apartFrom_spec h.1 p hp
      | succ k => exact k1 p (by simp [hp]) k x (by simpa using hx)
    · cases k with
      | zero => omega
      | succ k =>
        cases i with
        | zero =>
          simp at ha
          subst ha
          exact k1 (j, e) (by simp) k b (by simpa using hb)
        | succ i =>
          have := k2 i k a b (by omega) (by simpa using ha) (by simpa using hb)
          have e' : j + 1 + i = j + (i + 1) := by omega
          rw [e'] at this
          exact this

theorem meets_false {a b : Eff} (h : meets a b = false) :
    (∀ d, a.dst = some d → d ∉ b.reads ∧ b.dst ≠ some d) ∧ (∀ d, b.dst = some d → d ∉ a.reads) ∧
    ((a.wr = true ∨ b.wr = true) → ∀ id, id ∈ a.ids → id ∉ b.ids) ∧ (∀ id ∈ b.ids, ¬ (a.lo ≤ id ∧ id < a.hi)) := by
  unfold meets at h
  simp only [Bool.or_eq_false_iff] at h
  obtain ⟨⟨⟨h1, h2⟩, h3⟩, h4⟩ := h
  refine ⟨fun d hd => ?_, fun d hd => ?_, fun hw id ha hb => ?_, fun id hb hr => ?_⟩
  · rw [hd] at h1
    simp only [Bool.or_eq_false_iff] at h1
    exact ⟨by simpa using h1.1, by simpa using h1.2⟩
  · rw [hd] at h2
    simpa using h2
  · have hw' : (a.wr || b.wr) = true := by simpa using hw
    rw [hw', Bool.true_and] at h3
    rw [List.any_eq_false] at h3
    exact h3 id ha (by simpa using hb)
  · rw [List.any_eq_false] at h4
    exact h4 id hb (by simpa using hr)
end
end Go.Am
namespace Go.Am

section
variable {P : Program} {cf : CallF} {ι ι' : Inj} {S S' : Nat → Prop} {w w' : World}

/-- A step on some of the boxes is one on all. -/
theorem frame_merge {HD H' : Nat → Option Box} {v : AVal} {u : Value} {mR m : Mem} {ids : List Nat} (hm : MRel ι S HD w) (hp : Post ι S mR w v m u ι' S' w')
    (hR : ∀ id, mR.heap.get id = if id ∈ ids then HD id else none) (hids : ∀ id ∈ ids, id < mR.next) (hlow : mR.low = mR.next)
    (hH : ∀ id, H' id = if (mR.next ≤ id ∧ id < m.next) ∨ (m.low < mR.next ∧ id ∈ ids) then m.heap.get id else HD id) :
    MRel ι' S' H' w' ∧ WStep (Own ι HD) w w' ∧ (∀ b, b < w.heap.size → Own ι' H' b → Own ι HD b) := by
  have hown : ∀ b, Own ι mR.heap.get b → Own ι HD b := by
    rintro b ⟨id, bx, o, h1, h2⟩
    rw [hR] at h1
    split at h1
    · exact ⟨id, bx, o, h1, h2⟩
    · simp at h1
  have hcase : ∀ id bx, H' id = some bx → (m.heap.get id = some bx ∧ (id ∈ ids ∨ mR.next ≤ id)) ∨ (HD id = some bx ∧ id ∉ ids) := by
    intro id bx h
    rw [hH] at h
    split at h
    · rename_i hc
      exact .inl ⟨h, hc.elim (fun k => .inr k.1) (fun k => .inl k.2)⟩
    · rename_i hc
      by_cases hi : id ∈ ids
      · left
        have hlt := hids id hi
        have hnl : ¬ m.low < mR.next := fun k => hc (.inr ⟨k, hi⟩)
        rcases hp.grow.same id hlt with k | k
        · omega
        · refine ⟨?_, .inl hi⟩
          rw [k, hR, if_pos hi]
          exact h
      · exact .inr ⟨h, hi⟩
  -- a box that the step did not see
  have hframe : ∀ id bx, HD id = some bx → id ∉ ids → ∃ b o, ι id = some (b, o) ∧ ι' id = some (b, o) ∧ ¬ S b ∧ BoxAt ι S w b o bx ∧ b < w.heap.size ∧ ¬ Own ι mR.heap.get b := by
    intro id bx h hi
    obtain ⟨b, o, h1, h2, h3⟩ := hm.box id bx h
    refine ⟨b, o, h1, hp.inj _ _ h1, h2, h3, h3.lt, ?_⟩
    rintro ⟨id2, bx2, o2, k1, k2⟩
    rw [hR] at k1
    split at k1
    · rename_i hi2
      exact hm.apart id2 id bx2 bx b o2 b o k1 h (fun e => hi (e ▸ hi2)) k2 h1 rfl
    · simp at k1
  have hstep : WStep (Own ι HD) w w' := hp.step.mono fun b hb e => hown b e
  refine ⟨⟨fun id bx h => ?_, fun i j bi bj b o b' o' hi hj hne e1 e2 => ?_, hp.mem.prot⟩, hstep, fun b hb ho => ?_⟩
  · rcases hcase id bx h with ⟨h1, _⟩ | ⟨h1, h2⟩
    · exact hp.mem.box id bx h1
    · obtain ⟨b, o, k1, k2, k3, k4, k5, k6⟩ := hframe id bx h1 h2
      refine ⟨b, o, k2, fun hs => ?_, k4.mono hp.inj hp.prot (fun b hb => hstep.keep b (hm.prot b hb) (hm.notS hb)) hp.step.shape (hp.step.keep b k5 k6)⟩
      rcases hp.fresh b hs with e | e
      · exact k3 e
      · omega
  · have cross : ∀ {i j bi bj b o b' o'}, m.heap.get i = some bi → HD j = some bj → j ∉ ids → ι' i = some (b, o) → ι' j = some (b', o') → b ≠ b' := by
      intro i j bi bj b o b' o' h1 h2 h3 h4 h5 he
      obtain ⟨b2, o2, k1, k2, k3, k4, k5, k6⟩ := hframe j bj h2 h3
      rw [h5] at k2
      cases k2
      subst he
      exact k6 (hp.own _ k5 ⟨i, bi, o, h1, h4⟩)
    rcases hcase i bi hi with ⟨h1, _⟩ | ⟨h1, h2⟩
    · rcases hcase j bj hj with ⟨g1, _⟩ | ⟨g1, g2⟩
      · exact hp.mem.apart i j bi bj b o b' o' h1 g1 hne e1 e2
      · exact cross h1 g1 g2 e1 e2
    · rcases hcase j bj hj with ⟨g1, _⟩ | ⟨g1, g2⟩
      · exact fun e => cross g1 h1 h2 e2 e1 e.symm
      · obtain ⟨b2, o2, k1, k2, _⟩ := hframe i bi h1 h2
        obtain ⟨b3, o3, q1, q2, _⟩ := hframe j bj g1 g2
        rw [e1] at k2; cases k2
        rw [e2] at q2; cases q2
        exact hm.apart i j bi bj _ _ _ _ h1 g1 hne k1 q1
  · obtain ⟨id, bx, o, h1, h2⟩ := ho
    rcases hcase id bx h1 with ⟨g1, _⟩ | ⟨g1, g2⟩
    · exact hown b (hp.own b hb ⟨id, bx, o, g1, h2⟩)
    · obtain ⟨b2, o2, k1, k2, _⟩ := hframe id bx g1 g2
      rw [h2] at k2
      cases k2
      exact ⟨id, bx, o, g1, k1⟩

/-- In the midst of such a region: 'D' have been done. -/
structure Mid (es : List Eff) (s : St) (nt : Nat) (ι0 : Inj) (S0 : Nat → Prop) (w0 : World) (D : Nat → Bool) (ι : Inj) (S : Nat → Prop) (w : World) (a : Act) : Prop where
  slots : SRel ι S w (slotD es s D) a.tmps
  mem : MRel ι S (heapD es s D) w
  size : nt ≤ a.tmps.size
  defers : a.defers = []
  inj : InjLe ι0 ι
  news : ∀ id, ι id ≠ none → ι0 id ≠ none ∨ ∃ (j : Nat) (e : Eff), D j = true ∧ es[j]? = some e ∧ e.lo ≤ id ∧ id < e.hi
  prot : ∀ b, S0 b → S b
  fresh : ∀ b, S b → S0 b ∨ w0.heap.size ≤ b
  step : WStep (Own ι0 s.mem.heap.get) w0 w
  own : ∀ b, b < w0.heap.size → Own ι (heapD es s D) b → Own ι0 s.mem.heap.get b

/-- What an operation did, told of the slots and boxes ahead of it. -/
structure Did (cf : CallF) (o : AO) (e : Eff) (σ : Nat → Option AVal) (η : Nat → Option Box) : Prop where
  dst : e.dst = o.dst
  after : e.after = o.after
  ids : ∀ id ∈ e.ids, id < e.lo
  run : ∃ t : Tr AVal, (∀ x a, t.get x = some a → x ∈ e.reads ∧ σ x = some a) ∧
    ((wantedA t o.guard = some true ∧ ∃ mR m, stepVal cf t mR o.op = some (e.v, m) ∧ mR.next = e.lo ∧ m.next = e.hi ∧
       ((e.see = false ∧ e.all = false ∧ mR.low = mR.next ∧ e.wr = decide (m.low < mR.next) ∧ e.sub = m.heap ∧ ∀ id, mR.heap.get id = if id ∈ e.ids then η id else none) ∨
        (e.see = true ∧ (∀ id, mR.heap.get id = η id) ∧ ((e.all = true ∧ e.sub = m.heap) ∨ (e.all = false ∧ m.heap = mR.heap ∧ e.hi = e.lo ∧ e.wr = false))))) ∨
     (wantedA t o.guard = some false ∧ e.v = .tup [] ∧ e.all = false ∧ e.wr = false ∧ e.hi = e.lo))

/-- Two that are not ordered, the second at place k: 'a' may have made a box that 'b' is told of by a slot (then b comes behind it, whatever the order). -/
def ApartP (es : List Eff) (s : St) (k : Nat) (a b : Eff) : Prop :=
  (∀ d, a.dst = some d → d ∉ b.reads ∧ b.dst ≠ some d) ∧ (∀ d, b.dst = some d → d ∉ a.reads) ∧
  (∀ id, (b.see = true ∨ id ∈ b.ids) → Eff.cov id a = true → a.lo ≤ id ∧ id < a.hi ∧ ∃ x v, x ∈ b.reads ∧ slotD es s (fun j => decide (j < k)) x = some v ∧ id ∈ v.id?) ∧
  (∀ id, (a.see = true ∨ id ∈ a.ids) → Eff.cov id b = false) ∧ (∀ id, Eff.cov id a = true → Eff.cov id b = false)

/-- What was done in the text's order, told of all its steps. -/
structure Laid (cf : CallF) (l : List AO) (s s' : St) (es : List Eff) : Prop where
  len : es.length = l.length
  grow : Grow s.mem s'.mem
  slots : ∀ t, s'.slots.get t = slotD es s (fun _ => true) t
  heap : ∀ id, s'.mem.heap.get id = heapD es s (fun _ => true) id
  at_ : ∀ (i : Nat) e o, es[i]? = some e → l[i]? = some o → Did cf o e (slotD es s fun j => decide (j < i)) (heapD es s fun j => decide (j < i))
  rows : ∀ (i : Nat) e, es[i]? = some e → s.mem.next ≤ e.lo ∧ e.lo ≤ e.hi ∧ e.hi ≤ s'.mem.next ∧ ∀ (j : Nat) e', i < j → es[j]? = some e' → e.hi ≤ e'.lo
  apart : ∀ (i k : Nat) a b, i < k → es[i]? = some a → es[k]? = some b → b.after.testBit i = true ∨ ApartP es s k a b

theorem laid_of (hcf : CfOk P cf) {l : List AO} {s s' : St} (h : drawn cf l s = some s') : ∃ es, Laid cf l s s' es := by
  unfold drawn at h
  split at h
  · rename_i s1 es he
    split at h
    · rename_i ha
      simp only [Option.some.injEq] at h
      subst h
      obtain ⟨h1, h2, h3, h4, h5, h6⟩ := drawOs_spec hcf l _ _ _ he
      have hat : ∀ (i : Nat) e, es[i]? = some e → ∃ o, l[i]? = some o := fun i e hi => by
        have : i < l.length := by have := (List.getElem?_eq_some_iff.1 hi).1; omega
        exact ⟨l[i], by simp [this]⟩
      refine ⟨es, h1, h2, h3, h4, fun i e o hi hl => ?_, fun i e hi => ?_, fun i k a b hik ha' hb => ?_⟩
      · obtain ⟨si, he, hn1, hn2, hsl, hhp⟩ := h5 i e o hi hl
        obtain ⟨e1, e2, e3, e4, e5, ⟨e7, e8⟩, e6⟩ := effO_spec he
        refine ⟨e2, e4, fun id h => e1 ▸ e5 id h, restrict si.slots (slotsOf o), fun x a hx => ?_, ?_⟩
        · rw [restrict_get] at hx
          split at hx
          · rename_i hm
            exact ⟨e3 ▸ hm, (hsl x).symm.trans hx⟩
          · simp at hx
        · rcases e6 with ⟨hw, m, hv, g1, g2, g3, g4⟩ | ⟨hw, g0, g1, g2, g3, g4, g5⟩
          · refine .inl ⟨hw, _, m, hv, e1.symm, g2.symm, .inl ⟨e7, e8, rfl, g1, g4, fun id => ?_⟩⟩
            rw [restrict_get]
            by_cases h : id ∈ e.ids
            · rw [if_pos h, if_pos h, hhp]
            · rw [if_neg h, if_neg h]
          · exact .inr ⟨hw, g0, e8, g2, g3⟩
      · obtain ⟨o, ho⟩ := hat i e hi
        obtain ⟨si, he, hn1, hn2, _⟩ := h5 i e o hi ho
        obtain ⟨k1, k2, k3⟩ := h6 i e hi
        exact ⟨k1, k2, hn2, k3⟩
      · have := (allApart_spec es 0 [] ha).2 i k a b hik ha' hb
        simp only [Nat.zero_add] at this
        refine this.imp id fun hm => ?_
        obtain ⟨m1, m2, m3, m4⟩ := meets_false hm
        obtain ⟨oa, hoa⟩ := hat i a ha'
        obtain ⟨ob, hob⟩ := hat k b hb
        obtain ⟨sa, hea, _⟩ := h5 i a oa ha' hoa
        obtain ⟨sb, heb, _⟩ := h5 k b ob hb hob
        obtain ⟨a1, _, _, _, a5, ⟨a7, a8⟩, _⟩ := effO_spec hea
        obtain ⟨b1, _, _, _, b5, ⟨b7, b8⟩, _⟩ := effO_spec heb
        obtain ⟨r1, r2, r3⟩ := h6 i a ha'
        have r3 := r3 k b hik hb
        refine ⟨m1, m2, fun id hid hc => ?_, fun id hid => ?_, fun id hid => ?_⟩
        · rcases hid with hid | hid
          · rw [b7] at hid; cases hid
          · exfalso
            simp only [Eff.cov, a8, Bool.false_or, Bool.or_eq_true, Bool.and_eq_true, decide_eq_true_eq, List.contains_iff_mem] at hc
            rcases hc with c | c
            · exact m4 id hid c
            · exact m3 (.inl c.1) id c.2 hid
        · rcases hid with hid | hid
          · rw [a7] at hid; cases hid
          · rw [← Bool.not_eq_true]
            intro hc
            simp only [Eff.cov, b8, Bool.false_or, Bool.or_eq_true, Bool.and_eq_true, decide_eq_true_eq, List.contains_iff_mem] at hc
            rcases hc with c | c
            · have := a5 id hid
              omega
            · exact m3 (.inr c.1) id hid c.2
        · rw [← Bool.not_eq_true]
          intro hc
          simp only [Eff.cov, a8, b8, Bool.false_or, Bool.or_eq_true, Bool.and_eq_true, decide_eq_true_eq, List.contains_iff_mem] at hid hc
          rcases hid with c | c
          · rcases hc with d | d
            · omega
            · exact m4 id d.2 c
          · rcases hc with d | d
            · have := a5 id c.2
              omega
            · exact m3 (.inl c.1) id c.2 d.2
    · simp at h
  · simp at h

/-- Done so far, with all that comes ahead of each. -/
def Closed (es : List Eff) (D : Nat → Bool) : Prop := ∀ (j : Nat) e, es[j]? = some e → D j = true → ∀ k, k < es.length → e.after.testBit k = true → D k = true

section
variable {l : List AO} {s s' : St} {es : List Eff} {D : Nat → Bool} {i : Nat} {e : Eff}

theorem agree_slot (hL : Laid cf l s s' es) (hc : Closed es D) (hi : es[i]? = some e) (hD : D i = false) (hb : ∀ k, k < es.length → e.after.testBit k = true → D k = true)
    {t : Nat} (ht : t ∈ e.reads) : slotD es s D t = slotD es s (fun j => decide (j < i)) t := by
  refine lastV_congr _ _ _ _ fun j x hx hh => ?_
  have hlj : j < es.length := (List.getElem?_eq_some_iff.1 hx).1
  have hli : i < es.length := (List.getElem?_eq_some_iff.1 hi).1
  have hd : x.dst = some t := by simpa [Eff.hit] using hh
  rcases Nat.lt_trichotomy j i with h | h | h
  · rw [decide_eq_true h]
    rcases hL.apart j i x e h hx hi with k | k
    · exact hb j hlj k
    · exact absurd ht (k.1 t hd).1
  · subst h
    simp [hD]
  · rw [decide_eq_false (by omega)]
    rcases hL.apart i j e x h hi hx with k | k
    · rw [← Bool.not_eq_true]
      intro hDj
      have := hc j x hx hDj i hli k
      rw [hD] at this
      cases this
    · exact absurd ht (k.2.1 t hd)

theorem rep_id {x : AVal} {v : Value} {id : Nat} (h : Rep ι S w x v) (hi : id ∈ x.id?) : ι id ≠ none := by
  cases h with
  | ptr h => simp [AVal.id?] at hi; subst hi; rw [h]; simp
  | sl h _ _ _ _ => simp [AVal.id?] at hi; subst hi; rw [h]; simp
  | mp h => simp [AVal.id?] at hi; subst hi; rw [h]; simp
  | _ => simp [AVal.id?] at hi

theorem agree_heap {nt : Nat} {ι0 : Inj} {S0 : Nat → Prop} {w0 : World} {a : Act} (hL : Laid cf l s s' es) (hf : ∀ id, s.mem.next ≤ id → id < s'.mem.next → ι0 id = none) (hM : Mid es s nt ι0 S0 w0 D ι S w a) (hc : Closed es D) (hi : es[i]? = some e) (hD : D i = false) (hb : ∀ k, k < es.length → e.after.testBit k = true → D k = true)
    {id : Nat} (ht : e.see = true ∨ id ∈ e.ids) : heapD es s D id = heapD es s (fun j => decide (j < i)) id := by
  refine lastV_congr _ _ _ _ fun j x hx hh => ?_
  have hlj : j < es.length := (List.getElem?_eq_some_iff.1 hx).1
  have hli : i < es.length := (List.getElem?_eq_some_iff.1 hi).1
  rcases Nat.lt_trichotomy j i with h | h | h
  · rw [decide_eq_true h]
    rcases hL.apart j i x e h hx hi with k | k
    · exact hb j hlj k
    · obtain ⟨k1, k2, t, v, k3, k4, k5⟩ := k.2.2.1 id ht hh
      rw [← agree_slot hL hc hi hD hb k3] at k4
      obtain ⟨u, q1, q2⟩ := hM.slots t v k4
      obtain ⟨r1, r2, r4, r3⟩ := hL.rows j x hx
      rcases hM.news id (rep_id q2 k5) with n | ⟨j', x', n1, n2, n3, n4⟩
      · exact absurd (hf id (by omega) (by omega)) n
      · rcases Nat.lt_trichotomy j' j with p | p | p
        · have := (hL.rows j' x' n2).2.2.2 j x p hx
          omega
        · subst p
          exact n1
        · have := r3 j' x' p n2
          omega
  · subst h
    simp [hD]
  · rw [decide_eq_false (by omega)]
    rcases hL.apart i j e x h hi hx with k | k
    · rw [← Bool.not_eq_true]
      intro hDj
      have := hc j x hx hDj i hli k
      rw [hD] at this
      cases this
    · have := k.2.2.2.1 id ht
      rw [hh] at this
      cases this

theorem ins_slot (hL : Laid cf l s s' es) (hc : Closed es D) (hi : es[i]? = some e) (hD : D i = false) (t : Nat) :
    slotD es s (insD D i) t = if Eff.hit t e then some e.v else slotD es s D t := by
  have hli : i < es.length := (List.getElem?_eq_some_iff.1 hi).1
  by_cases hh : Eff.hit t e = true
  · rw [if_pos hh]
    refine lastV_at _ _ _ i e hi (by simp [insD]) hh fun j x hj hx hDj => ?_
    have hDj' : D j = true := by
      simp only [insD, Bool.or_eq_true, beq_iff_eq] at hDj
      rcases hDj with k | k
      · exact k
      · omega
    rcases hL.apart i j e x hj hi hx with k | k
    · have := hc j x hx hDj' i hli k
      rw [hD] at this
      cases this
    · rw [← Bool.not_eq_true]
      intro hx'
      have h1 : e.dst = some t := by simpa [Eff.hit] using hh
      have h2 : x.dst = some t := by simpa [Eff.hit] using hx'
      exact (k.1 t h1).2 h2
  · rw [if_neg hh]
    refine lastV_congr _ _ _ _ fun j x hx hh' => ?_
    simp only [insD]
    by_cases hji : j = i
    · subst hji
      rw [hi] at hx
      cases hx
      exact absurd hh' hh
    · simp [hji]

theorem ins_heap (hL : Laid cf l s s' es) (hc : Closed es D) (hi : es[i]? = some e) (hD : D i = false) (id : Nat) :
    heapD es s (insD D i) id = if Eff.cov id e then e.sub.get id else heapD es s D id := by
  have hli : i < es.length := (List.getElem?_eq_some_iff.1 hi).1
  by_cases hh : Eff.cov id e = true
  · rw [if_pos hh]
    refine lastV_at _ _ _ i e hi (by simp [insD]) hh fun j x hj hx hDj => ?_
    have hDj' : D j = true := by
      simp only [insD, Bool.or_eq_true, beq_iff_eq] at hDj
      rcases hDj with k | k
      · exact k
      · omega
    rcases hL.apart i j e x hj hi hx with k | k
    · have := hc j x hx hDj' i hli k
      rw [hD] at this
      cases this
    · exact k.2.2.2.2 id hh
  · rw [if_neg hh]
    refine lastV_congr _ _ _ _ fun j x hx hh' => ?_
    simp only [insD]
    by_cases hji : j = i
    · subst hji
      rw [hi] at hx
      cases hx
      exact absurd hh' hh
    · simp [hji]

theorem mid_step (hcf : CfOk P cf) {nt : Nat} {ops : Array Oper} {bf : Array Nat} {o : Oper} {ao : AO} {Q : Exit → Act → World → Prop} {ι0 : Inj} {S0 : Nat → Prop} {w0 : World} {a : Act}
    (hL : Laid cf l s s' es) (hf : ∀ id, s.mem.next ≤ id → id < s'.mem.next → ι0 id = none) (hM : Mid es s nt ι0 S0 w0 D ι S w a) (hc : Closed es D)
    (ho : ops[i]? = some o) (hl : l[i]? = some ao) (hco : compAO P nt ops bf i o = some ao) (hi : es[i]? = some e) (hD : D i = false)
    (hb : ∀ k, k < es.length → e.after.testBit k = true → D k = true) {K : Act → World → Prop}
    (hK : ∀ a' w' ι' S', Mid es s nt ι0 S0 w0 (insD D i) ι' S' w' a' → K a' w') : wpOp P ops Q i K a w := by
  obtain ⟨e2, e4, hlt, sl, hsl, e6⟩ := hL.at_ i e ao hi hl
  obtain ⟨c1, c2, c3, c4, c5⟩ := compAO_spec hco
  obtain ⟨r1, r2, hn2, r3⟩ := hL.rows i e hi
  -- the slots that it looks at
  have hs1 : SRel ι S w sl.get a.tmps := by
    intro t x ht
    obtain ⟨q1, q2⟩ := hsl t x ht
    rw [← agree_slot hL hc hi hD hb q1] at q2
    exact hM.slots t x q2
  have hins := ins_slot hL hc hi hD
  have hinh := ins_heap hL hc hi hD
  unfold wpOp
  rw [ho]
  simp only
  rcases e6 with ⟨hw, mR, m, hv, e1, g2, hcase⟩ | ⟨hw, g0, g1, g2, g3⟩
  · rw [wanted_ok (ops := ops) hs1 rfl (c4 ▸ hw), if_pos rfl]
    left
    have hmR : MRel ι S mR.heap.get w := by
      rcases hcase with ⟨k1, k2, k3, k4, k5, k6⟩ | ⟨k1, k2, k3⟩
      · refine hM.mem.less fun id bx h => ?_
        rw [k6] at h
        split at h
        · rename_i hid
          exact (agree_heap hL hf hM hc hi hD hb (.inr hid)).trans h
        · simp at h
      · exact hM.mem.less fun id bx h => (agree_heap hL hf hM hc hi hD hb (.inl k1)).trans ((k2 id).symm.trans h)
    have hfr : ∀ id, mR.next ≤ id → id < m.next → ι id = none := by
      intro id h1 h2
      apply Classical.byContradiction
      intro hne
      rcases hM.news id hne with k | ⟨j, x, k1, k2, k3, k4⟩
      · exact k (hf id (by omega) (by omega))
      · rcases Nat.lt_trichotomy j i with h | h | h
        · have := (hL.rows j x k2).2.2.2 i e h hi
          omega
        · subst h
          rw [hD] at k1
          cases k1
        · have := r3 j x h k2
          omega
    refine step_wp hcf c1 hv hs1 hmR hfr fun u w' ι' S' hp => hK _ _ ι' S' ?_
    obtain ⟨q1, q2, q3⟩ : MRel ι' S' (heapD es s (insD D i)) w' ∧ WStep (Own ι (heapD es s D)) w w' ∧ (∀ b, b < w.heap.size → Own ι' (heapD es s (insD D i)) b → Own ι (heapD es s D) b) := by
      rcases hcase with ⟨k1, k2, k3, k4, k5, k6⟩ | ⟨k1, k2, k3⟩
      · refine frame_merge (H' := heapD es s (insD D i)) (ids := e.ids) hM.mem hp (fun id => ?_) (fun id h => e1 ▸ hlt id h) k3 (fun id => ?_)
        · rw [k6]
          by_cases h : id ∈ e.ids
          · rw [if_pos h, if_pos h, agree_heap hL hf hM hc hi hD hb (.inr h)]
          · rw [if_neg h, if_neg h]
        · rw [hinh id]
          have : (Eff.cov id e = true) ↔ ((mR.next ≤ id ∧ id < m.next) ∨ (m.low < mR.next ∧ id ∈ e.ids)) := by
            unfold Eff.cov
            rw [k2, k4, e1, g2]
            simp
          simp only [this, k5]
      · have hse : ∀ id, mR.heap.get id = heapD es s D id := fun id => (k2 id).trans (agree_heap hL hf hM hc hi hD hb (.inl k1)).symm
        have hH : ∀ id, heapD es s (insD D i) id = m.heap.get id := by
          intro id
          rw [hinh id]
          rcases k3 with ⟨n1, n2⟩ | ⟨n1, n2, n3, n4⟩
          · rw [if_pos (by simp [Eff.cov, n1]), n2]
          · rw [if_neg, n2, hse]
            simp only [Eff.cov, n1, n3, n4]
            simp
        have e1 : mR.heap.get = heapD es s D := funext hse
        have e2 : heapD es s (insD D i) = m.heap.get := funext hH
        rw [e2, ← e1]
        exact ⟨hp.mem, hp.step, hp.own⟩
    have hcomp : WStep (Own ι0 s.mem.heap.get) w0 w' := (hM.step.trans q2).mono fun b hb' k => by
      rcases k with k | k
      · exact k
      · exact hM.own b hb' k.1
    refine ⟨?_, q1, by rw [put_size]; exact hM.size, by rw [put_defers]; exact hM.defers, hM.inj.trans hp.inj, fun id hne => ?_, fun b hb' => hp.prot b (hM.prot b hb'), fun b hb' => ?_, hcomp, fun b hb' k => ?_⟩
    · have hup : SRel ι' S' w' (slotD es s D) a.tmps := fun t x ht => by
        obtain ⟨u', k1, k2⟩ := hM.slots t x ht
        exact ⟨u', k1, k2.up hM.mem hp.inj hp.prot q2 (fun b hb' => hM.mem.notS hb')⟩
      intro t x ht
      rw [hins] at ht
      cases hd : o.dst with
      | none =>
        have : Eff.hit t e = false := by simp [Eff.hit, e2, c2, hd]
        rw [this] at ht
        simp only [Bool.false_eq_true, if_false] at ht
        obtain ⟨u', k1, k2⟩ := hup t x ht
        exact ⟨u', by simpa [Act.put] using k1, k2⟩
      | some d =>
        by_cases htd : d = t
        · subst htd
          have : Eff.hit d e = true := by simp [Eff.hit, e2, c2, hd]
          rw [this] at ht
          simp only [if_true, Option.some.injEq] at ht
          subst ht
          have hsz := Nat.lt_of_lt_of_le (c3 d hd) hM.size
          exact ⟨u, by simp [Act.put, hsz], hp.rep⟩
        · have : Eff.hit t e = false := by simp [Eff.hit, e2, c2, hd, htd]
          rw [this] at ht
          simp only [Bool.false_eq_true, if_false] at ht
          obtain ⟨u', k1, k2⟩ := hup t x ht
          exact ⟨u', by simp only [Act.put]; rw [Array.getElem?_setIfInBounds_ne htd]; exact k1, k2⟩
    · rcases hp.news id hne with k | k
      · rcases hM.news id k with h | ⟨j, x, k1, k2, k3, k4⟩
        · exact .inl h
        · exact .inr ⟨j, x, by simp [insD, k1], k2, k3, k4⟩
      · exact .inr ⟨i, e, by simp [insD], hi, by rw [← e1]; exact k.1, by rw [← g2]; exact k.2⟩
    · rcases hp.fresh b hb' with k | k
      · exact hM.fresh b k
      · exact .inr (Nat.le_trans hM.step.size k)
    · exact hM.own b hb' (q3 b (Nat.lt_of_lt_of_le hb' hM.step.size) k)
  · rw [wanted_ok (ops := ops) hs1 rfl (c4 ▸ hw)]
    simp only [Bool.false_eq_true, if_false]
    refine hK _ _ ι S ?_
    have hsame : ∀ id, heapD es s (insD D i) id = heapD es s D id := by
      intro id
      rw [hinh id, if_neg]
      simp only [Eff.cov, g1, g2, g3]
      simp
      skip
    refine ⟨?_, ?_, by rw [put_size]; exact hM.size, by rw [put_defers]; exact hM.defers, hM.inj, fun id hne => ?_, hM.prot, hM.fresh, hM.step, fun b hb' k => ?_⟩
    · intro t x ht
      rw [hins] at ht
      cases hd : o.dst with
      | none =>
        have : Eff.hit t e = false := by simp [Eff.hit, e2, c2, hd]
        rw [this] at ht
        simp only [Bool.false_eq_true, if_false] at ht
        obtain ⟨u', k1, k2⟩ := hM.slots t x ht
        exact ⟨u', by simpa [Act.put] using k1, k2⟩
      | some d =>
        by_cases htd : d = t
        · subst htd
          have : Eff.hit d e = true := by simp [Eff.hit, e2, c2, hd]
          rw [this] at ht
          simp only [if_true, Option.some.injEq] at ht
          subst ht
          have hsz := Nat.lt_of_lt_of_le (c3 d hd) hM.size
          exact ⟨undef, by simp [Act.put, hsz], by rw [g0]; exact .tup rfl (fun j c v hc => by simp at hc)⟩
        · have : Eff.hit t e = false := by simp [Eff.hit, e2, c2, hd, htd]
          rw [this] at ht
          simp only [Bool.false_eq_true, if_false] at ht
          obtain ⟨u', k1, k2⟩ := hM.slots t x ht
          exact ⟨u', by simp only [Act.put]; rw [Array.getElem?_setIfInBounds_ne htd]; exact k1, k2⟩
    · exact hM.mem.less fun id bx h => (hsame id).symm.trans h
    · rcases hM.news id hne with h | ⟨j, x, k1, k2, k3, k4⟩
      · exact .inl h
      · exact .inr ⟨j, x, by simp [insD, k1], k2, k3, k4⟩
    · obtain ⟨id, bx, o', h1, h2⟩ := k
      exact hM.own b hb' ⟨id, bx, o', (hsame id).symm.trans h1, h2⟩
end
end
end Go.Am
