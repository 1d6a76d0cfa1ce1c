/- Parts of the proof, joined by program: AmRep. -/
import Derived.Test.YtmflheoafeenfaaGreatPa1
import Derived.Calls
set_option linter.unusedSimpArgs false
set_option linter.unusedVariables false
namespace Go.Am

/-- Where boxes lie: block, first cell. -/
abbrev Inj := Nat → Option (Nat × Nat)

inductive Rep (ι : Inj) (S : Nat → Prop) (w : World) : AVal → Value → Prop
  | sc {v a : Value} (h : scal v = some a) : Rep ι S w (.sc a) v
  | ptr {id off b o : Nat} (h : ι id = some (b, o)) : Rep ι S w (.ptr id off) (.pointer (some ⟨b, o + off, none⟩))
  | ro {cells : List AVal} {a : Addr} (vs : Nat → Value) (hs : 0 < cells.length → a.spot = none ∧ S a.block)
      (hc : ∀ j, j < cells.length → w.cell? ⟨a.block, a.off + j, none⟩ = some (vs j))
      (hr : ∀ (j : Nat) c, cells[j]? = some c → Rep ι S w c (vs j)) (ho : ∀ c ∈ cells, c.one = true) : Rep ι S w (.ro cells) (.pointer (some a))
  | sl {id off len esz : Nat} {cap : Option Nat} {b o c : Nat} {a : Addr} (h : ι id = some (b, o)) (hl : len ≤ c) (hk : ∀ k, cap = some k → c = k)
      (ha : c ≠ 0 → a = ⟨b, o + off, none⟩)
      (hroom : c ≠ 0 ∨ cap = none → ∃ cs el, w.heap[b]? = some (.cells cs el (0, 0)) ∧ o + off + c * esz ≤ cs.size ∧ (cap = none → o + off + c * esz = cs.size)) : Rep ι S w (.sl id off len esz cap) (.slice (some a) len c)
  | rs {cells : List AVal} {len : Nat} {cap : Option Nat} {a : Addr} {c : Nat} (vs : Nat → Value) (hl : len ≤ c) (hk : ∀ k, cap = some k → c = k)
      (hs : 0 < cells.length → a.spot = none ∧ S a.block)
      (hc : ∀ j, j < cells.length → w.cell? ⟨a.block, a.off + j, none⟩ = some (vs j))
      (hr : ∀ (j : Nat) c, cells[j]? = some c → Rep ι S w c (vs j)) (ho : ∀ c ∈ cells, c.one = true) : Rep ι S w (.rs cells len cap) (.slice (some a) len c)
  | mp {id b o : Nat} (h : ι id = some (b, o)) : Rep ι S w (.mp id) (.map (some b))
  | fn {f : Fn} {first cap : List AVal} {vf vc : Array Value} (h1 : first.length = vf.size) (h2 : cap.length = vc.size)
      (hf : ∀ (j : Nat) c v, first[j]? = some c → vf[j]? = some v → Rep ι S w c v) (hc : ∀ (j : Nat) c v, cap[j]? = some c → vc[j]? = some v → Rep ι S w c v) : Rep ι S w (.fn f first cap) (.func f vf vc)
  | agg {cells : List AVal} {vs : Array Value} (hl : cells.length = vs.size) (hr : ∀ (j : Nat) c v, cells[j]? = some c → vs[j]? = some v → Rep ι S w c v) : Rep ι S w (.agg cells) (.agg vs)
  | tup {cells : List AVal} {vs : Array Value} (hl : cells.length = vs.size) (hr : ∀ (j : Nat) c v, cells[j]? = some c → vs[j]? = some v → Rep ι S w c v) : Rep ι S w (.tup cells) (.tuple vs)

def RepL (ι : Inj) (S : Nat → Prop) (w : World) (cs : List AVal) (vs : List Value) : Prop :=
  cs.length = vs.length ∧ ∀ (j : Nat) c v, cs[j]? = some c → vs[j]? = some v → Rep ι S w c v

/-! ### What a world keeps -/
def InjLe (ι ι' : Inj) : Prop := ∀ id p, ι id = some p → ι' id = some p
theorem InjLe.refl (ι : Inj) : InjLe ι ι := fun _ _ h => h
theorem InjLe.trans {a b c : Inj} (h : InjLe a b) (k : InjLe b c) : InjLe a c := fun id p hp => k id p (h id p hp)

structure WStep (owned : Nat → Prop) (w w' : World) : Prop where
  os : w'.os = w.os
  tape : w'.tape = w.tape
  output : w'.output = w.output
  size : w.heap.size ≤ w'.heap.size
  keep : ∀ (b : Nat), b < w.heap.size → ¬ owned b → w'.heap[b]? = w.heap[b]?
  shape : ∀ (b : Nat) cs el fr, w.heap[b]? = some (.cells cs el fr) → ∃ cs', w'.heap[b]? = some (.cells cs' el fr) ∧ cs'.size = cs.size

theorem lt_of_heap {w : World} {b : Nat} {o : Obj} (h : w.heap[b]? = some o) : b < w.heap.size := (Array.getElem?_eq_some_iff.1 h).1

theorem WStep.refl (owned : Nat → Prop) (w : World) : WStep owned w w := ⟨rfl, rfl, rfl, Nat.le_refl _, fun _ _ _ => rfl, fun _ cs _ _ h => ⟨cs, h, rfl⟩⟩
theorem WStep.mono {owned owned' : Nat → Prop} {w w' : World} (h : WStep owned w w') (ho : ∀ b, b < w.heap.size → owned b → owned' b) : WStep owned' w w' :=
  ⟨h.os, h.tape, h.output, h.size, fun b hb hn => h.keep b hb (fun k => hn (ho b hb k)), h.shape⟩
theorem WStep.trans {o1 o2 : Nat → Prop} {a b c : World} (h : WStep o1 a b) (k : WStep o2 b c) : WStep (fun x => o1 x ∨ (o2 x ∧ x < a.heap.size)) a c where
  os := k.os.trans h.os
  tape := k.tape.trans h.tape
  output := k.output.trans h.output
  size := Nat.le_trans h.size k.size
  keep := fun x hx hn => (k.keep x (Nat.lt_of_lt_of_le hx h.size) (fun e => hn (.inr ⟨e, hx⟩))).trans (h.keep x hx (fun e => hn (.inl e)))
  shape := fun x cs el fr hx => by
    obtain ⟨cs1, h1, e1⟩ := h.shape x cs el fr hx
    obtain ⟨cs2, h2, e2⟩ := k.shape x cs1 el fr h1
    exact ⟨cs2, h2, e2.trans e1⟩
/-- Orders, capacities and the like have been drawn. -/
theorem WStep.drawn_ (owned : Nat → Prop) (w : World) (n : Nat) : WStep owned w { w with drawn := n } := ⟨rfl, rfl, rfl, Nat.le_refl _, fun _ _ _ => rfl, fun _ cs _ _ h => ⟨cs, h, rfl⟩⟩
theorem cell?_of_heap {w w' : World} {a : Addr} (h : w'.heap[a.block]? = w.heap[a.block]?) : w'.cell? a = w.cell? a := by unfold World.cell?; rw [h]

theorem Rep.mono {ι ι' : Inj} {S S' : Nat → Prop} {w w' : World} {a : AVal} {v : Value} (h : Rep ι S w a v) (hι : InjLe ι ι') (hS : ∀ b, S b → S' b)
    (hk : ∀ (b : Nat), S b → w'.heap[b]? = w.heap[b]?)
    (hsh : ∀ (b : Nat) cs el fr, w.heap[b]? = some (.cells cs el fr) → ∃ cs', w'.heap[b]? = some (.cells cs' el fr) ∧ cs'.size = cs.size) : Rep ι' S' w' a v := by
  induction h with
  | sc h => exact .sc h
  | ptr h => exact .ptr (hι _ _ h)
  | ro vs hs hc hr ho ih => exact .ro vs (fun h => ⟨(hs h).1, hS _ (hs h).2⟩) (fun j hj => (cell?_of_heap (a := ⟨_, _, none⟩) (hk _ (hs (by omega)).2)).trans (hc j hj)) ih ho
  | sl h hl hk' ha hroom =>
    refine .sl (hι _ _ h) hl hk' ha (fun hc => ?_)
    obtain ⟨cs, el, hh, hr, hr2⟩ := hroom hc
    obtain ⟨cs', hh', e⟩ := hsh _ _ _ _ hh
    exact ⟨cs', el, hh', by omega, fun h => by have := hr2 h; omega⟩
  | rs vs hl hk' hs hc hr ho ih => exact .rs vs hl hk' (fun h => ⟨(hs h).1, hS _ (hs h).2⟩) (fun j hj => (cell?_of_heap (a := ⟨_, _, none⟩) (hk _ (hs (by omega)).2)).trans (hc j hj)) ih ho
  | mp h => exact .mp (hι _ _ h)
  | fn h1 h2 hf hc ih1 ih2 => exact .fn h1 h2 ih1 ih2
  | agg hl hr ih => exact .agg hl ih
  | tup hl hr ih => exact .tup hl ih

/-! ### The memory -/
def BoxAt (ι : Inj) (S : Nat → Prop) (w : World) (b o : Nat) : Box → Prop
  | .cells cs => ∃ (vs : Array Value) (el : TypeId), w.heap[b]? = some (.cells vs el (0, 0)) ∧ o + cs.length ≤ vs.size ∧ (∀ (j : Nat) c v, cs[j]? = some c → vs[o + j]? = some v → Rep ι S w c v) ∧ ∀ c ∈ cs, c.one = true
  | .map es clock => ∃ arr : Array MapEntry, w.heap[b]? = some (.map arr clock) ∧ arr.size = es.length ∧
      ∀ (j : Nat) k a n e, es[j]? = some (k, a, n) → arr[j]? = some e → e.born = n ∧ scal e.key = some k ∧ Rep ι S w a e.val

structure MRel (ι : Inj) (S : Nat → Prop) (H : Nat → Option Box) (w : World) : Prop where
  box : ∀ id bx, H id = some bx → ∃ b o, ι id = some (b, o) ∧ ¬ S b ∧ BoxAt ι S w b o bx
  apart : ∀ i j bi bj b o b' o', H i = some bi → H j = some bj → i ≠ j → ι i = some (b, o) → ι j = some (b', o') → b ≠ b'
  prot : ∀ b, S b → b < w.heap.size

/-- The blocks of the boxes. -/
def Own (ι : Inj) (H : Nat → Option Box) (b : Nat) : Prop := ∃ id bx o, H id = some bx ∧ ι id = some (b, o)

theorem MRel.notS {ι : Inj} {S : Nat → Prop} {H : Nat → Option Box} {w : World} (h : MRel ι S H w) {b : Nat} (hb : S b) : ¬ Own ι H b := by
  rintro ⟨id, bx, o, h1, h2⟩
  obtain ⟨b', o', h3, h4, _⟩ := h.box id bx h1
  rw [h2] at h3
  cases h3
  exact h4 hb

theorem BoxAt.lt {ι : Inj} {S : Nat → Prop} {w : World} {b o : Nat} {bx : Box} (h : BoxAt ι S w b o bx) : b < w.heap.size := by
  cases bx with
  | cells cs => obtain ⟨vs, el, h, _⟩ := h; exact lt_of_heap h
  | map es c => obtain ⟨arr, h, _⟩ := h; exact lt_of_heap h

theorem BoxAt.mono {ι ι' : Inj} {S S' : Nat → Prop} {w w' : World} {b o : Nat} {bx : Box} (h : BoxAt ι S w b o bx) (hι : InjLe ι ι') (hS : ∀ b, S b → S' b)
    (hk : ∀ (b : Nat), S b → w'.heap[b]? = w.heap[b]?)
    (hsh : ∀ (b : Nat) cs el fr, w.heap[b]? = some (.cells cs el fr) → ∃ cs', w'.heap[b]? = some (.cells cs' el fr) ∧ cs'.size = cs.size)
    (hb : w'.heap[b]? = w.heap[b]?) : BoxAt ι' S' w' b o bx := by
  cases bx with
  | cells cs =>
    obtain ⟨vs, el, h1, h2, h3, h4⟩ := h
    exact ⟨vs, el, by rw [hb]; exact h1, h2, fun j c v hc hv => (h3 j c v hc hv).mono hι hS hk hsh, h4⟩
  | map es c =>
    obtain ⟨arr, h1, h2, h3⟩ := h
    refine ⟨arr, by rw [hb]; exact h1, h2, fun j k a n e he hv => ?_⟩
    obtain ⟨h4, h5, h6⟩ := h3 j k a n e he hv
    exact ⟨h4, h5, h6.mono hι hS hk hsh⟩

/-- Fewer boxes. -/
theorem MRel.less {ι : Inj} {S : Nat → Prop} {H H' : Nat → Option Box} {w : World} (h : MRel ι S H w) (hs : ∀ id bx, H' id = some bx → H id = some bx) : MRel ι S H' w :=
  ⟨fun id bx hx => h.box id bx (hs id bx hx), fun i j bi bj b o b' o' h1 h2 => h.apart i j bi bj b o b' o' (hs _ _ h1) (hs _ _ h2), h.prot⟩

/-- No box's block has turned. -/
theorem MRel.still {ι ι' : Inj} {S : Nat → Prop} {H : Nat → Option Box} {w w' : World} (h : MRel ι S H w) (hι : InjLe ι ι') {owned : Nat → Prop} (hw : WStep owned w w') (ho : ∀ b, b < w.heap.size → owned b → False) : MRel ι' S H w' where
  box := fun id bx hx => by
    obtain ⟨b, o, h1, h2, h3⟩ := h.box id bx hx
    exact ⟨b, o, hι _ _ h1, h2, h3.mono hι (fun _ h => h) (fun b hb => hw.keep b (h.prot b hb) (ho b (h.prot b hb))) hw.shape (hw.keep b h3.lt (ho b h3.lt))⟩
  apart := fun i j bi bj b o b' o' h1 h2 hne h3 h4 => by
    obtain ⟨b1, o1, e1, _⟩ := h.box i bi h1
    obtain ⟨b2, o2, e2, _⟩ := h.box j bj h2
    have := hι _ _ e1
    rw [h3] at this; cases this
    have := hι _ _ e2
    rw [h4] at this; cases this
    exact h.apart i j bi bj _ _ _ _ h1 h2 hne e1 e2
  prot := fun b hb => Nat.lt_of_lt_of_le (h.prot b hb) hw.size

/-! ### Slots -/
def SRel (ι : Inj) (S : Nat → Prop) (w : World) (s : Nat → Option AVal) (tmps : Array Value) : Prop :=
  ∀ i a, s i = some a → ∃ v, tmps[i]? = some v ∧ Rep ι S w a v

theorem SRel.mono {ι ι' : Inj} {S S' : Nat → Prop} {w w' : World} {s : Nat → Option AVal} {tmps : Array Value} (h : SRel ι S w s tmps) (hι : InjLe ι ι') (hS : ∀ b, S b → S' b)
    (hk : ∀ (b : Nat), S b → w'.heap[b]? = w.heap[b]?)
    (hsh : ∀ (b : Nat) cs el fr, w.heap[b]? = some (.cells cs el fr) → ∃ cs', w'.heap[b]? = some (.cells cs' el fr) ∧ cs'.size = cs.size) : SRel ι' S' w' s tmps := by
  intro i a hi
  obtain ⟨v, h1, h2⟩ := h i a hi
  exact ⟨v, h1, h2.mono hι hS hk hsh⟩

/-! ### Cells -/
theorem Rep.one {ι : Inj} {S : Nat → Prop} {w : World} {a : AVal} {v : Value} (h : Rep ι S w a v) (ho : a.one = true) : v.cells = #[v] ∧ a.cells = [a] := by
  cases h with
  | sc h => refine ⟨?_, rfl⟩; cases v <;> simp_all [scal, Value.cells]
  | agg hl hr => simp [AVal.one] at ho
  | tup hl hr => simp [AVal.one] at ho
  | _ => exact ⟨rfl, rfl⟩
theorem Rep.cells {ι : Inj} {S : Nat → Prop} {w : World} {a : AVal} {v : Value} (h : Rep ι S w a v) : RepL ι S w a.cells v.cells.toList := by
  by_cases ho : a.one = true
  · obtain ⟨h1, h2⟩ := h.one ho
    rw [h1, h2]
    refine ⟨rfl, fun j c v' hc hv => ?_⟩
    cases j with
    | zero => simp at hc hv; subst hc hv; exact h
    | succ j => simp at hc
  · cases h <;> simp [AVal.one] at ho
    · rename_i cells vs hl hr
      refine ⟨by simpa [AVal.cells, Value.cells] using hl, fun j c v hc hv => hr j c v hc (by simpa [Value.cells] using hv)⟩
    · rename_i cells vs hl hr
      refine ⟨by simp [AVal.cells, Value.cells], fun j c v hc hv => ?_⟩
      cases j with
      | zero =>
        simp [AVal.cells, Value.cells] at hc hv
        subst hc hv
        exact .tup hl hr
      | succ j => simp [AVal.cells] at hc
theorem Rep.oneCell {ι : Inj} {S : Nat → Prop} {w : World} {a : AVal} {v : Value} (h : Rep ι S w a v) (ho : a.one = true) : ∀ x, v ≠ .agg x ∧ v ≠ .tuple x := by
  intro x
  cases h with
  | sc h => cases v <;> simp [scal] at h ⊢
  | agg hl hr => simp [AVal.one] at ho
  | tup hl hr => simp [AVal.one] at ho
  | _ => exact ⟨by simp, by simp⟩
end Go.Am
