/- The abstract machine, part 7: memory that is made and written. -/
import Derived.Test.YtfaphhcloanhnaaAmOps3
set_option linter.unusedSimpArgs false
set_option linter.unusedVariables false
namespace Go.Am
section
variable {P : Program} {ι : Inj} {S : Nat → Prop} {w : World} {s : Tr AVal} {a : Act} {m m' : Mem} {v : AVal} {o : Oper} {ax ay az : Arg}

/-! ### A new box -/
def Inj.put (ι : Inj) (id : Nat) (p : Nat × Nat) : Inj := fun i => if i = id then some p else ι i
theorem Inj.put_le (ι : Inj) (id : Nat) (p : Nat × Nat) (h : ι id = none) : InjLe ι (ι.put id p) := by
  intro i q hq
  unfold Inj.put
  split
  · subst_vars; rw [h] at hq; simp at hq
  · exact hq
theorem Inj.put_same (ι : Inj) (id : Nat) (p : Nat × Nat) : ι.put id p id = some p := by simp [Inj.put]

def World.made (w : World) (n : Nat) (vs : Array Value) (el : TypeId) : World := { w with drawn := n, heap := w.heap.push (.cells vs el) }

theorem made_old {n : Nat} {vs : Array Value} {el : TypeId} {b : Nat} (h : b < w.heap.size) : (World.made w n vs el).heap[b]? = w.heap[b]? := by
  simp only [World.made, Array.getElem?_push]
  rw [if_neg (by omega)]
theorem made_new {n : Nat} {vs : Array Value} {el : TypeId} : (World.made w n vs el).heap[w.heap.size]? = some (.cells vs el (0, 0)) := by
  simp [World.made]
theorem made_step (owned : Nat → Prop) (n : Nat) (vs : Array Value) (el : TypeId) : WStep owned w (World.made w n vs el) where
  os := rfl
  tape := rfl
  output := rfl
  size := by simp [World.made]
  keep := fun b hb _ => made_old hb
  shape := fun b cs el' fr h => ⟨cs, by rw [made_old (lt_of_heap h)]; exact h, rfl⟩

theorem Rep.up {ι' : Inj} {S' : Nat → Prop} {w' : World} {x : AVal} {u : Value} {H : Nat → Option Box} {owned : Nat → Prop} (h : Rep ι S w x u) (hm : MRel ι S H w) (hi : InjLe ι ι') (hS : ∀ b, S b → S' b) (hw : WStep owned w w') (ho : ∀ b, S b → ¬ owned b) : Rep ι' S' w' x u :=
  h.mono hi hS (fun b hb => hw.keep b (hm.prot b hb) (ho b hb)) hw.shape
theorem RepL.up {ι' : Inj} {S' : Nat → Prop} {w' : World} {xs : List AVal} {us : List Value} {H : Nat → Option Box} {owned : Nat → Prop} (h : RepL ι S w xs us) (hm : MRel ι S H w) (hi : InjLe ι ι') (hS : ∀ b, S b → S' b) (hw : WStep owned w w') (ho : ∀ b, S b → ¬ owned b) : RepL ι' S' w' xs us :=
  ⟨h.1, fun j c v hc hv => (h.2 j c v hc hv).up hm hi hS hw ho⟩

/-- A new box: what it holds is known up to some cell; the rest is spare. -/
theorem post_new {n : Nat} {vs : Array Value} {el : TypeId} {cs : List AVal} {u : Value} (hm : MRel ι S m.heap.get w) (hf : ι m.next = none) (hlen : cs.length ≤ vs.size) (hr : RepL ι S w cs (vs.toList.take cs.length)) (ho : ∀ c ∈ cs, c.one = true)
    (hv : Rep (ι.put m.next (w.heap.size, 0)) S (World.made w n vs el) v u) : Post ι S m w v (m.new (.cells cs)) u (ι.put m.next (w.heap.size, 0)) S (World.made w n vs el) := by
  have hle := ι.put_le m.next (w.heap.size, 0) hf
  have hst := made_step (w := w) (fun _ => False) n vs el
  refine ⟨hle, ?_, fun _ h => h, fun _ h => .inl h, made_step _ n vs el, ?_, ?_, hv, ?_⟩
  · intro id hid
    unfold Inj.put at hid
    split at hid
    · right; simp [Mem.new]; omega
    · exact .inl hid
  · rintro b hb ⟨id, bx, o, h1, h2⟩
    simp only [Mem.new, Tr.get_set] at h1
    unfold Inj.put at h2
    split at h2
    · simp at h2; omega
    · rename_i e
      rw [if_neg e] at h1
      exact ⟨id, bx, o, h1, h2⟩
  · refine ⟨fun id bx hb => ?_, fun i j bi bj b o b' o' h1 h2 hne h3 h4 => ?_, fun b hb => Nat.lt_of_lt_of_le (hm.prot b hb) hst.size⟩
    · simp only [Mem.new, Tr.get_set] at hb
      split at hb
      · rename_i he
        simp at hb
        subst hb he
        refine ⟨_, _, Inj.put_same _ _ _, fun hs => absurd (hm.prot _ hs) (by omega), vs, el, made_new, by omega, fun j c v hc hv => ?_, ho⟩
        have hj := (List.getElem?_eq_some_iff.1 hc).1
        refine ((hr.2 j c v hc ?_)).up hm hle (fun _ h => h) hst (fun _ _ h => h)
        rw [List.getElem?_take, if_pos hj]
        simpa using hv
      · obtain ⟨b, o, h1, h2, h3⟩ := hm.box id bx hb
        exact ⟨b, o, hle _ _ h1, h2, h3.mono hle (fun _ h => h) (fun b hb => made_old (hm.prot b hb)) hst.shape (made_old h3.lt)⟩
    · simp only [Mem.new, Tr.get_set] at h1 h2
      unfold Inj.put at h3 h4
      split at h1 <;> rename_i e1 <;> split at h2 <;> rename_i e2
      · omega
      · rw [if_pos e1] at h3
        rw [if_neg e2] at h4
        obtain ⟨b2, o2, e, _, hb2⟩ := hm.box j bj h2
        rw [h4] at e
        simp at e h3
        have := hb2.lt
        omega
      · rw [if_neg e1] at h3
        rw [if_pos e2] at h4
        obtain ⟨b2, o2, e, _, hb2⟩ := hm.box i bi h1
        rw [h3] at e
        simp at e h4
        have := hb2.lt
        omega
      · rw [if_neg e1] at h3
        rw [if_neg e2] at h4
        exact hm.apart i j bi bj _ _ _ _ h1 h2 hne h3 h4
  · refine ⟨by simp [Mem.new], by simp [Mem.new], fun id hid => .inr ?_⟩
    simp only [Mem.new, Tr.get_set]
    rw [if_neg (by omega)]

/-! ### A box is written -/
theorem setRow_step {b : Nat} {vs vs' : Array Value} {el : TypeId} (owned : Nat → Prop) (hb : w.heap[b]? = some (.cells vs el (0, 0))) (hs : vs'.size = vs.size) (ho : owned b) : WStep owned w (w.setRow b vs') where
  os := rfl
  tape := rfl
  output := rfl
  size := by simp
  keep := fun x hx hn => setRow_other w b x vs' (fun e => hn (e ▸ ho))
  shape := fun x cs el' fr h => by
    by_cases hx : x = b
    · subst hx
      rw [h] at hb
      cases hb
      exact ⟨vs', setRow_heap w x _ vs' _ _ h, hs⟩
    · exact ⟨cs, by rw [setRow_other w b x vs' hx]; exact h, rfl⟩

/-- A box's cells turn. -/
theorem post_put {id b p : Nat} {bx : Box} {vs vs' : Array Value} {el : TypeId} {cs' : List AVal} {u : Value} (hm : MRel ι S m.heap.get w) (hid : m.heap.get id = some bx) (hι : ι id = some (b, p)) (hb : w.heap[b]? = some (.cells vs el (0, 0))) (hs : vs'.size = vs.size)
    (hlen : p + cs'.length ≤ vs'.size) (hr : RepL ι S w cs' ((vs'.toList.drop p).take cs'.length)) (ho : ∀ c ∈ cs', c.one = true) (hn : id < m.next ∨ True) (hv : Rep ι S (w.setRow b vs') v u) :
    Post ι S m w v (m.put id (some (.cells cs'))) u ι S (w.setRow b vs') := by
  have hown : Own ι m.heap.get b := ⟨id, bx, p, hid, hι⟩
  have hst := setRow_step (w := w) (Own ι m.heap.get) hb hs hown
  have hnS : ∀ x, S x → ¬ Own ι m.heap.get x := fun x hx => hm.notS hx
  refine ⟨InjLe.refl _, fun _ h => .inl h, fun _ h => h, fun _ h => .inl h, hst, ?_, ?_, hv, ?_⟩
  · rintro x hx ⟨i, bi, q, h1, h2⟩
    simp only [Mem.put, Tr.get_set] at h1
    split at h1
    · rename_i e; exact ⟨i, bx, q, e ▸ hid, h2⟩
    · exact ⟨i, bi, q, h1, h2⟩
  · refine ⟨fun i bi hi => ?_, fun i j bi bj b1 o1 b2 o2 h1 h2 hne h3 h4 => ?_, fun x hx => Nat.lt_of_lt_of_le (hm.prot x hx) hst.size⟩
    · simp only [Mem.put, Tr.get_set] at hi
      split at hi
      · rename_i e
        simp at hi
        subst hi e
        obtain ⟨b', o', h1, h2, _⟩ := hm.box i bx hid
        rw [hι] at h1
        simp at h1
        obtain ⟨rfl, rfl⟩ := h1
        refine ⟨b, p, hι, h2, vs', el, setRow_heap w b _ vs' _ _ hb, hlen, fun j c v hc hv => ?_, ho⟩
        have hj := (List.getElem?_eq_some_iff.1 hc).1
        refine (hr.2 j c v hc ?_).up hm (InjLe.refl _) (fun _ h => h) hst hnS
        rw [List.getElem?_take, if_pos hj, List.getElem?_drop]
        simpa using hv
      · rename_i e
        obtain ⟨b', o', h1, h2, h3⟩ := hm.box i bi hi
        have hne : b' ≠ b := hm.apart i id bi bx b' o' b p hi hid e h1 hι
        exact ⟨b', o', h1, h2, h3.mono (InjLe.refl _) (fun _ h => h) (fun x hx => hst.keep x (hm.prot x hx) (hnS x hx)) hst.shape (setRow_other w b b' vs' hne)⟩
    · simp only [Mem.put, Tr.get_set] at h1 h2
      have k1 : ∃ x, m.heap.get i = some x := by
        split at h1
        · rename_i e; exact ⟨bx, e ▸ hid⟩
        · exact ⟨_, h1⟩
      have k2 : ∃ x, m.heap.get j = some x := by
        split at h2
        · rename_i e; exact ⟨bx, e ▸ hid⟩
        · exact ⟨_, h2⟩
      obtain ⟨x, k1⟩ := k1
      obtain ⟨y, k2⟩ := k2
      exact hm.apart i j x y _ _ _ _ k1 k2 hne h3 h4
  · refine ⟨by simp [Mem.put], by simp [Mem.put]; omega, fun i hi => ?_⟩
    simp only [Mem.put, Tr.get_set]
    by_cases e : i = id
    · left; omega
    · right; rw [if_neg e]

/-! ### Loads, stores -/
theorem cells_spec {id : Nat} {cs : List AVal} (h : m.cells id = some cs) : m.heap.get id = some (.cells cs) := by
  unfold Mem.cells at h
  split at h
  · split at h
    · simp at h; subst h; assumption
    · simp at h
  · simp at h
theorem cells_lt {id : Nat} {cs : List AVal} (h : m.cells id = some cs) : id < m.next := by
  unfold Mem.cells at h
  split at h
  · assumption
  · simp at h
/-- A box's cells in the world. -/
theorem box_cells {id b o' : Nat} {cs : List AVal} (hm : MRel ι S m.heap.get w) (h : m.cells id = some cs) (hι : ι id = some (b, o')) :
    ∃ vs el, w.heap[b]? = some (.cells vs el (0, 0)) ∧ o' + cs.length ≤ vs.size ∧ RepL ι S w cs ((vs.toList.drop o').take cs.length) ∧ (∀ c ∈ cs, c.one = true) ∧ ¬ S b := by
  obtain ⟨b', o'', h1, h2, h3⟩ := hm.box id _ (cells_spec h)
  rw [hι] at h1
  simp at h1
  obtain ⟨rfl, rfl⟩ := h1
  obtain ⟨vs, el, h4, h5, h6, h7⟩ := h3
  refine ⟨vs, el, h4, h5, ⟨by simp; omega, fun j c v hc hv => h6 j c v hc ?_⟩, h7, h2⟩
  have hj := (List.getElem?_eq_some_iff.1 hc).1
  rw [List.getElem?_take, if_pos hj, List.getElem?_drop] at hv
  simpa using hv

theorem run_loadVar_at {t : TypeId} {g : Bool} {n : Nat} {ad : Addr} {r : List AVal} {x : AVal} {us : List Value} (hg : aggOf P t = some g) (hn : szOf P t = some n) (hl : r.length = if g then n else 1) (hr : RepL ι S w r us) (hc : ∀ j, j < r.length → w.cell? (ad.add j) = us[j]?) (hx : asVar g r = some x) :
    ∃ u, (loadVar t ad).run P w = .ok u w ∧ Rep ι S w x u := by
  cases g with
  | true =>
    obtain rfl := asVar_true hx
    simp only [if_true] at hl
    have := run_loadCells_list (P := P) w ad us (fun j u hj => by
      have hlt := (List.getElem?_eq_some_iff.1 hj).1
      rw [hc j (by rw [hr.length]; exact hlt)]
      exact hj)
    rw [← hr.length, hl] at this
    exact ⟨.agg us.toArray, by simp [loadVar, run_isAgg_some hg, run_sizeOf_some hn, this], rep_agg_mk (by simpa using hr)⟩
  | false =>
    have e := asVar_false hx
    subst e
    have h0 := hc 0 (by simp)
    match us, hr with
    | [u], hr =>
      refine ⟨u, ?_, hr.2 0 _ _ rfl rfl⟩
      have : w.cell? ad = some u := by simpa [Addr.add] using h0
      simp [loadVar, run_isAgg_some hg, this]
    | [], hr => exact absurd hr.1 (by simp)
    | _ :: _ :: _, hr => exact absurd hr.1 (by simp)

theorem ok_load {t : TypeId} {x : Operand} {g : Bool} {n : Nat} (ho : o.op = .load t x) (hg : aggOf P t = some g) (hn : szOf P t = some n) (hx : compArg x = some ax)
    (hv : opVal s m (.load g (if g then n else 1) ax) = some (v, m')) (hs : SRel ι S w s.get a.tmps) (hm : MRel ι S m.heap.get w) : OpOk P ι S w a m o v m' := by
  obtain ⟨q, hq⟩ : ∃ q, q = if g = true then n else 1 := ⟨_, rfl⟩
  rw [← hq] at hv
  simp only [opVal] at hv
  split at hv
  · rename_i id off h1
    split at hv
    · rename_i cs hcs
      split at hv
      · rename_i r hr
        simp only [Option.map_eq_some_iff, Prod.mk.injEq] at hv
        obtain ⟨y, hy, rfl, rfl⟩ := hv
        obtain ⟨b, o', hid, e1⟩ := rep_ptr (arg_rep hx hs h1)
        obtain ⟨vs, el, hb, hlen, hrep, hone, _⟩ := box_cells hm hcs hid
        have hsg := hrep.seg hr
        obtain ⟨hl, hreq⟩ := seg_spec hr
        have hrl : r.length = q := by rw [hreq]; simp; omega
        obtain ⟨u, hu, hru⟩ := run_loadVar_at (P := P) (ad := ⟨b, o' + off, none⟩) hg hn (hrl.trans hq) hsg (fun j hj => by
          rw [addr_add_mk]
          simp only [World.cell?, hb, Option.isSome_none, Bool.false_eq_true, if_false]
          rw [List.getElem?_take, if_pos (by omega), List.getElem?_drop, List.getElem?_take, if_pos (by omega), List.getElem?_drop]
          simp [Nat.add_assoc]) hy
        exact OpOk.value (u := u) (by simp [execOp, ho, e1, Instr.loadAt, Instr.sureAddr, hu]) hm hru
      · simp at hv
    · simp at hv
  · rename_i cs h1
    split at hv
    · rename_i r hr
      simp only [Option.map_eq_some_iff, Prod.mk.injEq] at hv
      obtain ⟨y, hy, rfl, rfl⟩ := hv
      obtain ⟨ad, vs, e1, hsp, hcell, hrep, hone⟩ := rep_ro (arg_rep hx hs h1)
      obtain ⟨hl, hreq⟩ := seg_spec hr
      have hrl : r.length = q := by rw [hreq]; simp; omega
      have hRL : RepL ι S w r ((List.range r.length).map vs) := by
        refine ⟨by simp, fun j c v hc hv => ?_⟩
        have hj := (List.getElem?_eq_some_iff.1 hc).1
        rw [List.getElem?_map, List.getElem?_range hj] at hv
        simp at hv
        subst hv
        refine hrep j c ?_
        rw [hreq, List.getElem?_take, if_pos (by omega)] at hc
        simpa using hc
      obtain ⟨u, hu, hru⟩ := run_loadVar_at (P := P) (ad := ad) hg hn (hrl.trans hq) hRL (fun j hj => by
        have hp : 0 < cs.length := by omega
        rw [addr_eta ad (hsp hp).1, addr_add_mk, hcell j (by omega)]
        simp [hj]) hy
      exact OpOk.value (u := u) (by simp [execOp, ho, e1, Instr.loadAt, Instr.sureAddr, hu]) hm hru
    · simp at hv
  · simp at hv
end
end Go.Am
