/- Parts of the proof, joined by program: AmOps4, AmOps5. -/
import Derived.Test.YtfaphhcloanhnaaPa14
set_option linter.unusedSimpArgs false
set_option linter.unusedVariables false
namespace Go.Am
section
variable {P : Program} {ι : Inj} {S : Nat → Prop} {w : World} {s : Tr AVal} {a : Act} {m m' : Mem} {v : AVal} {o : Oper} {ax ay az : Arg}

/-! ### A new box -/
def Inj.put (ι : Inj) (id : Nat) (p : Nat × Nat) : Inj := fun i => if i = id then some p else ι i
theorem Inj.put_le (ι : Inj) (id : Nat) (p : Nat × Nat) (h : ι id = none) : InjLe ι (ι.put id p) := by
  intro i q hq
  unfold Inj.put
  split
  · subst_vars; rw [h] at hq; simp at hq
  · exact hq
theorem Inj.put_same (ι : Inj) (id : Nat) (p : Nat × Nat) : ι.put id p id = some p := by simp [Inj.put]

def World.made (w : World) (n : Nat) (vs : Array Value) (el : TypeId) : World := { w with drawn := n, heap := w.heap.push (.cells vs el) }

theorem made_old {n : Nat} {vs : Array Value} {el : TypeId} {b : Nat} (h : b < w.heap.size) : (World.made w n vs el).heap[b]? = w.heap[b]? := by
  simp only [World.made, Array.getElem?_push]
  rw [if_neg (by omega)]
theorem made_new {n : Nat} {vs : Array Value} {el : TypeId} : (World.made w n vs el).heap[w.heap.size]? = some (.cells vs el (0, 0)) := by
  simp [World.made]
theorem made_step (owned : Nat → Prop) (n : Nat) (vs : Array Value) (el : TypeId) : WStep owned w (World.made w n vs el) where
  os := rfl
  tape := rfl
  output := rfl
  size := by simp [World.made]
  keep := fun b hb _ => made_old hb
  shape := fun b cs el' fr h => ⟨cs, by rw [made_old (lt_of_heap h)]; exact h, rfl⟩

theorem Rep.up {ι' : Inj} {S' : Nat → Prop} {w' : World} {x : AVal} {u : Value} {H : Nat → Option Box} {owned : Nat → Prop} (h : Rep ι S w x u) (hm : MRel ι S H w) (hi : InjLe ι ι') (hS : ∀ b, S b → S' b) (hw : WStep owned w w') (ho : ∀ b, S b → ¬ owned b) : Rep ι' S' w' x u :=
  h.mono hi hS (fun b hb => hw.keep b (hm.prot b hb) (ho b hb)) hw.shape
theorem RepL.up {ι' : Inj} {S' : Nat → Prop} {w' : World} {xs : List AVal} {us : List Value} {H : Nat → Option Box} {owned : Nat → Prop} (h : RepL ι S w xs us) (hm : MRel ι S H w) (hi : InjLe ι ι') (hS : ∀ b, S b → S' b) (hw : WStep owned w w') (ho : ∀ b, S b → ¬ owned b) : RepL ι' S' w' xs us :=
  ⟨h.1, fun j c v hc hv => (h.2 j c v hc hv).up hm hi hS hw ho⟩

/-- A new box: what it holds is known up to some cell; the rest is spare. -/
theorem post_new {n : Nat} {vs : Array Value} {el : TypeId} {cs : List AVal} {u : Value} (hm : MRel ι S m.heap.get w) (hf : ι m.next = none) (hlen : cs.length ≤ vs.size) (hr : RepL ι S w cs (vs.toList.take cs.length)) (ho : ∀ c ∈ cs, c.one = true)
    (hv : Rep (ι.put m.next (w.heap.size, 0)) S (World.made w n vs el) v u) : Post ι S m w v (m.new (.cells cs)) u (ι.put m.next (w.heap.size, 0)) S (World.made w n vs el) := by
  have hle := ι.put_le m.next (w.heap.size, 0) hf
  have hst := made_step (w := w) (fun _ => False) n vs el
  refine ⟨hle, ?_, fun _ h => h, fun _ h => .inl h, made_step _ n vs el, ?_, ?_, hv, ?_⟩
  · intro id hid
    unfold Inj.put at hid
    split at hid
    · right; simp [Mem.new]; omega
    · exact .inl hid
  · rintro b hb ⟨id, bx, o, h1, h2⟩
    simp only [Mem.new, Tr.get_set] at h1
    unfold Inj.put at h2
    split at h2
    · simp at h2; omega
    · rename_i e
      rw [if_neg e] at h1
      exact ⟨id, bx, o, h1, h2⟩
  · refine ⟨fun id bx hb => ?_, fun i j bi bj b o b' o' h1 h2 hne h3 h4 => ?_, fun b hb => Nat.lt_of_lt_of_le (hm.prot b hb) hst.size⟩
    · simp only [Mem.new, Tr.get_set] at hb
      split at hb
      · rename_i he
        simp at hb
        subst hb he
        refine ⟨_, _, Inj.put_same _ _ _, fun hs => absurd (hm.prot _ hs) (by omega), vs, el, made_new, by omega, fun j c v hc hv => ?_, ho⟩
        have hj := (List.getElem?_eq_some_iff.1 hc).1
        refine ((hr.2 j c v hc ?_)).up hm hle (fun _ h => h) hst (fun _ _ h => h)
        rw [List.getElem?_take, if_pos hj]
        simpa using hv
      · obtain ⟨b, o, h1, h2, h3⟩ := hm.box id bx hb
        exact ⟨b, o, hle _ _ h1, h2, h3.mono hle (fun _ h => h) (fun b hb => made_old (hm.prot b hb)) hst.shape (made_old h3.lt)⟩
    · simp only [Mem.new, Tr.get_set] at h1 h2
      unfold Inj.put at h3 h4
      split at h1 <;> rename_i e1 <;> split at h2 <;> rename_i e2
      · omega
      · rw [if_pos e1] at h3
        rw [if_neg e2] at h4
        obtain ⟨b2, o2, e, _, hb2⟩ := hm.box j bj h2
        rw [h4] at e
        simp at e h3
        have := hb2.lt
        omega
      · rw [if_neg e1] at h3
        rw [if_pos e2] at h4
        obtain ⟨b2, o2, e, _, hb2⟩ := hm.box i bi h1
        rw [h3] at e
        simp at e h4
        have := hb2.lt
        omega
      · rw [if_neg e1] at h3
        rw [if_neg e2] at h4
        exact hm.apart i j bi bj _ _ _ _ h1 h2 hne h3 h4
  · refine ⟨by simp [Mem.new], by simp [Mem.new], fun id hid => .inr ?_⟩
    simp only [Mem.new, Tr.get_set]
    rw [if_neg (by omega)]

/-! ### A box is written -/
theorem setRow_step {b : Nat} {vs vs' : Array Value} {el : TypeId} (owned : Nat → Prop) (hb : w.heap[b]? = some (.cells vs el (0, 0))) (hs : vs'.size = vs.size) (ho : owned b) : WStep owned w (w.setRow b vs') where
  os := rfl
  tape := rfl
  output := rfl
  size := by simp
  keep := fun x hx hn => setRow_other w b x vs' (fun e => hn (e ▸ ho))
  shape := fun x cs el' fr h => by
    by_cases hx : x = b
    · subst hx
      rw [h] at hb
      cases hb
      exact ⟨vs', setRow_heap w x _ vs' _ _ h, hs⟩
    · exact ⟨cs, by rw [setRow_other w b x vs' hx]; exact h, rfl⟩

/-- A box's cells turn. -/
theorem post_put {id b p : Nat} {bx : Box} {vs vs' : Array Value} {el : TypeId} {cs' : List AVal} {u : Value} (hm : MRel ι S m.heap.get w) (hid : m.heap.get id = some bx) (hι : ι id = some (b, p)) (hb : w.heap[b]? = some (.cells vs el (0, 0))) (hs : vs'.size = vs.size)
    (hlen : p + cs'.length ≤ vs'.size) (hr : RepL ι S w cs' ((vs'.toList.drop p).take cs'.length)) (ho : ∀ c ∈ cs', c.one = true) (hn : id < m.next ∨ True) (hv : Rep ι S (w.setRow b vs') v u) :
    Post ι S m w v (m.put id (some (.cells cs'))) u ι S (w.setRow b vs') := by
  have hown : Own ι m.heap.get b := ⟨id, bx, p, hid, hι⟩
  have hst := setRow_step (w := w) (Own ι m.heap.get) hb hs hown
  have hnS : ∀ x, S x → ¬ Own ι m.heap.get x := fun x hx => hm.notS hx
  refine ⟨InjLe.refl _, fun _ h => .inl h, fun _ h => h, fun _ h => .inl h, hst, ?_, ?_, hv, ?_⟩
  · rintro x hx ⟨i, bi, q, h1, h2⟩
    simp only [Mem.put, Tr.get_set] at h1
    split at h1
    · rename_i e; exact ⟨i, bx, q, e ▸ hid, h2⟩
    · exact ⟨i, bi, q, h1, h2⟩
  · refine ⟨fun i bi hi => ?_, fun i j bi bj b1 o1 b2 o2 h1 h2 hne h3 h4 => ?_, fun x hx => Nat.lt_of_lt_of_le (hm.prot x hx) hst.size⟩
    · simp only [Mem.put, Tr.get_set] at hi
      split at hi
      · rename_i e
        simp at hi
        subst hi e
        obtain ⟨b', o', h1, h2, _⟩ := hm.box i bx hid
        rw [hι] at h1
        simp at h1
        obtain ⟨rfl, rfl⟩ := h1
        refine ⟨b, p, hι, h2, vs', el, setRow_heap w b _ vs' _ _ hb, hlen, fun j c v hc hv => ?_, ho⟩
        have hj := (List.getElem?_eq_some_iff.1 hc).1
        refine (hr.2 j c v hc ?_).up hm (InjLe.refl _) (fun _ h => h) hst hnS
        rw [List.getElem?_take, if_pos hj, List.getElem?_drop]
        simpa using hv
      · rename_i e
        obtain ⟨b', o', h1, h2, h3⟩ := hm.box i bi hi
        have hne : b' ≠ b := hm.apart i id bi bx b' o' b p hi hid e h1 hι
        exact ⟨b', o', h1, h2, h3.mono (InjLe.refl _) (fun _ h => h) (fun x hx => hst.keep x (hm.prot x hx) (hnS x hx)) hst.shape (setRow_other w b b' vs' hne)⟩
    · simp only [Mem.put, Tr.get_set] at h1 h2
      have k1 : ∃ x, m.heap.get i = some x := by
        split at h1
        · rename_i e; exact ⟨bx, e ▸ hid⟩
        · exact ⟨_, h1⟩
      have k2 : ∃ x, m.heap.get j = some x := by
        split at h2
        · rename_i e; exact ⟨bx, e ▸ hid⟩
        · exact ⟨_, h2⟩
      obtain ⟨x, k1⟩ := k1
      obtain ⟨y, k2⟩ := k2
      exact hm.apart i j x y _ _ _ _ k1 k2 hne h3 h4
  · refine ⟨by simp [Mem.put], by simp [Mem.put]; omega, fun i hi => ?_⟩
    simp only [Mem.put, Tr.get_set]
    by_cases e : i = id
    · left; omega
    · right; rw [if_neg e]

/-! ### Loads, stores -/
theorem cells_spec {id : Nat} {cs : List AVal} (h : m.cells id = some cs) : m.heap.get id = some (.cells cs) := by
  unfold Mem.cells at h
  split at h
  · split at h
    · simp at h; subst h; assumption
    · simp at h
  · simp at h
theorem cells_lt {id : Nat} {cs : List AVal} (h : m.cells id = some cs) : id < m.next := by
  unfold Mem.cells at h
  split at h
  · assumption
  · simp at h
/-- A box's cells in the world. -/
theorem box_cells {id b o' : Nat} {cs : List AVal} (hm : MRel ι S m.heap.get w) (h : m.cells id = some cs) (hι : ι id = some (b, o')) :
    ∃ vs el, w.heap[b]? = some (.cells vs el (0, 0)) ∧ o' + cs.length ≤ vs.size ∧ RepL ι S w cs ((vs.toList.drop o').take cs.length) ∧ (∀ c ∈ cs, c.one = true) ∧ ¬ S b := by
  obtain ⟨b', o'', h1, h2, h3⟩ := hm.box id _ (cells_spec h)
  rw [hι] at h1
  simp at h1
  obtain ⟨rfl, rfl⟩ := h1
  obtain ⟨vs, el, h4, h5, h6, h7⟩ := h3
  refine ⟨vs, el, h4, h5, ⟨by simp; omega, fun j c v hc hv => h6 j c v hc ?_⟩, h7, h2⟩
  have hj := (List.getElem?_eq_some_iff.1 hc).1
  rw [List.getElem?_take, if_pos hj, List.getElem?_drop] at hv
  simpa using hv

theorem run_loadVar_at {t : TypeId} {g : Bool} {n : Nat} {ad : Addr} {r : List AVal} {x : AVal} {us : List Value} (hg : aggOf P t = some g) (hn : szOf P t = some n) (hl : r.length = if g then n else 1) (hr : RepL ι S w r us) (hc : ∀ j, j < r.length → w.cell? (ad.add j) = us[j]?) (hx : asVar g r = some x) :
    ∃ u, (loadVar t ad).run P w = .ok u w ∧ Rep ι S w x u := by
  cases g with
  | true =>
    obtain rfl := asVar_true hx
    simp only [if_true] at hl
    have := run_loadCells_list (P := P) w ad us (fun j u hj => by
      have hlt := (List.getElem?_eq_some_iff.1 hj).1
      rw [hc j (by rw [hr.length]; exact hlt)]
      exact hj)
    rw [← hr.length, hl] at this
    exact ⟨.agg us.toArray, by simp [loadVar, run_isAgg_some hg, run_sizeOf_some hn, this], rep_agg_mk (by simpa using hr)⟩
  | false =>
    have e := asVar_false hx
    subst e
    have h0 := hc 0 (by simp)
    match us, hr with
    | [u], hr =>
      refine ⟨u, ?_, hr.2 0 _ _ rfl rfl⟩
      have : w.cell? ad = some u := by simpa [Addr.add] using h0
      simp [loadVar, run_isAgg_some hg, this]
    | [], hr => exact absurd hr.1 (by simp)
    | _ :: _ :: _, hr => exact absurd hr.1 (by simp)

theorem ok_load {t : TypeId} {x : Operand} {g : Bool} {n : Nat} (ho : o.op = .load t x) (hg : aggOf P t = some g) (hn : szOf P t = some n) (hx : compArg x = some ax)
    (hv : opVal s m (.load g (if g then n else 1) ax) = some (v, m')) (hs : SRel ι S w s.get a.tmps) (hm : MRel ι S m.heap.get w) : OpOk P ι S w a m o v m' := by
  obtain ⟨q, hq⟩ : ∃ q, q = if g = true then n else 1 := ⟨_, rfl⟩
  rw [← hq] at hv
  simp only [opVal] at hv
  split at hv
  · rename_i id off h1
    split at hv
    · rename_i cs hcs
      split at hv
      · rename_i r hr
        simp only [Option.map_eq_some_iff, Prod.mk.injEq] at hv
        obtain ⟨y, hy, rfl, rfl⟩ := hv
        obtain ⟨b, o', hid, e1⟩ := rep_ptr (arg_rep hx hs h1)
        obtain ⟨vs, el, hb, hlen, hrep, hone, _⟩ := box_cells hm hcs hid
        have hsg := hrep.seg hr
        obtain ⟨hl, hreq⟩ := seg_spec hr
        have hrl : r.length = q := by rw [hreq]; simp; omega
        obtain ⟨u, hu, hru⟩ := run_loadVar_at (P := P) (ad := ⟨b, o' + off, none⟩) hg hn (hrl.trans hq) hsg (fun j hj => by
          rw [addr_add_mk]
          simp only [World.cell?, hb, Option.isSome_none, Bool.false_eq_true, if_false]
          rw [List.getElem?_take, if_pos (by omega), List.getElem?_drop, List.getElem?_take, if_pos (by omega), List.getElem?_drop]
          simp [Nat.add_assoc]) hy
        exact OpOk.value (u := u) (by simp [execOp, ho, e1, Instr.loadAt, Instr.sureAddr, hu]) hm hru
      · simp at hv
    · simp at hv
  · rename_i cs h1
    split at hv
    · rename_i r hr
      simp only [Option.map_eq_some_iff, Prod.mk.injEq] at hv
      obtain ⟨y, hy, rfl, rfl⟩ := hv
      obtain ⟨ad, vs, e1, hsp, hcell, hrep, hone⟩ := rep_ro (arg_rep hx hs h1)
      obtain ⟨hl, hreq⟩ := seg_spec hr
      have hrl : r.length = q := by rw [hreq]; simp; omega
      have hRL : RepL ι S w r ((List.range r.length).map vs) := by
        refine ⟨by simp, fun j c v hc hv => ?_⟩
        have hj := (List.getElem?_eq_some_iff.1 hc).1
        rw [List.getElem?_map, List.getElem?_range hj] at hv
        simp at hv
        subst hv
        refine hrep j c ?_
        rw [hreq, List.getElem?_take, if_pos (by omega)] at hc
        simpa using hc
      obtain ⟨u, hu, hru⟩ := run_loadVar_at (P := P) (ad := ad) hg hn (hrl.trans hq) hRL (fun j hj => by
        have hp : 0 < cs.length := by omega
        rw [addr_eta ad (hsp hp).1, addr_add_mk, hcell j (by omega)]
        simp [hj]) hy
      exact OpOk.value (u := u) (by simp [execOp, ho, e1, Instr.loadAt, Instr.sureAddr, hu]) hm hru
    · simp at hv
  · simp at hv
theorem ok_sliceB {t e : TypeId} {x : Operand} {lo hi mx : Option Operand} {al ah : Arg} {z : Nat} (ho : o.op = .slice t x lo hi mx) (ht : P.underlying t = some (.slice e)) (hz : szOf P e = some z) (h0 : 0 < z)
    (hx : compArg x = some ax) (hl : compOpt lo = some (some al)) (hh : compOpt hi = some (some ah)) (hmx : compOpt mx = some none) (hv : opVal s m (.sliceB z ax al ah) = some (v, m')) (hs : SRel ι S w s.get a.tmps) (hm : MRel ι S m.heap.get w) : OpOk P ι S w a m o v m' := by
  simp only [opVal] at hv
  split at hv
  · rename_i id off len e' l h hx' hl' hh'
    split at hv
    · rename_i he
      subst he
      split at hv
      · rename_i cells hcells
        split at hv
        · rename_i hq
          obtain ⟨q1, q2, q3⟩ := hq
          simp only [Option.some.injEq, Prod.mk.injEq] at hv
          obtain ⟨rfl, rfl⟩ := hv
          obtain ⟨b, o', sc, ad, e1, hid, hle, hk, had, hroom⟩ := rep_sl (arg_rep hx hs hx')
          obtain ⟨cs, el, hc, hsz, hsz2⟩ := hroom (.inr rfl)
          have hsz3 := hsz2 rfl
          obtain ⟨vs, el2, hbb, hlen, hrep, hone, hnS⟩ := box_cells hm hcells hid
          rw [hc] at hbb
          simp only [Option.some.injEq, Obj.cells.injEq] at hbb
          obtain ⟨rfl, rfl, _⟩ := hbb
          have hsc : h.toNat ≤ sc := by
            rcases q3 with q3 | q3
            · clear hroom hsz2; omega
            · have : h.toNat * e' ≤ sc * e' := by clear hroom hsz2; omega
              exact Nat.le_of_mul_le_mul_right this h0
          have hb3 : bounds3 len (some sc) (some l) (some h) none = some (l.toNat, h.toNat, some sc) := by
            have u1 : upTo len (some sc) h = true := by
              unfold upTo
              simp only [Bool.or_eq_true, decide_eq_true_eq]
              right; omega
            unfold bounds3
            simp only [u1, and_true]
            rw [if_pos (by omega)]
            simp only
            rw [if_pos ⟨q1, by omega⟩]
          have al1 : argOpt s (some al) = some (some l) := by
            simp only [Option.bind_eq_some_iff] at hl'
            obtain ⟨u, u1, u2⟩ := hl'
            simp [argOpt, u1, u2]
          have ah1 : argOpt s (some ah) = some (some h) := by
            simp only [Option.bind_eq_some_iff] at hh'
            obtain ⟨u, u1, u2⟩ := hh'
            simp [argOpt, u1, u2]
          have am1 : argOpt s none = some none := rfl
          obtain ⟨mm, hrun, p1, p2, p3, p4, p5, _⟩ := bounds3_run (P := P) (w := w) (isSlice := true) hb3 hle (fun k hk => by cases hk; rfl) (argOpt_rep hl hs al1) (argOpt_rep hh hs ah1) (argOpt_rep hmx hs am1)
          obtain rfl := p4 sc rfl
          have run : (execOp a.eval o).run P w = .ok (.value (.slice (if mm = l.toNat then some ad else (some ad).map (·.add (l.toNat * e'))) (h.toNat - l.toNat) (mm - l.toNat))) w := by
            simp [execOp, ho, e1, Instr.sliceAt, Instr.slice, run_underlying ht, hrun, run_sizeOf_some hz]
          have e2 : (if mm = l.toNat then some ad else (some ad).map (·.add (l.toNat * e'))) = some (if mm = l.toNat then ad else ad.add (l.toNat * e')) := by split <;> rfl
          have e3 : l.toNat * e' + (mm - l.toNat) * e' = mm * e' := by rw [← Nat.add_mul]; congr 1; omega
          refine OpOk.value (u := .slice (some (if mm = l.toNat then ad else ad.add (l.toNat * e'))) (h.toNat - l.toNat) (mm - l.toNat)) (by rw [run, e2]) hm (.sl hid (by omega) (by simp) ?_ ?_)
          · intro hne
            rw [if_neg (by omega), had (by omega), addr_add_mk, Nat.add_assoc]
          · intro _
            exact ⟨cs, el, hc, by clear hroom hsz2; omega, fun _ => by clear hroom hsz2; omega⟩
        · simp at hv
      · simp at hv
    · simp at hv
  · rename_i cs len cap l h hx' hl' hh'
    split at hv
    · rename_i hq
      obtain ⟨q1, q2, q3⟩ := hq
      refine ok_slice (am := none) ho ht hz h0 hx hl hh hmx ?_ hs hm
      simp only [Option.bind_eq_some_iff] at hl' hh'
      obtain ⟨u, u1, u2⟩ := hl'
      obtain ⟨u', u3, u4⟩ := hh'
      have b1 : bounds3 len none (some l) (some h) none = some (l.toNat, h.toNat, none) := by
        have u5 : upTo len none h = true := by
          unfold upTo
          simp only [Bool.or_false, decide_eq_true_eq]
          omega
        unfold bounds3
        simp only [u5, and_true]
        rw [if_pos (by omega)]
        simp only
        rw [if_pos ⟨q1, by omega⟩]
      simp only [opVal, hx', argOpt, u1, u2, u3, u4, Option.map_some, b1]
      exact hv
    · simp at hv
  · simp at hv
end
end Go.Am
namespace Go.Am

theorem list_put {α : Type} (L us : List α) (p off n : Nat) (h : off + us.length ≤ n) (hp : p + n ≤ L.length) :
    ((L.take (p + off) ++ us ++ L.drop (p + off + us.length)).drop p).take n = ((L.drop p).take n).take off ++ us ++ ((L.drop p).take n).drop (off + us.length) := by
  apply List.ext_getElem?
  intro j
  simp only [List.getElem?_take, List.getElem?_drop, List.getElem?_append, List.length_take, List.length_append, List.length_drop]
  by_cases h1 : j < n
  · by_cases h2 : j < off
    · simp only [h1, h2, if_true]
      rw [if_pos (by omega), if_pos (by omega), if_pos (by omega), if_pos (by omega), if_pos (by omega)]
    · by_cases h3 : j < off + us.length
      · simp only [h1, if_true]
        rw [if_pos (by omega), if_neg (by omega), if_pos (by omega), if_neg (by omega)]
        congr 1
        omega
      · simp only [h1, if_true]
        rw [if_neg (by omega), if_neg (by omega), if_pos (by omega)]
        congr 1
        omega
  · simp only [h1, if_false]
    rw [if_neg (by omega), if_neg (by omega)]

section
variable {P : Program} {ι : Inj} {S : Nat → Prop} {w : World} {s : Tr AVal} {a : Act} {m m' : Mem} {v : AVal} {o : Oper} {ax ay az : Arg}

theorem putSeg_length {cs new : List AVal} {off : Nat} (h : off + new.length ≤ cs.length) : (putSeg cs off new).length = cs.length := by
  simp [putSeg]; omega
theorem putSeg_one {cs new : List AVal} {off : Nat} (h1 : ∀ c ∈ cs, c.one = true) (h2 : ∀ c ∈ new, c.one = true) : ∀ c ∈ putSeg cs off new, c.one = true := by
  intro c hc
  simp only [putSeg, List.mem_append] at hc
  rcases hc with (hc | hc) | hc
  · exact h1 c (List.mem_of_mem_take hc)
  · exact h2 c hc
  · exact h1 c (List.mem_of_mem_drop hc)
theorem RepL.putSeg {cs new : List AVal} {us L : List Value} {p off : Nat} (h : RepL ι S w cs ((L.drop p).take cs.length)) (hn : RepL ι S w new us) (ho : off + new.length ≤ cs.length) (hp : p + cs.length ≤ L.length) :
    RepL ι S w (Am.putSeg cs off new) (((L.take (p + off) ++ us ++ L.drop (p + off + us.length)).drop p).take cs.length) := by
  rw [list_put L us p off cs.length (by rw [← hn.length]; exact ho) hp, ← hn.length]
  exact ((h.take off).append hn).append (h.drop _)

theorem one_all {vs : List AVal} (h : vs.all AVal.one = true) : ∀ c ∈ vs, c.one = true := by simpa using h
theorem rep_one' {x : AVal} {u : Value} (h : Rep ι S w x u) (ho : x.one = true) : u.oneCell' = true := by
  have := h.oneCell ho
  cases u <;> simp_all [Value.oneCell']
theorem repL_one {xs : List AVal} {us : List Value} (h : RepL ι S w xs us) (ho : ∀ c ∈ xs, c.one = true) : ∀ u ∈ us, u.oneCell' = true := by
  intro u hu
  obtain ⟨j, hj, e⟩ := List.getElem_of_mem hu
  have hj' : j < xs.length := by rw [h.length]; exact hj
  exact rep_one' (h.2 j xs[j] u (by simp [hj']) (by simp [hj, e])) (ho _ (List.getElem_mem hj'))

theorem ok_store {t : TypeId} {x y : Operand} {n : Nat} (ho : o.op = .store t x y) (hn : szOf P t = some n) (hx : compArg x = some ax) (hy : compArg y = some ay)
    (hv : opVal s m (.store n ax ay) = some (v, m')) (hs : SRel ι S w s.get a.tmps) (hm : MRel ι S m.heap.get w) : OpOk P ι S w a m o v m' := by
  simp only [opVal] at hv
  split at hv
  · rename_i id off y' h1 h2
    split at hv
    · rename_i hc
      split at hv
      · rename_i cs hcs
        split at hv
        · rename_i hoff
          simp only [Option.some.injEq, Prod.mk.injEq] at hv
          obtain ⟨rfl, rfl⟩ := hv
          obtain ⟨b, p, hid, e1⟩ := rep_ptr (arg_rep hx hs h1)
          have ry := (arg_rep hy hs h2).cells
          obtain ⟨vs, el, hb, hlen, hrep, hone, hnS⟩ := box_cells hm hcs hid
          have h1c := repL_one ry (one_all hc.2)
          have hsz : (a.eval y).cells.size = n := by have := ry.length; simp at this; omega
          have hst := run_storeCells_at P b (p + off) el (a.eval y).cells.toList 0 vs w hb (by simp; omega) h1c
          simp only [Nat.add_zero] at hst
          have hlen2 : (y'.cells).length = (a.eval y).cells.toList.length := ry.length
          have hpl := putSeg_length (new := y'.cells) (off := off) (cs := cs) (by rw [hc.1]; exact hoff)
          have hRL := hrep.putSeg ry (by rw [hc.1]; exact hoff) (by simpa using hlen)
          have hsize : ((vs.toList.take (p + off) ++ (a.eval y).cells.toList ++ vs.toList.drop (p + off + (a.eval y).cells.toList.length)).toArray).size = vs.size := by simp; omega
          generalize hg : (vs.toList.take (p + off) ++ (a.eval y).cells.toList ++ vs.toList.drop (p + off + (a.eval y).cells.toList.length)) = L2 at hst hRL hsize
          refine ⟨.skip, undef, w.setRow b L2.toArray, ι, S, by simp [execOp, ho, e1, Instr.storeAt, Instr.sureAddr, storeVar, run_sizeOf_some hn, hsz, hst], .inr ⟨rfl, rfl⟩, ?_⟩
          refine post_put hm (cells_spec hcs) hid hb hsize (by rw [hpl, hsize]; exact hlen) ?_ (putSeg_one hone (one_all hc.2)) (.inr trivial) (.tup rfl (fun j c v hc => by simp at hc))
          rw [hpl]
          exact hRL
        · simp at hv
      · simp at hv
    · simp at hv
  · simp at hv

theorem zeroOf_some {t : TypeId} {z : List AVal} (h : zeroOf P t = some z) : ∃ i u, P.info? t = some i ∧ i.zero = some u ∧ (∀ ι S w, RepL ι S w z u.cells.toList) ∧ ∀ c ∈ z, c.one = true := by
  unfold zeroOf at h
  split at h
  · rename_i u hu
    simp only [Option.bind_eq_some_iff] at hu
    obtain ⟨i, h1, h2⟩ := hu
    exact ⟨i, u, h1, h2, fun ι S w => (scAll_rep h).1, (scAll_rep (ι := fun _ => none) (S := fun _ => False) (w := default) h).2⟩
  · simp at h
theorem run_zeroValue_some {t : TypeId} {i : TypeInfo} {u : Value} (h1 : P.info? t = some i) (h2 : i.zero = some u) (w : World) : (zeroValue t).run P w = .ok u w := by
  simp [zeroValue, typeInfo, h1, h2]

theorem ok_alloc {t : TypeId} {z : List AVal} (ho : o.op = .alloc t) (hz : zeroOf P t = some z) (hv : opVal s m (.alloc z) = some (v, m')) (hm : MRel ι S m.heap.get w) (hf : ∀ id, m.next ≤ id → id < m'.next → ι id = none) : OpOk P ι S w a m o v m' := by
  simp only [opVal, Option.some.injEq, Prod.mk.injEq] at hv
  obtain ⟨rfl, rfl⟩ := hv
  obtain ⟨i, u, h1, h2, h3, h4⟩ := zeroOf_some hz
  have hl := (h3 ι S w).length
  have hrun : (execOp a.eval o).run P w = .ok (.value (.pointer (some ⟨w.heap.size, 0, none⟩))) (World.made w w.drawn u.cells t) := by
    simp only [execOp, ho, Instr.alloc, newVar, newRow, Sem.run_bind, run_zeroValue_some h1 h2, Result.andThen_ok, run_newObj, Sem.run_pure]
    rfl
  refine ⟨_, .pointer (some ⟨w.heap.size, 0, none⟩), World.made w w.drawn u.cells t, ι.put m.next (w.heap.size, 0), S, hrun, .inl rfl, ?_⟩
  refine post_new hm (hf _ (Nat.le_refl _) (by simp [Mem.new])) (by simp at hl; omega) ?_ h4 (.ptr (Inj.put_same _ _ _))
  rw [List.take_of_length_le (by omega)]
  exact h3 _ _ _

theorem ok_box {t : TypeId} {x : Operand} (ho : o.op = .box t x) (hx : compArg x = some ax) (hv : opVal s m (.box ax) = some (v, m')) (hs : SRel ι S w s.get a.tmps) (hm : MRel ι S m.heap.get w) (hf : ∀ id, m.next ≤ id → id < m'.next → ι id = none) : OpOk P ι S w a m o v m' := by
  simp only [opVal] at hv
  split at hv
  · rename_i y h1
    split at hv
    · rename_i hone
      simp only [Option.some.injEq, Prod.mk.injEq] at hv
      obtain ⟨rfl, rfl⟩ := hv
      have hr := (arg_rep hx hs h1).cells
      have hl := hr.length
      have hrun : (execOp a.eval o).run P w = .ok (.value (.pointer (some ⟨w.heap.size, 0, none⟩))) (World.made w w.drawn (a.eval x).cells t) := by
        simp only [execOp, ho, Instr.box, newVar, newRow, Sem.run_bind, Result.andThen_ok, run_newObj, Sem.run_pure]
        rfl
      refine ⟨_, .pointer (some ⟨w.heap.size, 0, none⟩), World.made w w.drawn (a.eval x).cells t, ι.put m.next (w.heap.size, 0), S, hrun, .inl rfl, ?_⟩
      refine post_new hm (hf _ (Nat.le_refl _) (by simp [Mem.new])) (by simp at hl; omega) ?_ (one_all hone) (.ptr (Inj.put_same _ _ _))
      rw [List.take_of_length_le (by omega)]
      exact hr
    · simp at hv
  · simp at hv

/-! ### Parts -/
theorem fold_set {α : Type} (off : Nat) : ∀ (l : List α) (n : Nat) (cells : Array α), off + n + l.length ≤ cells.size →
    ((l.zipIdx n).foldl (fun (cs : Array α) (p : α × Nat) => cs.setIfInBounds (off + p.2) p.1) cells).toList = cells.toList.take (off + n) ++ l ++ cells.toList.drop (off + n + l.length)
  | [], n, cells, _ => by simp
  | x :: r, n, cells, h => by
    simp only [List.zipIdx_cons, List.foldl_cons]
    rw [fold_set off r (n + 1) _ (by simp at h ⊢; omega)]
    simp at h
    apply List.ext_getElem?
    intro j
    simp only [Array.toList_setIfInBounds, List.getElem?_append, List.getElem?_take, List.getElem?_drop, List.getElem?_set, List.length_take, List.length_set, Array.length_toList, List.length_append, List.length_cons]
    by_cases h1 : j < off + n
    · rw [if_pos (by omega), if_pos (by omega), if_pos (by omega), if_neg (by omega), if_pos (by omega), if_pos (by omega), if_pos (by omega)]
    · by_cases h2 : j = off + n
      · subst h2
        rw [if_pos (by omega), if_pos (by omega), if_pos (by omega), if_pos rfl, if_pos (by omega), if_pos (by omega), if_neg (by omega)]
        have e : off + n - min (off + n) cells.size = 0 := by omega
        rw [e]
        rfl
      · by_cases h3 : j < off + n + (r.length + 1)
        · rw [if_pos (by omega), if_neg (by omega), if_pos (by omega), if_neg (by omega)]
          have e : j - min (off + n) cells.size = (j - min (off + (n + 1)) cells.size) + 1 := by omega
          rw [e, List.getElem?_cons_succ]
        · rw [if_neg (by omega), if_neg (by omega), if_neg (by omega)]
          congr 1
          omega

theorem fillA_run {place : Nat → Option (Nat × Nat)} : ∀ {parts : List (Nat × Operand)} {aps : List (Nat × Nat × Arg)} {ps : List (Nat × Nat × AVal)} {cs r : List AVal} {cells : Array Value},
    compParts place parts = some aps → SRel ι S w s.get a.tmps → argParts s aps = some ps → RepL ι S w cs cells.toList → (∀ c ∈ cs, c.one = true) → fillA cs ps = some r →
    ∃ out, Instr.fill place cells (parts.map fun q => (q.1, a.eval q.2)) = some out ∧ RepL ι S w r out.toList ∧ ∀ c ∈ r, c.one = true
  | [], aps, ps, cs, r, cells, hc, hs, hp, hr, ho, hf => by
    simp [compParts] at hc
    subst hc
    simp [argParts] at hp
    subst hp
    simp [fillA] at hf
    subst hf
    exact ⟨cells, rfl, hr, ho⟩
  | (i, x) :: parts, aps, ps, cs, r, cells, hc, hs, hp, hr, ho, hf => by
    unfold compParts at hc
    split at hc
    · rename_i off n ax asq h1 h2 h3
      simp only [Option.some.injEq] at hc
      subst hc
      unfold argParts at hp
      split at hp
      · rename_i v vs h4 h5
        simp only [Option.some.injEq] at hp
        subst hp
        unfold fillA at hf
        split at hf
        · rename_i hq
          obtain ⟨q1, q2, q3⟩ := hq
          have rv := (arg_rep h2 hs h4).cells
          have hl := rv.length
          have hcl := hr.length
          simp at hl hcl
          have hfold := fold_set off (a.eval x).cells.toList 0 cells (by simp; omega)
          simp only [Nat.add_zero] at hfold
          have e2 : ((a.eval x).cells.zipIdx.foldl (fun cs p => cs.setIfInBounds (off + p.2) p.1) cells).toList = cells.toList.take off ++ (a.eval x).cells.toList ++ cells.toList.drop (off + (a.eval x).cells.toList.length) := by
            rw [← hfold, ← Array.foldl_toList, Array.toList_zipIdx]
          have hr2 : RepL ι S w (putSeg cs off v.cells) ((a.eval x).cells.zipIdx.foldl (fun cs p => cs.setIfInBounds (off + p.2) p.1) cells).toList := by
            rw [e2]
            have := rv.length
            unfold putSeg
            rw [this]
            exact ((hr.take off).append rv).append (hr.drop _)
          obtain ⟨out, g1, g2, g3⟩ := fillA_run h3 hs h5 hr2 (putSeg_one ho (one_all q3)) hf
          refine ⟨out, ?_, g2, g3⟩
          simp only [List.map_cons, Instr.fill, h1]
          rw [if_neg (by simp; omega)]
          exact g1
        · simp at hf
      · simp at hp
    · simp at hc

theorem fieldPlaces_get : ∀ {fs : List Field} {pl : List (Nat × Nat)}, fieldPlaces P fs = some pl → ∀ w, (fs.mapM (m := Sem) fun f => do pure (f.offset, ← sizeOf f.type)).run P w = .ok pl w
  | [], pl, h, w => by
    simp [fieldPlaces] at h
    subst h
    rfl
  | f :: r, pl, h, w => by
    unfold fieldPlaces at h
    split at h
    · rename_i n l h1 h2
      simp at h
      subst h
      have ih := fieldPlaces_get h2 w
      rw [List.mapM_cons]
      simp only [Sem.run_bind, run_sizeOf_some h1, Result.andThen_ok, ih, Sem.run_pure]
    · simp at h

theorem run_build_struct {t : TypeId} {parts : Array (Nat × Value)} {fs : Array Field} {pl : List (Nat × Nat)} {i : TypeInfo} {u : Value} {out : Array Value} (h1 : P.info? t = some i) (h2 : i.zero = some u) (ht : P.underlying t = some (.struct fs)) (hpl : fieldPlaces P fs.toList = some pl)
    (hf : Instr.fill (fun i => pl[i]?) u.cells parts.toList = some out) : (Instr.build t parts).run P w = .ok (.agg out) w := by
  have hm2 : (fs.mapM (m := Sem) fun f => do pure (f.offset, ← sizeOf f.type)).run P w = .ok pl.toArray w := by
    rw [Array.mapM_eq_mapM_toList, Sem.run_map, fieldPlaces_get hpl w]
    rfl
  have e : (fun (x : Nat) => pl.toArray[x]?) = (fun (i : Nat) => pl[i]?) := by funext x; simp
  unfold Instr.build
  simp only [Sem.run_bind, run_zeroValue_some h1 h2, Result.andThen_ok, run_underlying ht]
  rw [hm2]
  simp only [Result.andThen_ok, e, hf, Sem.run_pure]
theorem run_build_array {t e : TypeId} {n k : Nat} {parts : Array (Nat × Value)} {i : TypeInfo} {u : Value} {out : Array Value} (h1 : P.info? t = some i) (h2 : i.zero = some u) (ht : P.underlying t = some (.array k e)) (hn : szOf P e = some n)
    (hf : Instr.fill (fun i => some (i * n, n)) u.cells parts.toList = some out) : (Instr.build t parts).run P w = .ok (.agg out) w := by
  unfold Instr.build
  simp only [Sem.run_bind, run_zeroValue_some h1 h2, Result.andThen_ok, run_underlying ht, run_sizeOf_some hn, hf, Sem.run_pure]
theorem ok_build_struct {t : TypeId} {parts : Array (Nat × Operand)} {fs : Array Field} {z : List AVal} {pl : List (Nat × Nat)} {aps : List (Nat × Nat × Arg)} (ho : o.op = .build t parts) (hz : zeroOf P t = some z) (ht : P.underlying t = some (.struct fs)) (hpl : fieldPlaces P fs.toList = some pl)
    (hc : compParts (fun i => pl[i]?) parts.toList = some aps) (hv : opVal s m (.build z aps) = some (v, m')) (hs : SRel ι S w s.get a.tmps) (hm : MRel ι S m.heap.get w) : OpOk P ι S w a m o v m' := by
  simp only [opVal] at hv
  split at hv
  · rename_i ps hps
    simp only [Option.map_eq_some_iff, Prod.mk.injEq] at hv
    obtain ⟨cs, hcs, rfl, rfl⟩ := hv
    obtain ⟨i, u, h1, h2, h3, h4⟩ := zeroOf_some hz
    obtain ⟨out, g1, g2, g3⟩ := fillA_run hc hs hps (h3 ι S w) h4 hcs
    refine OpOk.value (u := .agg out) ?_ hm (rep_agg_mk g2)
    have := run_build_struct (P := P) (w := w) (parts := parts.map fun (i, x) => (i, a.eval x)) h1 h2 ht hpl (by rw [Array.toList_map]; exact g1)
    simp only [execOp, ho, Sem.run_bind]
    rw [this]
    rfl
  · simp at hv

theorem ok_build_array {t e : TypeId} {n k : Nat} {parts : Array (Nat × Operand)} {z : List AVal} {aps : List (Nat × Nat × Arg)} (ho : o.op = .build t parts) (hz : zeroOf P t = some z) (ht : P.underlying t = some (.array k e)) (hn : szOf P e = some n)
    (hc : compParts (fun i => some (i * n, n)) parts.toList = some aps) (hv : opVal s m (.build z aps) = some (v, m')) (hs : SRel ι S w s.get a.tmps) (hm : MRel ι S m.heap.get w) : OpOk P ι S w a m o v m' := by
  simp only [opVal] at hv
  split at hv
  · rename_i ps hps
    simp only [Option.map_eq_some_iff, Prod.mk.injEq] at hv
    obtain ⟨cs, hcs, rfl, rfl⟩ := hv
    obtain ⟨i, u, h1, h2, h3, h4⟩ := zeroOf_some hz
    obtain ⟨out, g1, g2, g3⟩ := fillA_run hc hs hps (h3 ι S w) h4 hcs
    refine OpOk.value (u := .agg out) ?_ hm (rep_agg_mk g2)
    have := run_build_array (P := P) (w := w) (parts := parts.map fun (i, x) => (i, a.eval x)) h1 h2 ht hn (by rw [Array.toList_map]; exact g1)
    simp only [execOp, ho, Sem.run_bind]
    rw [this]
    rfl
  · simp at hv
end
end Go.Am
