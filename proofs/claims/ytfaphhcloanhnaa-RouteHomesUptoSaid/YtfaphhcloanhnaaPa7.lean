/- Parts of the proof, joined by program: AmDro. -/
import Derived.Test.YtfaphhcloanhnaaPa6
set_option linter.unusedSimpArgs false
set_option linter.unusedVariables false
namespace Go.Am

/-- What of an effect is looked at. -/
def Eff.fp (e : Eff) : Eff := { e with v := .tup [], low := 0, sub := .nil }
theorem allApart_fp : ∀ (es : List Eff) (j : Nat) (pre : List (Nat × Eff)) (i : Nat) (e : Eff) (done : List (Nat × Eff)), allApart j (pre ++ (i, e) :: done) es = allApart j (pre ++ (i, e.fp) :: done) es
  | [], j, pre, i, e, done => rfl
  | a :: es, j, pre, i, e, done => by
    unfold allApart
    have h1 : ∀ pre : List (Nat × Eff), apartFrom a (pre ++ (i, e) :: done) = apartFrom a (pre ++ (i, e.fp) :: done) := by
      intro pre
      induction pre with
      | nil => rfl
      | cons p pre ih => simp only [List.cons_append, apartFrom, ih]
    rw [h1, ← List.cons_append, ← List.cons_append, allApart_fp es (j + 1) ((j, a) :: pre) i e done]
theorem apartFrom_fp (e : Eff) : ∀ done, apartFrom e done = apartFrom e.fp done
  | [] => rfl
  | (i, a) :: r => by
    unfold apartFrom
    rw [apartFrom_fp e r]
    rfl

/-- Names apart, and given out. -/
def Fresh (L : Hp) (nx : Nat) : Prop := (L.map (·.1)).Nodup ∧ ∀ p ∈ L, p.1 < nx
structure DrO (E : Env) (j : Nat) (done : List (Nat × Eff)) (l : List AO) (t : Tr AVal) (L : Hp) (nx : Nat) (K : Tr AVal → Hp → Prop) : Prop where
  ex : ∀ m, Ows m L → m.next = nx → ∃ n s' es, drawOs (callF E n) l ⟨t, m⟩ = some (s', es) ∧ allApart j done es = true ∧ ∃ L', Ows s'.mem L' ∧ K s'.slots L'
section
variable {E : Env} {t : Tr AVal} {L : Hp} {K : Tr AVal → Hp → Prop} {l : List AO} {j nx : Nat} {done : List (Nat × Eff)}
theorem wo_drawn {Q : Ex → Tr AVal → Hp → Prop} (hs : still E l = false) (h : ∀ nx, DrO E 0 [] l t L nx (Q .normal)) : WpO E (.reg l true) t L Q := ⟨fun m hm => by
  obtain ⟨n, s', es, h1, h2, L', h3, h4⟩ := (h m.next).ex m hm rfl
  refine ⟨n + 1, .normal, s', ?_, L', h3, h4⟩
  rw [run, hs]
  simp only [Bool.not_false, Bool.and_self, if_true, drawn, h1, h2]⟩
theorem dro_nil (h : K t L) : DrO E j done [] t L nx K := ⟨fun m hm hn => ⟨0, ⟨t, m⟩, [], rfl, rfl, L, hm, h⟩⟩
theorem DrO.weak {A : Hp} (h : DrO E j done l t A nx K) (hs : Sub A L) : DrO E j done l t L nx K := ⟨fun m hm hn => h.ex m (hm.sub hs) hn⟩
/-- One operation: its effect's print F. -/
theorem dro_cons {o : AO} {F : Eff} {t1 : Tr AVal} {L1 : Hp} {nx1 : Nat} (ha : Fresh L nx → apartFrom F done = true)
    (he : ∀ m, Ows m L → m.next = nx → ∃ e, (∀ cf, effO cf o ⟨t, m⟩ = some e) ∧ e.fp = F ∧ Ows (e.app ⟨t, m⟩).mem L1 ∧ (e.app ⟨t, m⟩).slots = t1 ∧ (e.app ⟨t, m⟩).mem.next = nx1)
    (h : DrO E (j + 1) ((j, F) :: done) l t1 L1 nx1 K) : DrO E j done (o :: l) t L nx K := ⟨fun m hm hn => by
  obtain ⟨e, h1, h2, h3, h4, h5⟩ := he m hm hn
  obtain ⟨n, s', es, h6, h7, h8⟩ := h.ex (e.app ⟨t, m⟩).mem h3 h5
  refine ⟨n, s', e :: es, ?_, ?_, h8⟩
  · rw [drawOs, h1]
    have : e.app ⟨t, m⟩ = ⟨t1, (e.app ⟨t, m⟩).mem⟩ := by rw [← h4]
    simp only
    rw [this, h6]
  · unfold allApart
    rw [apartFrom_fp, h2, ha ⟨hm.nd, fun p hp => by have := hm.lt hp; omega⟩]
    have := allApart_fp es (j + 1) [] j e done
    simp only [List.nil_append] at this
    rw [this, h2, h7]
    rfl⟩

def fpOf (o : AO) (ids : List Nat) (wr : Bool) (lo hi : Nat) : Eff := ⟨o.dst, .tup [], slotsOf o, ids, wr, lo, hi, 0, .nil, o.after, false, false⟩

/-- No box is come to. -/
theorem dro_pure {o : AO} {v : AVal} (hg : o.guard = none) (hi : idsOf (restrict t (slotsOf o)) .nil o.op = some []) (hi' : ∀ (u : Tr AVal) (h : Tr Box), idsOf u h o.op = idsOf u .nil o.op) (hc : ∀ f asq, o.op ≠ .call f asq)
    (hv : ∀ m0, OpV (restrict t (slotsOf o)) m0 o.op v m0) (ha : Fresh L nx → apartFrom (fpOf o [] false nx nx) done = true) (h : DrO E (j + 1) ((j, fpOf o [] false nx nx) :: done) l (setDst t o.dst v) L nx K) : DrO E j done (o :: l) t L nx K := by
  refine dro_cons ha (fun m hm hn => ?_) h
  refine ⟨⟨o.dst, v, slotsOf o, [], decide (m.next < m.next), m.next, m.next, m.next, .nil, o.after, false, false⟩, fun cf => ?_, ?_, ?_, rfl, ?_⟩
  · unfold effO
    simp only [hg, wantedA, hi', hi, List.all_nil, if_true]
    have : stepVal cf (restrict t (slotsOf o)) ⟨restrict m.heap [], m.next, m.next⟩ o.op = some (v, ⟨restrict m.heap [], m.next, m.next⟩) := by
      unfold stepVal
      split
      · rename_i f asq heq
        exact absurd heq (hc _ _)
      · exact (hv _).ex
    rw [this]
    rfl
  · simp [Eff.fp, fpOf, hn]
  · refine hm.same fun id cs hc => ?_
    simpa [Eff.app, mergeNew, Mem.cells] using hc
  · simp [Eff.app, hn]

theorem dro_p {d a : Nat} {op : AOp} {v : AVal} (hi : idsOf (restrict t (slotsOf ⟨some d, op, none, a⟩)) .nil op = some []) (hi' : ∀ (u : Tr AVal) (h : Tr Box), idsOf u h op = idsOf u .nil op) (hc : ∀ f asq, op ≠ .call f asq)
    (hv : ∀ m0, OpV (restrict t (slotsOf ⟨some d, op, none, a⟩)) m0 op v m0) (ha : Fresh L nx → apartFrom (fpOf ⟨some d, op, none, a⟩ [] false nx nx) done = true) (h : DrO E (j + 1) ((j, fpOf ⟨some d, op, none, a⟩ [] false nx nx) :: done) l (t.set d (some v)) L nx K) : DrO E j done (⟨some d, op, none, a⟩ :: l) t L nx K :=
  dro_pure (o := ⟨some d, op, none, a⟩) rfl hi hi' hc hv ha h
theorem restrict_at {α : Type} (h : Tr α) : ∀ (ids : List Nat) (i : Nat), (restrict h ids).get i = if ids.contains i then h.get i else none
  | [], i => by simp [restrict, Tr.get_nil]
  | a :: r, i => by
    rw [restrict, Tr.get_set, restrict_at h r i]
    by_cases e : i = a
    · subst e; simp
    · rw [if_neg e]
      have : (a :: r).contains i = r.contains i := by simp [e]
      rw [this]
theorem restrict_cells {m : Mem} {ids : List Nat} {id : Nat} {cs : List AVal} (h : m.cells id = some cs) (hi : ids.contains id = true) : (⟨restrict m.heap ids, m.next, m.next⟩ : Mem).cells id = some cs := by
  unfold Mem.cells at h ⊢
  simp only [restrict_at, hi, if_true]
  exact h

theorem dro_load {d a id off : Nat} {x : Arg} {cs : List AVal} {v : AVal} (hx : x.get (restrict t (slotsOf ⟨some d, .load false 1 x, none, a⟩)) = some (.ptr id off)) (hin : In id cs L) (hv : cs[off]? = some v)
    (ha : Fresh L nx → apartFrom (fpOf ⟨some d, .load false 1 x, none, a⟩ [id] false nx nx) done = true) (h : DrO E (j + 1) ((j, fpOf ⟨some d, .load false 1 x, none, a⟩ [id] false nx nx) :: done) l (t.set d (some v)) L nx K) : DrO E j done (⟨some d, .load false 1 x, none, a⟩ :: l) t L nx K := by
  refine dro_cons ha (fun m hm hn => ?_) h
  have hcs := hm.get hin
  have hlt := cells_next hcs
  refine ⟨⟨some d, v, slotsOf ⟨some d, .load false 1 x, none, a⟩, [id], decide (m.next < m.next), m.next, m.next, m.next, restrict m.heap [id], a, false, false⟩, fun cf => ?_, ?_, ?_, rfl, ?_⟩
  · unfold effO
    simp only [wantedA, idsOf, hx, Option.map_some, AVal.id?, List.all_cons, List.all_nil, Bool.and_true, decide_eq_true hlt, if_true]
    have : stepVal cf (restrict t (slotsOf ⟨some d, .load false 1 x, none, a⟩)) ⟨restrict m.heap [id], m.next, m.next⟩ (.load false 1 x) = some (v, ⟨restrict m.heap [id], m.next, m.next⟩) := (op_load hx (restrict_cells hcs (by simp)) hv).ex
    rw [this]
  · simp [Eff.fp, fpOf, hn]
  · refine hm.same fun i c hc => ?_
    simpa [Eff.app, mergeNew, Mem.cells] using hc
  · simp [Eff.app, hn]

theorem dro_buildSlice {d a len esz : Nat} {zero : List AVal} {ps : List (Nat × Nat × Arg)} {qs : List (Nat × Nat × AVal)} {cs : List AVal} (hp : argParts (restrict t (slotsOf ⟨some d, .buildSlice esz len zero ps, none, a⟩)) ps = some qs) (hf : fillA zero qs = some cs)
    (ha : Fresh L nx → apartFrom (fpOf ⟨some d, .buildSlice esz len zero ps, none, a⟩ [] false nx (nx + 1)) done = true) (h : DrO E (j + 1) ((j, fpOf ⟨some d, .buildSlice esz len zero ps, none, a⟩ [] false nx (nx + 1)) :: done) l (t.set d (some (.sl nx 0 len esz (some len)))) ((nx, cs) :: L) (nx + 1) K) : DrO E j done (⟨some d, .buildSlice esz len zero ps, none, a⟩ :: l) t L nx K := by
  refine dro_cons ha (fun m hm hn => ?_) h
  refine ⟨⟨some d, .sl m.next 0 len esz (some len), slotsOf ⟨some d, .buildSlice esz len zero ps, none, a⟩, [], decide (m.next < m.next), m.next, m.next + 1, m.next, (⟨Tr.nil, m.next, m.next⟩ : Mem).new (.cells cs) |>.heap, a, false, false⟩, fun cf => ?_, ?_, ?_, ?_, ?_⟩
  · unfold effO
    simp only [wantedA, idsOf, List.all_nil, if_true]
    have : stepVal cf (restrict t (slotsOf ⟨some d, .buildSlice esz len zero ps, none, a⟩)) ⟨restrict m.heap [], m.next, m.next⟩ (.buildSlice esz len zero ps) = some (.sl m.next 0 len esz (some len), (⟨restrict m.heap [], m.next, m.next⟩ : Mem).new (.cells cs)) := (op_buildSlice hp hf).ex
    rw [this]
    rfl
  · simp [Eff.fp, fpOf, hn]
  · subst hn
    refine Ows.same (Ows.new (cs := cs) hm) fun i c hc => ?_
    simpa [Eff.app, mergeNew, Mem.cells, Mem.new, Tr.get_set] using hc
  · simp [Eff.app, setDst, hn]
  · simp [Eff.app, hn]

theorem dro_store {a id off : Nat} {x y : Arg} {cs cs' : List AVal} {L' : Hp} {v : AVal} (hx : x.get (restrict t (slotsOf ⟨none, .store 1 x y, none, a⟩)) = some (.ptr id off)) (hy : y.get (restrict t (slotsOf ⟨none, .store 1 x y, none, a⟩)) = some v) (h1 : v.one = true) (hu : Upd id cs cs' L L') (hl : off < cs.length) (hs : cs.set off v = cs')
    (ha : Fresh L nx → apartFrom (fpOf ⟨none, .store 1 x y, none, a⟩ [id] true nx nx) done = true) (h : DrO E (j + 1) ((j, fpOf ⟨none, .store 1 x y, none, a⟩ [id] true nx nx) :: done) l t L' nx K) : DrO E j done (⟨none, .store 1 x y, none, a⟩ :: l) t L nx K := by
  refine dro_cons ha (fun m hm hn => ?_) h
  have hcs := hm.get hu.in_
  have hlt := cells_next hcs
  subst hs
  refine ⟨⟨none, .tup [], slotsOf ⟨none, .store 1 x y, none, a⟩, [id], decide (min m.next id < m.next), m.next, m.next, min m.next id, (restrict m.heap [id]).set id (some (.cells (cs.set off v))), a, false, false⟩, fun cf => ?_, ?_, ?_, rfl, ?_⟩
  · unfold effO
    simp only [wantedA, idsOf, hx, Option.map_some, AVal.id?, List.all_cons, List.all_nil, Bool.and_true, decide_eq_true hlt, if_true]
    have : stepVal cf (restrict t (slotsOf ⟨none, .store 1 x y, none, a⟩)) ⟨restrict m.heap [id], m.next, m.next⟩ (.store 1 x y) = some (.tup [], (⟨restrict m.heap [id], m.next, m.next⟩ : Mem).put id (some (.cells (cs.set off v)))) := (op_store hx hy h1 (restrict_cells hcs (by simp)) hl).ex
    rw [this]
    rfl
  · simp [Eff.fp, fpOf, hn]; omega
  · have hwr : decide (min m.next id < m.next) = true := by simp; omega
    refine Ows.same (hm.upd hu) fun i c hc => ?_
    simp only [Eff.app, hwr, if_true, mergeIds, mergeNew, Nat.sub_self]
    simp only [Mem.put, Mem.cells, Tr.get_set, if_true] at hc ⊢
    exact hc
  · simp [Eff.app, hn]

theorem dro_push {d a esz bytes jj k : Nat} {x y : Arg} {v : AVal} {cs nw : List AVal} {B L' : Hp} (hx : x.get (restrict t (slotsOf ⟨some d, .append esz bytes x y, none, a⟩)) = some v) (hb : BufO esz v cs k B) (hy : y.get (restrict t (slotsOf ⟨some d, .append esz bytes x y, none, a⟩)) = some (.sl jj 0 1 esz (some 1))) (hr : Rem B L L') (hj : In jj nw L') (hl : nw.length = esz) (h1 : nw.all AVal.one = true) (hr1 : (k + 1) * bytes ≤ 140737488355328) (hr2 : k + 1 ≤ 140737488355328)
    (ha : Fresh L nx → apartFrom (fpOf ⟨some d, .append esz bytes x y, none, a⟩ (B.map (·.1) ++ [jj]) (!B.isEmpty) nx (nx + 1)) done = true) (h : DrO E (j + 1) ((j, fpOf ⟨some d, .append esz bytes x y, none, a⟩ (B.map (·.1) ++ [jj]) (!B.isEmpty) nx (nx + 1)) :: done) l (t.set d (some (.sl nx 0 (k + 1) esz none))) ((nx, cs ++ nw) :: L') (nx + 1) K) : DrO E j done (⟨some d, .append esz bytes x y, none, a⟩ :: l) t L nx K := by
  refine dro_cons ha (fun m hm hn => ?_) h
  have hm' := hm.perm hr.perm
  have hjc := hm'.right.get hj
  have hlt := cells_next hjc
  cases hb with
  | nil =>
    have hsc : sliceCells ⟨restrict m.heap [jj], m.next, m.next⟩ esz 1 (.sl jj 0 1 esz (some 1)) = some nw := by simp only [sliceCells, if_true, restrict_cells hjc (ids := [jj]) (by simp)]; exact seg_full (by omega)
    refine ⟨⟨some d, .sl m.next 0 (0 + 1) esz none, slotsOf ⟨some d, .append esz bytes x y, none, a⟩, [jj], decide (m.next < m.next), m.next, m.next + 1, m.next, (restrict m.heap [jj]).set m.next (some (.cells ([] ++ nw))), a, false, false⟩, fun cf => ?_, ?_, ?_, ?_, ?_⟩
    · unfold effO
      simp only [wantedA, idsOf, hx, hy, anil, AVal.id?, List.nil_append, List.all_cons, List.all_nil, Bool.and_true, decide_eq_true hlt, if_true]
      have : stepVal cf (restrict t (slotsOf ⟨some d, .append esz bytes x y, none, a⟩)) ⟨restrict m.heap [jj], m.next, m.next⟩ (.append esz bytes x y) = some (.sl m.next 0 (0 + 1) esz none, (⟨restrict m.heap [jj], m.next, m.next⟩ : Mem).new (.cells ([] ++ nw))) := (op_append hx hy .nil rfl hsc (by omega) hr1 hr2 h1 rfl).ex
      rw [this]
      rfl
    · simp [Eff.fp, fpOf, hn]
    · subst hn
      refine Ows.same (Ows.new (cs := [] ++ nw) hm') fun i c hc => ?_
      simpa [Eff.app, mergeNew, Mem.cells, Mem.new, Tr.get_set] using hc
    · simp [Eff.app, setDst, hn]
    · simp [Eff.app, hn]
  | @box id _ _ hl' h1' =>
    have hic := hm'.get In.here
    have hlt2 := cells_next hic
    have hne : jj ≠ id := by
      have hnd := hm'.nd
      simp only [List.singleton_append, List.map_cons, List.nodup_cons, List.mem_map, not_exists, not_and] at hnd
      exact fun e => hnd.1 _ hj.mem e
    have hsc : sliceCells ⟨restrict m.heap [id, jj], m.next, m.next⟩ esz 1 (.sl jj 0 1 esz (some 1)) = some nw := by simp only [sliceCells, if_true, restrict_cells hjc (ids := [id, jj]) (by simp)]; exact seg_full (by omega)
    have hic' : (⟨restrict m.heap [id, jj], m.next, m.next⟩ : Mem).cells id = some cs := restrict_cells hic (by simp)
    refine ⟨⟨some d, .sl m.next 0 (k + 1) esz none, slotsOf ⟨some d, .append esz bytes x y, none, a⟩, [id, jj], decide (min m.next id < m.next), m.next, m.next + 1, min m.next id, ((restrict m.heap [id, jj]).set id none).set m.next (some (.cells (cs ++ nw))), a, false, false⟩, fun cf => ?_, ?_, ?_, ?_, ?_⟩
    · unfold effO
      simp only [wantedA, idsOf, hx, hy, AVal.id?, List.cons_append, List.nil_append, List.all_cons, List.all_nil, Bool.and_true, decide_eq_true hlt, decide_eq_true hlt2, if_true]
      have : stepVal cf (restrict t (slotsOf ⟨some d, .append esz bytes x y, none, a⟩)) ⟨restrict m.heap [id, jj], m.next, m.next⟩ (.append esz bytes x y) = some (.sl m.next 0 (k + 1) esz none, ((⟨restrict m.heap [id, jj], m.next, m.next⟩ : Mem).put id none).new (.cells (cs ++ nw))) := (op_append hx hy (.room hic' (seg_full hl') (by omega)) rfl hsc (by omega) hr1 hr2 h1 h1').ex
      rw [this]
      rfl
    · simp [Eff.fp, fpOf, hn]; omega
    · subst hn
      have hwr : decide (min m.next id < m.next) = true := by simp; omega
      refine Ows.same (Ows.new (m := m.put id none) (cs := cs ++ nw) (Ows.drop hm')) fun i c hc => ?_
      have hjn : m.next ≠ id := by omega
      have hjn2 : jj ≠ m.next := by omega
      simp only [Eff.app, hwr, if_true, mergeIds, mergeNew, Nat.add_sub_cancel_left, Nat.add_zero]
      simp only [Mem.put, Mem.new, Mem.cells, Tr.get_set] at hc ⊢
      split at hc
      · rename_i hi
        rw [if_pos hi]
        by_cases e1 : i = m.next
        · simp only [e1, if_true] at hc ⊢
          exact hc
        · simp only [e1, if_false] at hc ⊢
          by_cases e2 : i = id
          · simp [e2] at hc
          · simp only [e2, if_false] at hc ⊢
            by_cases e3 : i = jj
            · subst e3
              simp only [if_true, hjn2, if_false, hne]
              rw [restrict_at]
              simpa using hc
            · simp only [e3, if_false]
              exact hc
      · simp at hc
    · simp [Eff.app, setDst, hn]
    · simp [Eff.app, hn]
end
section
variable {t : Tr AVal}
theorem rarg {o : AO} {x : Arg} (h : x ∈ o.op.args) : x.get (restrict t (slotsOf o)) = x.get t := by
  cases x with
  | k v => rfl
  | t i =>
    show (restrict t (slotsOf o)).get i = t.get i
    rw [restrict_at, if_pos]
    simp only [List.contains_eq_mem, decide_eq_true_eq, slotsOf, List.mem_append, List.mem_flatMap]
    exact .inr ⟨_, h, by simp [Arg.slots]⟩
theorem apart_nil {e : Eff} : apartFrom e [] = true := rfl
theorem apart_bit {o : AO} {ids : List Nat} {wr : Bool} {lo hi i : Nat} {a : Eff} {r : List (Nat × Eff)} (h : o.after.testBit i = true) (hr : apartFrom (fpOf o ids wr lo hi) r = true) : apartFrom (fpOf o ids wr lo hi) ((i, a) :: r) = true := by
  unfold apartFrom
  rw [hr, show (fpOf o ids wr lo hi).after = o.after from rfl, h]
  rfl
/-- Neither looks at the slot that the other fills. -/
def slotsApart (a b : AO) : Bool := !meets (fpOf a [] false 0 0) (fpOf b [] false 0 0)
theorem apart_not {o1 o : AO} {ids1 ids : List Nat} {wr1 wr : Bool} {lo1 hi1 lo hi i : Nat} {r : List (Nat × Eff)} (h1 : slotsApart o1 o = true) (h2 : ((wr1 || wr) && ids1.any ids.contains) = false) (h3 : (ids.any fun id => decide (lo1 ≤ id) && decide (id < hi1)) = false) (hr : apartFrom (fpOf o ids wr lo hi) r = true) : apartFrom (fpOf o ids wr lo hi) ((i, fpOf o1 ids1 wr1 lo1 hi1) :: r) = true := by
  unfold apartFrom
  rw [hr]
  have hm : meets (fpOf o1 ids1 wr1 lo1 hi1) (fpOf o ids wr lo hi) = false := by
    unfold slotsApart at h1
    simp only [meets, fpOf, Bool.not_eq_true', Bool.or_eq_false_iff, Bool.false_or, Bool.false_and, List.any_nil, and_true] at h1 ⊢
    exact ⟨⟨h1, h2⟩, h3⟩
  rw [hm]; exact by simp
theorem any_none (ids : List Nat) (n : Nat) : (ids.any fun id => decide (n ≤ id) && decide (id < n)) = false := by
  rw [List.any_eq_false]
  intro x hx
  simp
end
end Go.Am
