/- Parts of the proof, joined by program: AmDro, AmTac, RtEnv. -/
import Derived.Test.YtmflheoafeenfaaGreatPa7
import Derived.Test.YtmflheoafeenfaaGreatPa5
set_option linter.unusedSimpArgs false
set_option linter.unusedVariables false
namespace Go.Am

/-- What of an effect is looked at. -/
def Eff.fp (e : Eff) : Eff := { e with v := .tup [], low := 0, sub := .nil }
theorem allApart_fp : ∀ (es : List Eff) (j : Nat) (pre : List (Nat × Eff)) (i : Nat) (e : Eff) (done : List (Nat × Eff)), allApart j (pre ++ (i, e) :: done) es = allApart j (pre ++ (i, e.fp) :: done) es
  | [], j, pre, i, e, done => rfl
  | a :: es, j, pre, i, e, done => by
    unfold allApart
    have h1 : ∀ pre : List (Nat × Eff), apartFrom a (pre ++ (i, e) :: done) = apartFrom a (pre ++ (i, e.fp) :: done) := by
      intro pre
      induction pre with
      | nil => rfl
      | cons p pre ih => simp only [List.cons_append, apartFrom, ih]
    rw [h1, ← List.cons_append, ← List.cons_append, allApart_fp es (j + 1) ((j, a) :: pre) i e done]
theorem apartFrom_fp (e : Eff) : ∀ done, apartFrom e done = apartFrom e.fp done
  | [] => rfl
  | (i, a) :: r => by
    unfold apartFrom
    rw [apartFrom_fp e r]
    rfl

/-- Names apart, and given out. -/
def Fresh (L : Hp) (nx : Nat) : Prop := (L.map (·.1)).Nodup ∧ ∀ p ∈ L, p.1 < nx
structure DrO (E : Env) (j : Nat) (done : List (Nat × Eff)) (l : List AO) (t : Tr AVal) (L : Hp) (nx : Nat) (K : Tr AVal → Hp → Prop) : Prop where
  ex : ∀ m, Ows m L → m.next = nx → ∃ n s' es, drawOs (callF E n) l ⟨t, m⟩ = some (s', es) ∧ allApart j done es = true ∧ ∃ L', Ows s'.mem L' ∧ K s'.slots L'
section
variable {E : Env} {t : Tr AVal} {L : Hp} {K : Tr AVal → Hp → Prop} {l : List AO} {j nx : Nat} {done : List (Nat × Eff)}
theorem wo_drawn {Q : Ex → Tr AVal → Hp → Prop} (hs : still E l = false) (h : ∀ nx, DrO E 0 [] l t L nx (Q .normal)) : WpO E (.reg l true) t L Q := ⟨fun m hm => by
  obtain ⟨n, s', es, h1, h2, L', h3, h4⟩ := (h m.next).ex m hm rfl
  refine ⟨n + 1, .normal, s', ?_, L', h3, h4⟩
  rw [run, hs]
  simp only [Bool.not_false, Bool.and_self, if_true, drawn, h1, h2]⟩
theorem dro_nil (h : K t L) : DrO E j done [] t L nx K := ⟨fun m hm hn => ⟨0, ⟨t, m⟩, [], rfl, rfl, L, hm, h⟩⟩
theorem DrO.weak {A : Hp} (h : DrO E j done l t A nx K) (hs : Sub A L) : DrO E j done l t L nx K := ⟨fun m hm hn => h.ex m (hm.sub hs) hn⟩
/-- One operation: its effect's print F. -/
theorem dro_cons {o : AO} {F : Eff} {t1 : Tr AVal} {L1 : Hp} {nx1 : Nat} (ha : Fresh L nx → apartFrom F done = true)
    (he : ∀ m, Ows m L → m.next = nx → ∃ e, (∀ cf, effO cf o ⟨t, m⟩ = some e) ∧ e.fp = F ∧ Ows (e.app ⟨t, m⟩).mem L1 ∧ (e.app ⟨t, m⟩).slots = t1 ∧ (e.app ⟨t, m⟩).mem.next = nx1)
    (h : DrO E (j + 1) ((j, F) :: done) l t1 L1 nx1 K) : DrO E j done (o :: l) t L nx K := ⟨fun m hm hn => by
  obtain ⟨e, h1, h2, h3, h4, h5⟩ := he m hm hn
  obtain ⟨n, s', es, h6, h7, h8⟩ := h.ex (e.app ⟨t, m⟩).mem h3 h5
  refine ⟨n, s', e :: es, ?_, ?_, h8⟩
  · rw [drawOs, h1]
    have : e.app ⟨t, m⟩ = ⟨t1, (e.app ⟨t, m⟩).mem⟩ := by rw [← h4]
    simp only
    rw [this, h6]
  · unfold allApart
    rw [apartFrom_fp, h2, ha ⟨hm.nd, fun p hp => by have := hm.lt hp; omega⟩]
    have := allApart_fp es (j + 1) [] j e done
    simp only [List.nil_append] at this
    rw [this, h2, h7]
    rfl⟩

def fpOf (o : AO) (ids : List Nat) (wr : Bool) (lo hi : Nat) : Eff := ⟨o.dst, .tup [], slotsOf o, ids, wr, lo, hi, 0, .nil, o.after, false, false⟩

/-- No box is come to. -/
theorem dro_pure {o : AO} {v : AVal} (hg : o.guard = none) (hi : idsOf (restrict t (slotsOf o)) .nil o.op = some []) (hi' : ∀ (u : Tr AVal) (h : Tr Box), idsOf u h o.op = idsOf u .nil o.op) (hc : ∀ f asq, o.op ≠ .call f asq)
    (hv : ∀ m0, OpV (restrict t (slotsOf o)) m0 o.op v m0) (ha : Fresh L nx → apartFrom (fpOf o [] false nx nx) done = true) (h : DrO E (j + 1) ((j, fpOf o [] false nx nx) :: done) l (setDst t o.dst v) L nx K) : DrO E j done (o :: l) t L nx K := by
  refine dro_cons ha (fun m hm hn => ?_) h
  refine ⟨⟨o.dst, v, slotsOf o, [], decide (m.next < m.next), m.next, m.next, m.next, .nil, o.after, false, false⟩, fun cf => ?_, ?_, ?_, rfl, ?_⟩
  · unfold effO
    simp only [hg, wantedA, hi', hi, List.all_nil, if_true]
    have : stepVal cf (restrict t (slotsOf o)) ⟨restrict m.heap [], m.next, m.next⟩ o.op = some (v, ⟨restrict m.heap [], m.next, m.next⟩) := by
      unfold stepVal
      split
      · rename_i f asq heq
        exact absurd heq (hc _ _)
      · exact (hv _).ex
    rw [this]
    rfl
  · simp [Eff.fp, fpOf, hn]
  · refine hm.same fun id cs hc => ?_
    simpa [Eff.app, mergeNew, Mem.cells] using hc
  · simp [Eff.app, hn]

theorem dro_p {d a : Nat} {op : AOp} {v : AVal} (hi : idsOf (restrict t (slotsOf ⟨some d, op, none, a⟩)) .nil op = some []) (hi' : ∀ (u : Tr AVal) (h : Tr Box), idsOf u h op = idsOf u .nil op) (hc : ∀ f asq, op ≠ .call f asq)
    (hv : ∀ m0, OpV (restrict t (slotsOf ⟨some d, op, none, a⟩)) m0 op v m0) (ha : Fresh L nx → apartFrom (fpOf ⟨some d, op, none, a⟩ [] false nx nx) done = true) (h : DrO E (j + 1) ((j, fpOf ⟨some d, op, none, a⟩ [] false nx nx) :: done) l (t.set d (some v)) L nx K) : DrO E j done (⟨some d, op, none, a⟩ :: l) t L nx K :=
  dro_pure (o := ⟨some d, op, none, a⟩) rfl hi hi' hc hv ha h
theorem restrict_at {α : Type} (h : Tr α) : ∀ (ids : List Nat) (i : Nat), (restrict h ids).get i = if ids.contains i then h.get i else none
  | [], i => by simp [restrict, Tr.get_nil]
  | a :: r, i => by
    rw [restrict, Tr.get_set, restrict_at h r i]
    by_cases e : i = a
    · subst e; simp
    · rw [if_neg e]
      have : (a :: r).contains i = r.contains i := by simp [e]
      rw [this]
theorem restrict_cells {m : Mem} {ids : List Nat} {id : Nat} {cs : List AVal} (h : m.cells id = some cs) (hi : ids.contains id = true) : (⟨restrict m.heap ids, m.next, m.next⟩ : Mem).cells id = some cs := by
  unfold Mem.cells at h ⊢
  simp only [restrict_at, hi, if_true]
  exact h

theorem dro_load {d a id off : Nat} {x : Arg} {cs : List AVal} {v : AVal} (hx : x.get (restrict t (slotsOf ⟨some d, .load false 1 x, none, a⟩)) = some (.ptr id off)) (hin : In id cs L) (hv : cs[off]? = some v)
    (ha : Fresh L nx → apartFrom (fpOf ⟨some d, .load false 1 x, none, a⟩ [id] false nx nx) done = true) (h : DrO E (j + 1) ((j, fpOf ⟨some d, .load false 1 x, none, a⟩ [id] false nx nx) :: done) l (t.set d (some v)) L nx K) : DrO E j done (⟨some d, .load false 1 x, none, a⟩ :: l) t L nx K := by
  refine dro_cons ha (fun m hm hn => ?_) h
  have hcs := hm.get hin
  have hlt := cells_next hcs
  refine ⟨⟨some d, v, slotsOf ⟨some d, .load false 1 x, none, a⟩, [id], decide (m.next < m.next), m.next, m.next, m.next, restrict m.heap [id], a, false, false⟩, fun cf => ?_, ?_, ?_, rfl, ?_⟩
  · unfold effO
    simp only [wantedA, idsOf, hx, Option.map_some, AVal.id?, List.all_cons, List.all_nil, Bool.and_true, decide_eq_true hlt, if_true]
    have : stepVal cf (restrict t (slotsOf ⟨some d, .load false 1 x, none, a⟩)) ⟨restrict m.heap [id], m.next, m.next⟩ (.load false 1 x) = some (v, ⟨restrict m.heap [id], m.next, m.next⟩) := (op_load hx (restrict_cells hcs (by simp)) hv).ex
    rw [this]
  · simp [Eff.fp, fpOf, hn]
  · refine hm.same fun i c hc => ?_
    simpa [Eff.app, mergeNew, Mem.cells] using hc
  · simp [Eff.app, hn]

theorem dro_buildSlice {d a len esz : Nat} {zero : List AVal} {ps : List (Nat × Nat × Arg)} {qs : List (Nat × Nat × AVal)} {cs : List AVal} (hp : argParts (restrict t (slotsOf ⟨some d, .buildSlice esz len zero ps, none, a⟩)) ps = some qs) (hf : fillA zero qs = some cs)
    (ha : Fresh L nx → apartFrom (fpOf ⟨some d, .buildSlice esz len zero ps, none, a⟩ [] false nx (nx + 1)) done = true) (h : DrO E (j + 1) ((j, fpOf ⟨some d, .buildSlice esz len zero ps, none, a⟩ [] false nx (nx + 1)) :: done) l (t.set d (some (.sl nx 0 len esz (some len)))) ((nx, cs) :: L) (nx + 1) K) : DrO E j done (⟨some d, .buildSlice esz len zero ps, none, a⟩ :: l) t L nx K := by
  refine dro_cons ha (fun m hm hn => ?_) h
  refine ⟨⟨some d, .sl m.next 0 len esz (some len), slotsOf ⟨some d, .buildSlice esz len zero ps, none, a⟩, [], decide (m.next < m.next), m.next, m.next + 1, m.next, (⟨Tr.nil, m.next, m.next⟩ : Mem).new (.cells cs) |>.heap, a, false, false⟩, fun cf => ?_, ?_, ?_, ?_, ?_⟩
  · unfold effO
    simp only [wantedA, idsOf, List.all_nil, if_true]
    have : stepVal cf (restrict t (slotsOf ⟨some d, .buildSlice esz len zero ps, none, a⟩)) ⟨restrict m.heap [], m.next, m.next⟩ (.buildSlice esz len zero ps) = some (.sl m.next 0 len esz (some len), (⟨restrict m.heap [], m.next, m.next⟩ : Mem).new (.cells cs)) := (op_buildSlice hp hf).ex
    rw [this]
    rfl
  · simp [Eff.fp, fpOf, hn]
  · subst hn
    refine Ows.same (Ows.new (cs := cs) hm) fun i c hc => ?_
    simpa [Eff.app, mergeNew, Mem.cells, Mem.new, Tr.get_set] using hc
  · simp [Eff.app, setDst, hn]
  · simp [Eff.app, hn]

theorem dro_store {a id off : Nat} {x y : Arg} {cs cs' : List AVal} {L' : Hp} {v : AVal} (hx : x.get (restrict t (slotsOf ⟨none, .store 1 x y, none, a⟩)) = some (.ptr id off)) (hy : y.get (restrict t (slotsOf ⟨none, .store 1 x y, none, a⟩)) = some v) (h1 : v.one = true) (hu : Upd id cs cs' L L') (hl : off < cs.length) (hs : cs.set off v = cs')
    (ha : Fresh L nx → apartFrom (fpOf ⟨none, .store 1 x y, none, a⟩ [id] true nx nx) done = true) (h : DrO E (j + 1) ((j, fpOf ⟨none, .store 1 x y, none, a⟩ [id] true nx nx) :: done) l t L' nx K) : DrO E j done (⟨none, .store 1 x y, none, a⟩ :: l) t L nx K := by
  refine dro_cons ha (fun m hm hn => ?_) h
  have hcs := hm.get hu.in_
  have hlt := cells_next hcs
  subst hs
  refine ⟨⟨none, .tup [], slotsOf ⟨none, .store 1 x y, none, a⟩, [id], decide (min m.next id < m.next), m.next, m.next, min m.next id, (restrict m.heap [id]).set id (some (.cells (cs.set off v))), a, false, false⟩, fun cf => ?_, ?_, ?_, rfl, ?_⟩
  · unfold effO
    simp only [wantedA, idsOf, hx, Option.map_some, AVal.id?, List.all_cons, List.all_nil, Bool.and_true, decide_eq_true hlt, if_true]
    have : stepVal cf (restrict t (slotsOf ⟨none, .store 1 x y, none, a⟩)) ⟨restrict m.heap [id], m.next, m.next⟩ (.store 1 x y) = some (.tup [], (⟨restrict m.heap [id], m.next, m.next⟩ : Mem).put id (some (.cells (cs.set off v)))) := (op_store hx hy h1 (restrict_cells hcs (by simp)) hl).ex
    rw [this]
    rfl
  · simp [Eff.fp, fpOf, hn]; omega
  · have hwr : decide (min m.next id < m.next) = true := by simp; omega
    refine Ows.same (hm.upd hu) fun i c hc => ?_
    simp only [Eff.app, hwr, if_true, mergeIds, mergeNew, Nat.sub_self]
    simp only [Mem.put, Mem.cells, Tr.get_set, if_true] at hc ⊢
    exact hc
  · simp [Eff.app, hn]

end
section
variable {t : Tr AVal}
theorem rarg {o : AO} {x : Arg} (h : x ∈ o.op.args) : x.get (restrict t (slotsOf o)) = x.get t := by
  cases x with
  | k v => rfl
  | t i =>
    show (restrict t (slotsOf o)).get i = t.get i
    rw [restrict_at, if_pos]
    simp only [List.contains_eq_mem, decide_eq_true_eq, slotsOf, List.mem_append, List.mem_flatMap]
    exact .inr ⟨_, h, by simp [Arg.slots]⟩
theorem apart_nil {e : Eff} : apartFrom e [] = true := rfl
theorem apart_bit {o : AO} {ids : List Nat} {wr : Bool} {lo hi i : Nat} {a : Eff} {r : List (Nat × Eff)} (h : o.after.testBit i = true) (hr : apartFrom (fpOf o ids wr lo hi) r = true) : apartFrom (fpOf o ids wr lo hi) ((i, a) :: r) = true := by
  unfold apartFrom
  rw [hr, show (fpOf o ids wr lo hi).after = o.after from rfl, h]
  rfl
/-- Neither looks at the slot that the other fills. -/
def slotsApart (a b : AO) : Bool := !meets (fpOf a [] false 0 0) (fpOf b [] false 0 0)
theorem apart_not {o1 o : AO} {ids1 ids : List Nat} {wr1 wr : Bool} {lo1 hi1 lo hi i : Nat} {r : List (Nat × Eff)} (h1 : slotsApart o1 o = true) (h2 : ((wr1 || wr) && ids1.any ids.contains) = false) (h3 : (ids.any fun id => decide (lo1 ≤ id) && decide (id < hi1)) = false) (hr : apartFrom (fpOf o ids wr lo hi) r = true) : apartFrom (fpOf o ids wr lo hi) ((i, fpOf o1 ids1 wr1 lo1 hi1) :: r) = true := by
  unfold apartFrom
  rw [hr]
  have hm : meets (fpOf o1 ids1 wr1 lo1 hi1) (fpOf o ids wr lo hi) = false := by
    unfold slotsApart at h1
    simp only [meets, fpOf, Bool.not_eq_true', Bool.or_eq_false_iff, Bool.false_or, Bool.false_and, List.any_nil, and_true] at h1 ⊢
    exact ⟨⟨h1, h2⟩, h3⟩
  rw [hm]; exact by simp
theorem any_none (ids : List Nat) (n : Nat) : (ids.any fun id => decide (n ≤ id) && decide (id < n)) = false := by
  rw [List.any_eq_false]
  intro x hx
  simp
end
end Go.Am
namespace Go.Am
theorem slot_tr {t : Tr AVal} {i : Nat} {v : AVal} {o : Option AVal} (h : t.get i = some v) (h2 : some v = o) : t.get i = o := h.trans h2
theorem argt {t : Tr AVal} {i : Nat} {v : AVal} (h : t.get i = some v) : Arg.get t (.t i) = some v := h
theorem gss {t : Tr AVal} {n : Nat} {o u : Option AVal} (h : o = u) : (t.set n o).get n = u := (Tr.get_set_same t n _).trans h
theorem gsn {t : Tr AVal} {n m : Nat} {v : AVal} {w : Option AVal} (h : Nat.beq m n = false) (h2 : t.get m = some v) : (t.set n w).get m = some v := (Tr.get_set_ne t w (Nat.ne_of_beq_eq_false h)).trans h2
theorem gsn4 {t : Tr AVal} {m n0 n1 n2 n3 : Nat} {v : AVal} {w0 w1 w2 w3 : Option AVal} (h : (Nat.beq m n0 || Nat.beq m n1 || Nat.beq m n2 || Nat.beq m n3) = false) (h2 : t.get m = some v) : ((((t.set n0 w0).set n1 w1).set n2 w2).set n3 w3).get m = some v := (gsn (Bool.or_eq_false_iff.1 h).2 (gsn (Bool.or_eq_false_iff.1 (Bool.or_eq_false_iff.1 h).1).2 (gsn (Bool.or_eq_false_iff.1 (Bool.or_eq_false_iff.1 (Bool.or_eq_false_iff.1 h).1).1).2 (gsn (Bool.or_eq_false_iff.1 (Bool.or_eq_false_iff.1 (Bool.or_eq_false_iff.1 h).1).1).1 h2))))
theorem gsn16 {t : Tr AVal} {m n0 n1 n2 n3 n4 n5 n6 n7 n8 n9 n10 n11 n12 n13 n14 n15 : Nat} {v : AVal} {w0 w1 w2 w3 w4 w5 w6 w7 w8 w9 w10 w11 w12 w13 w14 w15 : Option AVal} (h : (Nat.beq m n0 || Nat.beq m n1 || Nat.beq m n2 || Nat.beq m n3 || Nat.beq m n4 || Nat.beq m n5 || Nat.beq m n6 || Nat.beq m n7 || Nat.beq m n8 || Nat.beq m n9 || Nat.beq m n10 || Nat.beq m n11 || Nat.beq m n12 || Nat.beq m n13 || Nat.beq m n14 || Nat.beq m n15) = false) (h2 : t.get m = some v) : ((((((((((((((((t.set n0 w0).set n1 w1).set n2 w2).set n3 w3).set n4 w4).set n5 w5).set n6 w6).set n7 w7).set n8 w8).set n9 w9).set n10 w10).set n11 w11).set n12 w12).set n13 w13).set n14 w14).set n15 w15).get m = some v := (gsn (Bool.or_eq_false_iff.1 h).2 (gsn (Bool.or_eq_false_iff.1 (Bool.or_eq_false_iff.1 h).1).2 (gsn (Bool.or_eq_false_iff.1 (Bool.or_eq_false_iff.1 (Bool.or_eq_false_iff.1 h).1).1).2 (gsn (Bool.or_eq_false_iff.1 (Bool.or_eq_false_iff.1 (Bool.or_eq_false_iff.1 (Bool.or_eq_false_iff.1 h).1).1).1).2 (gsn (Bool.or_eq_false_iff.1 (Bool.or_eq_false_iff.1 (Bool.or_eq_false_iff.1 (Bool.or_eq_false_iff.1 (Bool.or_eq_false_iff.1 h).1).1).1).1).2 (gsn (Bool.or_eq_false_iff.1 (Bool.or_eq_false_iff.1 (Bool.or_eq_false_iff.1 (Bool.or_eq_false_iff.1 (Bool.or_eq_false_iff.1 (Bool.or_eq_false_iff.1 h).1).1).1).1).1).2 (gsn (Bool.or_eq_false_iff.1 (Bool.or_eq_false_iff.1 (Bool.or_eq_false_iff.1 (Bool.or_eq_false_iff.1 (Bool.or_eq_false_iff.1 (Bool.or_eq_false_iff.1 (Bool.or_eq_false_iff.1 h).1).1).1).1).1).1).2 (gsn (Bool.or_eq_false_iff.1 (Bool.or_eq_false_iff.1 (Bool.or_eq_false_iff.1 (Bool.or_eq_false_iff.1 (Bool.or_eq_false_iff.1 (Bool.or_eq_false_iff.1 (Bool.or_eq_false_iff.1 (Bool.or_eq_false_iff.1 h).1).1).1).1).1).1).1).2 (gsn (Bool.or_eq_false_iff.1 (Bool.or_eq_false_iff.1 (Bool.or_eq_false_iff.1 (Bool.or_eq_false_iff.1 (Bool.or_eq_false_iff.1 (Bool.or_eq_false_iff.1 (Bool.or_eq_false_iff.1 (Bool.or_eq_false_iff.1 (Bool.or_eq_false_iff.1 h).1).1).1).1).1).1).1).1).2 (gsn (Bool.or_eq_false_iff.1 (Bool.or_eq_false_iff.1 (Bool.or_eq_false_iff.1 (Bool.or_eq_false_iff.1 (Bool.or_eq_false_iff.1 (Bool.or_eq_false_iff.1 (Bool.or_eq_false_iff.1 (Bool.or_eq_false_iff.1 (Bool.or_eq_false_iff.1 (Bool.or_eq_false_iff.1 h).1).1).1).1).1).1).1).1).1).2 (gsn (Bool.or_eq_false_iff.1 (Bool.or_eq_false_iff.1 (Bool.or_eq_false_iff.1 (Bool.or_eq_false_iff.1 (Bool.or_eq_false_iff.1 (Bool.or_eq_false_iff.1 (Bool.or_eq_false_iff.1 (Bool.or_eq_false_iff.1 (Bool.or_eq_false_iff.1 (Bool.or_eq_false_iff.1 (Bool.or_eq_false_iff.1 h).1).1).1).1).1).1).1).1).1).1).2 (gsn (Bool.or_eq_false_iff.1 (Bool.or_eq_false_iff.1 (Bool.or_eq_false_iff.1 (Bool.or_eq_false_iff.1 (Bool.or_eq_false_iff.1 (Bool.or_eq_false_iff.1 (Bool.or_eq_false_iff.1 (Bool.or_eq_false_iff.1 (Bool.or_eq_false_iff.1 (Bool.or_eq_false_iff.1 (Bool.or_eq_false_iff.1 (Bool.or_eq_false_iff.1 h).1).1).1).1).1).1).1).1).1).1).1).2 (gsn (Bool.or_eq_false_iff.1 (Bool.or_eq_false_iff.1 (Bool.or_eq_false_iff.1 (Bool.or_eq_false_iff.1 (Bool.or_eq_false_iff.1 (Bool.or_eq_false_iff.1 (Bool.or_eq_false_iff.1 (Bool.or_eq_false_iff.1 (Bool.or_eq_false_iff.1 (Bool.or_eq_false_iff.1 (Bool.or_eq_false_iff.1 (Bool.or_eq_false_iff.1 (Bool.or_eq_false_iff.1 h).1).1).1).1).1).1).1).1).1).1).1).1).2 (gsn (Bool.or_eq_false_iff.1 (Bool.or_eq_false_iff.1 (Bool.or_eq_false_iff.1 (Bool.or_eq_false_iff.1 (Bool.or_eq_false_iff.1 (Bool.or_eq_false_iff.1 (Bool.or_eq_false_iff.1 (Bool.or_eq_false_iff.1 (Bool.or_eq_false_iff.1 (Bool.or_eq_false_iff.1 (Bool.or_eq_false_iff.1 (Bool.or_eq_false_iff.1 (Bool.or_eq_false_iff.1 (Bool.or_eq_false_iff.1 h).1).1).1).1).1).1).1).1).1).1).1).1).1).2 (gsn (Bool.or_eq_false_iff.1 (Bool.or_eq_false_iff.1 (Bool.or_eq_false_iff.1 (Bool.or_eq_false_iff.1 (Bool.or_eq_false_iff.1 (Bool.or_eq_false_iff.1 (Bool.or_eq_false_iff.1 (Bool.or_eq_false_iff.1 (Bool.or_eq_false_iff.1 (Bool.or_eq_false_iff.1 (Bool.or_eq_false_iff.1 (Bool.or_eq_false_iff.1 (Bool.or_eq_false_iff.1 (Bool.or_eq_false_iff.1 (Bool.or_eq_false_iff.1 h).1).1).1).1).1).1).1).1).1).1).1).1).1).1).2 (gsn (Bool.or_eq_false_iff.1 (Bool.or_eq_false_iff.1 (Bool.or_eq_false_iff.1 (Bool.or_eq_false_iff.1 (Bool.or_eq_false_iff.1 (Bool.or_eq_false_iff.1 (Bool.or_eq_false_iff.1 (Bool.or_eq_false_iff.1 (Bool.or_eq_false_iff.1 (Bool.or_eq_false_iff.1 (Bool.or_eq_false_iff.1 (Bool.or_eq_false_iff.1 (Bool.or_eq_false_iff.1 (Bool.or_eq_false_iff.1 (Bool.or_eq_false_iff.1 h).1).1).1).1).1).1).1).1).1).1).1).1).1).1).1 h2))))))))))))))))
/-- What is yet to be shown, kept out of sight. -/
structure Hid (B : Prop) : Prop where
  h : B
theorem slotq {P : Prop} (h : P := by ((try with_reducible apply argt); (repeat (first | ((with_reducible apply gss); (focus exact rfl)) | ((with_reducible apply gsn16); (focus exact rfl)) | ((with_reducible apply gsn4); (focus exact rfl)) | ((with_reducible apply gsn); (focus exact rfl)))); all_goals (first | with_reducible assumption | ((with_reducible apply slot_tr); (focus with_reducible assumption); (focus exact rfl)) | assumption | rfl | (simp only [Arg.get, Tr.get_set, Nat.reduceEqDiff, if_true, if_false, reduceIte, reduceCtorEq, Bool.false_eq_true]; (first | done | rfl | assumption))))) : P := h
theorem inq {P : Prop} (h : P := by (repeat (first | exact In.here | assumption | apply In.next | apply In.app))) : P := h
theorem updq {P : Prop} (h : P := by (repeat (first | apply Upd.here | apply Upd.next | apply Upd.app))) : P := h
theorem remq {P : Prop} (h : P := by (repeat (first | exact Rem.nil | exact Rem.one | exact Rem.here | exact Rem.last | apply Rem.next | apply Rem.app))) : P := h
theorem subq {P : Prop} (h : P := by (repeat (first | exact Sub.nil | exact Sub.refl _ | (apply Sub.cons; (focus exact remq)) | (apply Sub.app; (focus exact remq)) | apply Sub.skip | apply Sub.skipA))) : P := h
theorem keepq {P : Prop} (h : P := by (repeat (first | exact Keep.refl _ _ | assumption | (refine Keep.set ?_ (by rfl))))) : P := h
theorem numq {P : Prop} (h : P := by (first | omega | assumption | (simp only [List.length_map, List.length_set, List.length_append, List.length_cons, List.length_nil, List.length_replicate]; omega) | exact le_inat (by omega) | exact lt_inat (by omega) | exact le_np (by omega) | exact le_np2 (by omega) (by decide) | exact le_pcells (by omega) | exact le_pcells2 (by omega) (by decide) | (simp; done) | (simp; omega))) : P := h
theorem pureq {P : Prop} (h : P := by (first | (apply op_mov; (focus (exact slotq))) | (apply op_inc; (focus (exact slotq)); (focus (exact numq))) | (apply op_dec; (focus (exact slotq)); (focus (exact numq)); (focus (exact numq))) | (apply op_rem; (focus (exact slotq)); (focus (exact slotq)); (focus (exact numq))) | (apply op_quo; (focus (exact slotq)); (focus (exact slotq)); (focus (exact numq)); (focus (exact numq))) | (apply op_mulN; (focus (exact slotq)); (focus (exact slotq)); (focus (exact numq))) | (apply op_addN; (focus (exact slotq)); (focus (exact slotq)); (focus (exact numq))) | (apply op_lssT; (focus (exact slotq)); (focus (exact slotq)); (focus (omega))) | (apply op_lssF; (focus (exact slotq)); (focus (exact slotq)); (focus (omega))) | (apply op_leqT; (focus (exact slotq)); (focus (exact slotq)); (focus (omega))) | (apply op_leqF; (focus (exact slotq)); (focus (exact slotq)); (focus (omega))) | (apply op_gtrT; (focus (exact slotq)); (focus (exact slotq)); (focus (omega))) | (apply op_gtrF; (focus (exact slotq)); (focus (exact slotq)); (focus (omega))) | (apply op_geqT; (focus (exact slotq)); (focus (exact slotq)); (focus (omega))) | (apply op_geqF; (focus (exact slotq)); (focus (exact slotq)); (focus (omega))) | (apply op_eqlT; (focus (exact slotq)); (focus (exact slotq)); (focus (omega))) | (apply op_eqlF; (focus (exact slotq)); (focus (exact slotq)); (focus (omega))) | (apply op_neqT; (focus (exact slotq)); (focus (exact slotq)); (focus (omega))) | (apply op_neqF; (focus (exact slotq)); (focus (exact slotq)); (focus (omega))) | (apply op_lssI; (focus (exact slotq)); (focus (exact slotq))) | (apply op_leqI; (focus (exact slotq)); (focus (exact slotq))) | (apply op_gtrI; (focus (exact slotq)); (focus (exact slotq))) | (apply op_geqI; (focus (exact slotq)); (focus (exact slotq))) | (apply op_eqlI; (focus (exact slotq)); (focus (exact slotq))) | (apply op_neqI; (focus (exact slotq)); (focus (exact slotq))) | (apply op_addI; (focus (exact slotq)); (focus (exact slotq)); (focus (omega))) | (apply op_subI; (focus (exact slotq)); (focus (exact slotq)); (focus (omega))) | (apply op_mulI; (focus (exact slotq)); (focus (exact slotq)); (focus (omega))) | (apply op_bin; (focus (exact slotq)); (focus (exact slotq)); (focus (rfl))) | (apply op_fieldAddr0; (focus (exact slotq))) | (apply op_fieldAddr; (focus (exact slotq))) | (apply op_fieldAddrR; (focus (exact slotq)); (focus (exact numq))) | (apply op_loadR; (focus (exact slotq)); (focus (first | exact get_inat (by omega) | exact get_ints (by omega) | exact get_ints (k := 0) (by omega) | exact get_ints (k := 1) (by omega) | exact get_ints (k := 2) (by omega) | exact get_np0 (by omega) | exact get_np1 (by omega) | exact get_pair00 (by omega) | exact get_pair1 (by omega) | (first | rfl | assumption | (simp [List.getElem?_append, List.getElem?_cons]; done) | (simp; omega))))) | (apply op_loadRA; (focus (exact slotq)); (focus (first | assumption | exact seg_np (by omega) | exact seg_pair (by omega) | (first | exact seg_full rfl | ((simp only [seg, List.length_cons, List.length_nil, Nat.reduceAdd, Nat.reduceLeDiff, reduceIte, List.drop_zero, List.drop_succ_cons, List.take_succ_cons, List.take_zero]); rfl) | rfl)))) | (apply op_len; (focus (exact slotq)); (focus (first | rfl | exact len_Row (by assumption) | exact BufO.slen (by assumption)))) | (apply op_indexRow; (focus (exact slotq)); (focus (assumption)); (focus (exact slotq)); (focus (exact numq)); (focus (exact numq))) | (apply op_indexRow (i := 0); (focus (exact slotq)); (focus (assumption)); (focus (rfl)); (focus (exact numq)); (focus (exact numq))) | (apply op_indexRow (i := 1); (focus (exact slotq)); (focus (assumption)); (focus (rfl)); (focus (exact numq)); (focus (exact numq))) | (apply op_indexRow (i := 2); (focus (exact slotq)); (focus (assumption)); (focus (rfl)); (focus (exact numq)); (focus (exact numq))) | (apply op_indexR; (focus (exact slotq)); (focus (exact slotq)); (focus (exact numq)); (focus (exact numq))) | (apply op_indexR (i := 0); (focus (exact slotq)); (focus (rfl)); (focus (exact numq)); (focus (exact numq))) | (apply op_indexR (i := 1); (focus (exact slotq)); (focus (rfl)); (focus (exact numq)); (focus (exact numq))) | (apply op_indexR (i := 2); (focus (exact slotq)); (focus (rfl)); (focus (exact numq)); (focus (exact numq))) | (apply op_index01; (focus (exact slotq)); (focus (exact slotq)); (focus (exact numq))) | (apply op_index1; (focus (exact slotq)); (focus (exact slotq)); (focus (exact numq))) | (apply op_indexL; (focus (exact slotq)); (focus (exact slotq)); (focus (exact numq))) | (apply op_indexP (i := 0); (focus (exact slotq)); (focus (rfl)); (focus (decide))) | (apply op_indexP (i := 1); (focus (exact slotq)); (focus (rfl)); (focus (decide))) | (apply op_indexO (i := 0); (focus (exact slotq)); (focus (rfl)); (focus (decide)); (focus (exact numq))) | (apply op_indexO (i := 1); (focus (exact slotq)); (focus (rfl)); (focus (decide)); (focus (exact numq))) | (apply op_extract; (focus (exact slotq)); (focus ((first | rfl | assumption | (simp [List.getElem?_append, List.getElem?_cons]; done) | (simp; omega))))) | (apply op_field; (focus (exact slotq)); (focus ((first | rfl | assumption | (simp [List.getElem?_append, List.getElem?_cons]; done) | (simp; omega))))) | (apply op_pick_t; (focus (exact slotq)); (focus (exact slotq))) | (apply op_pick_f; (focus (exact slotq)); (focus (exact slotq))) | (apply op_eqNilF; (focus (exact slotq)); (focus (exact slotq)); (focus (rfl)); (focus (rfl)); (focus (rfl))) | (apply op_eqNilT; (focus (exact slotq)); (focus (exact slotq)); (focus (rfl)); (focus (rfl)); (focus (rfl))) | (apply op_makeFunc; (focus ((repeat (first | exact argAll_nil | (apply argAll_cons; (focus (exact slotq))))))); (focus ((repeat (first | exact argAll_nil | (apply argAll_cons; (focus (exact slotq)))))))) | (apply op_un; (focus (exact slotq)); (focus (rfl))) | (apply op_conv; (focus (exact slotq)); (focus (rfl))) | (apply op_build; (focus ((repeat (first | exact argParts_nil | (apply argParts_cons; (focus (exact slotq))))))); (focus ((repeat (first | (apply fillA_one; (focus ((first | rfl | assumption | exact BufO.isOne (by assumption) | exact RowA.isOne (by assumption)))); (focus (first | decide | simp))) | (apply fillA_agg; (focus rfl); (focus (first | decide | simp)); (focus ((first | rfl | assumption | (repeat (first | exact all_one_nil | exact all_one_ints _ | (apply all_one_cons; (focus ((first | rfl | assumption | exact BufO.isOne (by assumption) | exact RowA.isOne (by assumption))))))))))) | (apply fillA_nilE; (focus ((try simp only [List.set_cons_zero, List.set_cons_succ, putSeg, List.take, List.drop, List.take_zero, List.drop_zero, List.take_succ_cons, List.drop_succ_cons, List.nil_append, List.cons_append, List.length_cons, List.length_nil, Nat.reduceAdd, Nat.zero_add, List.append_nil]); (first | exact set_ints _ _ _ | rfl))))))))) | (apply op_eqBoolF; (focus (exact slotq)); (focus (exact slotq))) | (apply op_eqBoolT; (focus (exact slotq)); (focus (exact slotq))) | (apply op_eqAggF; (focus (exact slotq)); (focus (exact slotq)); (focus (rfl))) | (apply op_eqAggT; (focus (exact slotq)); (focus (exact slotq)); (focus (rfl))) | (apply op_nilCheck; (focus (exact slotq))) | (apply op_lenC) | (apply op_lenStr; (focus (exact slotq))) | (apply op_sliceLo01; (focus (exact slotq)); (focus (exact slotq)); (focus (exact numq))) | (apply op_sliceLo1 (lo := 1); (focus (exact slotq)); (focus (rfl)); (focus (exact numq))) | (apply op_sliceLo1; (focus (exact slotq)); (focus (exact slotq)); (focus (exact numq))) | (apply op_sliceLo; (focus (exact slotq)); (focus (exact slotq)); (focus (exact numq))) | (apply op_sliceHi; (focus (exact slotq)); (focus (exact slotq)); (focus (exact numq))) | (apply op_sliceHiI; (focus (exact slotq)); (focus (assumption)); (focus (exact slotq)); (focus (exact numq))) | (apply op_indexAgg; (focus (exact slotq)); (focus (exact slotq)); (focus (exact numq)); (focus (assumption))))) : P := h
theorem resq {P : Prop} (h : P := by (repeat (first | exact ResO.nil | (apply ResO.tmp; (focus (exact slotq))) | (apply ResO.cell; (focus (exact slotq)); (focus (exact inq)); (focus ((first | rfl | assumption | (simp [List.getElem?_append, List.getElem?_cons]; done) | (simp; omega))))) | (apply ResO.cellA; (focus (exact slotq)); (focus (exact inq)); (focus rfl))))) : P := h
theorem rslotq {P : Prop} (h : P := by (rw [rarg (by simp [AOp.args])]; exact slotq)) : P := h
theorem aptq {P : Prop} (h : P := by (repeat (first | exact apart_nil | (apply apart_bit; (focus decide)) | (apply apart_not; (focus decide); (focus (first | rfl | assumption | (simp; done))); (focus (first | rfl | exact any_none _ _ | (simp; omega))))))) : P := h
theorem goq {A B : Prop} (hB : B) (h : Hid B → A := by intro hB; (first | exact wo_seq hB.h | exact wo_reg hB.h | exact wo_blk hB.h | exact wo_skip hB.h | exact wo_ret hB.h | exact wo_exit hB.h | exact wo_scope hB.h | exact seqO.n hB.h | exact seqO.r hB.h | exact seqO.x hB.h | exact blkO.n hB.h | exact blkO.r hB.h | exact blkO.x hB.h | exact blkO.y (by decide) hB.h | exact oo_nil hB.h | exact wo_still (by first | assumption | rfl) hB.h | ((first | apply oo_off | apply oo_offn); (focus (first | with_reducible exact wanted_none | ((with_reducible apply wanted_some); (focus (exact slotq)); (focus rfl)) | ((with_reducible apply wanted_tup); (focus (exact slotq))))); exact hB.h) | (apply oo_alloc; (focus (first | with_reducible exact wanted_none | ((with_reducible apply wanted_some); (focus (exact slotq)); (focus rfl)) | ((with_reducible apply wanted_tup); (focus (exact slotq))))); exact hB.h) | (apply oo_box; (focus (first | with_reducible exact wanted_none | ((with_reducible apply wanted_some); (focus (exact slotq)); (focus rfl)) | ((with_reducible apply wanted_tup); (focus (exact slotq))))); (focus (exact slotq)); (focus ((first | rfl | assumption | exact BufO.isOne (by assumption) | exact RowA.isOne (by assumption)))); exact hB.h) | (apply oo_boxA; (focus (first | with_reducible exact wanted_none | ((with_reducible apply wanted_some); (focus (exact slotq)); (focus rfl)) | ((with_reducible apply wanted_tup); (focus (exact slotq))))); (focus (exact slotq)); (focus ((first | rfl | assumption | (repeat (first | exact all_one_nil | exact all_one_ints _ | (apply all_one_cons; (focus ((first | rfl | assumption | exact BufO.isOne (by assumption) | exact RowA.isOne (by assumption)))))))))); exact hB.h) | (apply oo_load; (focus (first | with_reducible exact wanted_none | ((with_reducible apply wanted_some); (focus (exact slotq)); (focus rfl)) | ((with_reducible apply wanted_tup); (focus (exact slotq))))); (focus (exact slotq)); (focus (exact inq)); (focus (first | assumption | exact getElem?_inat (by omega) | exact getElem?_ints (by omega) | (first | rfl | assumption | (simp [List.getElem?_append, List.getElem?_cons]; done) | (simp; omega)))); exact hB.h) | (apply oo_loadA; (focus (first | with_reducible exact wanted_none | ((with_reducible apply wanted_some); (focus (exact slotq)); (focus rfl)) | ((with_reducible apply wanted_tup); (focus (exact slotq))))); (focus (exact slotq)); (focus (exact inq)); (focus (first | assumption | (first | exact seg_full rfl | ((simp only [seg, List.length_cons, List.length_nil, Nat.reduceAdd, Nat.reduceLeDiff, reduceIte, List.drop_zero, List.drop_succ_cons, List.take_succ_cons, List.take_zero]); rfl) | rfl))); exact hB.h) | (apply oo_store; (focus (first | with_reducible exact wanted_none | ((with_reducible apply wanted_some); (focus (exact slotq)); (focus rfl)) | ((with_reducible apply wanted_tup); (focus (exact slotq))))); (focus (exact slotq)); (focus (exact slotq)); (focus ((first | rfl | assumption | exact BufO.isOne (by assumption) | exact RowA.isOne (by assumption)))); (focus (exact updq)); (focus (exact numq)); (focus (((try simp only [List.set_cons_zero, List.set_cons_succ, putSeg, List.take, List.drop, List.take_zero, List.drop_zero, List.take_succ_cons, List.drop_succ_cons, List.nil_append, List.cons_append, List.length_cons, List.length_nil, Nat.reduceAdd, Nat.zero_add, List.append_nil]); (first | exact set_ints _ _ _ | rfl)))); exact hB.h) | (apply oo_storeA; (focus (first | with_reducible exact wanted_none | ((with_reducible apply wanted_some); (focus (exact slotq)); (focus rfl)) | ((with_reducible apply wanted_tup); (focus (exact slotq))))); (focus (exact slotq)); (focus (exact slotq)); (focus (rfl)); (focus ((first | rfl | assumption | (repeat (first | exact all_one_nil | exact all_one_ints _ | (apply all_one_cons; (focus ((first | rfl | assumption | exact BufO.isOne (by assumption) | exact RowA.isOne (by assumption)))))))))); (focus (exact updq)); (focus (exact numq)); (focus (((try simp only [List.set_cons_zero, List.set_cons_succ, putSeg, List.take, List.drop, List.take_zero, List.drop_zero, List.take_succ_cons, List.drop_succ_cons, List.nil_append, List.cons_append, List.length_cons, List.length_nil, Nat.reduceAdd, Nat.zero_add, List.append_nil]); (first | exact set_ints _ _ _ | rfl)))); exact hB.h) | (apply oo_make; (focus (first | with_reducible exact wanted_none | ((with_reducible apply wanted_some); (focus (exact slotq)); (focus rfl)) | ((with_reducible apply wanted_tup); (focus (exact slotq))))); (focus (exact slotq)); (focus (exact slotq)); (focus (exact numq)); (focus (exact numq)); exact hB.h) | (apply oo_buildSlice; (focus (first | with_reducible exact wanted_none | ((with_reducible apply wanted_some); (focus (exact slotq)); (focus rfl)) | ((with_reducible apply wanted_tup); (focus (exact slotq))))); (focus ((repeat (first | exact argParts_nil | (apply argParts_cons; (focus (exact slotq))))))); (focus ((repeat (first | (apply fillA_one; (focus ((first | rfl | assumption | exact BufO.isOne (by assumption) | exact RowA.isOne (by assumption)))); (focus (first | decide | simp))) | (apply fillA_agg; (focus rfl); (focus (first | decide | simp)); (focus ((first | rfl | assumption | (repeat (first | exact all_one_nil | exact all_one_ints _ | (apply all_one_cons; (focus ((first | rfl | assumption | exact BufO.isOne (by assumption) | exact RowA.isOne (by assumption))))))))))) | (apply fillA_nilE; (focus ((try simp only [List.set_cons_zero, List.set_cons_succ, putSeg, List.take, List.drop, List.take_zero, List.drop_zero, List.take_succ_cons, List.drop_succ_cons, List.nil_append, List.cons_append, List.length_cons, List.length_nil, Nat.reduceAdd, Nat.zero_add, List.append_nil]); (first | exact set_ints _ _ _ | rfl)))))))); exact hB.h) | (apply oo_push; (focus (first | with_reducible exact wanted_none | ((with_reducible apply wanted_some); (focus (exact slotq)); (focus rfl)) | ((with_reducible apply wanted_tup); (focus (exact slotq))))); (focus (exact slotq)); (focus ((first | assumption | exact BufO.nil | (apply BufO.pushed; (focus assumption); (focus rfl); (focus rfl))))); (focus (exact slotq)); (focus (exact remq)); (focus (exact inq)); (focus (rfl)); (focus ((first | rfl | assumption | (repeat (first | exact all_one_nil | exact all_one_ints _ | (apply all_one_cons; (focus ((first | rfl | assumption | exact BufO.isOne (by assumption) | exact RowA.isOne (by assumption)))))))))); (focus (exact numq)); (focus (exact numq)); exact hB.h) | (apply oo_clearE; (focus (first | with_reducible exact wanted_none | ((with_reducible apply wanted_some); (focus (exact slotq)); (focus rfl)) | ((with_reducible apply wanted_tup); (focus (exact slotq))))); (focus (exact slotq)); (focus (exact numq)); (focus (exact updq)); (focus ((simp only [List.length_map, List.length_set]; omega))); (focus (rfl)); exact hB.h) | (apply oo_pushS; (focus (first | with_reducible exact wanted_none | ((with_reducible apply wanted_some); (focus (exact slotq)); (focus rfl)) | ((with_reducible apply wanted_tup); (focus (exact slotq))))); (focus (exact slotq)); (focus (exact remq)); (focus (assumption)); (focus (exact slotq)); (focus (exact inq)); (focus (rfl)); (focus ((first | rfl | assumption | (repeat (first | exact all_one_nil | exact all_one_ints _ | (apply all_one_cons; (focus ((first | rfl | assumption | exact BufO.isOne (by assumption) | exact RowA.isOne (by assumption)))))))))); (focus ((first | rfl | assumption | (repeat (first | exact all_one_nil | exact all_one_ints _ | (apply all_one_cons; (focus ((first | rfl | assumption | exact BufO.isOne (by assumption) | exact RowA.isOne (by assumption)))))))))); (focus (exact numq)); (focus (exact numq)); exact hB.h) | ((first | apply oo_p | apply oo_pn); (focus (first | with_reducible exact wanted_none | ((with_reducible apply wanted_some); (focus (exact slotq)); (focus rfl)) | ((with_reducible apply wanted_tup); (focus (exact slotq))))); (focus (intro mm hmm; exact pureq)); exact hB.h) | (apply wo_cond_t; (focus (exact slotq)); exact hB.h) | (apply wo_cond_f; (focus (exact slotq)); exact hB.h))) : A := h ⟨hB⟩
theorem gok {A B : Prop} (hB : B) (h : Hid B → A := by intro hB; (first | ((first | apply oo_ck | apply oo_ckn); (focus (first | with_reducible exact wanted_none | ((with_reducible apply wanted_some); (focus (exact slotq)); (focus rfl)) | ((with_reducible apply wanted_tup); (focus (exact slotq))))); (focus (repeat (first | exact argAll_nil | (apply argAll_cons; (focus (exact slotq)))))); exact hB.h) | (apply oo_cv; (focus (first | with_reducible exact wanted_none | ((with_reducible apply wanted_some); (focus (exact slotq)); (focus rfl)) | ((with_reducible apply wanted_tup); (focus (exact slotq))))); (focus exact slotq); (focus (repeat (first | exact argAll_nil | (apply argAll_cons; (focus (exact slotq)))))); exact hB.h))) : A := h ⟨hB⟩
end Go.Am
namespace Go.Proofs.YtmflheoafeenfaaGreat
open Go.Am
theorem fns_of {E : Env} {f : FuncId} {fn : AFn} (hF : E.fns = fnsT) (h : fnsT f = some fn) : E.fns f = some fn := by rw [hF]; exact h
end Go.Proofs.YtmflheoafeenfaaGreat
