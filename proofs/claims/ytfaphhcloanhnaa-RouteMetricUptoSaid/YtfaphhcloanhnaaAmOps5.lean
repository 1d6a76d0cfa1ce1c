/- The abstract machine, part 8: stores, new variables, literals, make. -/
import Derived.Test.YtfaphhcloanhnaaAmOps4
set_option linter.unusedSimpArgs false
set_option linter.unusedVariables false
namespace Go.Am

theorem list_put {α : Type} (L us : List α) (p off n : Nat) (h : off + us.length ≤ n) (hp : p + n ≤ L.length) :
    ((L.take (p + off) ++ us ++ L.drop (p + off + us.length)).drop p).take n = ((L.drop p).take n).take off ++ us ++ ((L.drop p).take n).drop (off + us.length) := by
  apply List.ext_getElem?
  intro j
  simp only [List.getElem?_take, List.getElem?_drop, List.getElem?_append, List.length_take, List.length_append, List.length_drop]
  by_cases h1 : j < n
  · by_cases h2 : j < off
    · simp only [h1, h2, if_true]
      rw [if_pos (by omega), if_pos (by omega), if_pos (by omega), if_pos (by omega), if_pos (by omega)]
    · by_cases h3 : j < off + us.length
      · simp only [h1, if_true]
        rw [if_pos (by omega), if_neg (by omega), if_pos (by omega), if_neg (by omega)]
        congr 1
        omega
      · simp only [h1, if_true]
        rw [if_neg (by omega), if_neg (by omega), if_pos (by omega)]
        congr 1
        omega
  · simp only [h1, if_false]
    rw [if_neg (by omega), if_neg (by omega)]

section
variable {P : Program} {ι : Inj} {S : Nat → Prop} {w : World} {s : Tr AVal} {a : Act} {m m' : Mem} {v : AVal} {o : Oper} {ax ay az : Arg}

theorem putSeg_length {cs new : List AVal} {off : Nat} (h : off + new.length ≤ cs.length) : (putSeg cs off new).length = cs.length := by
  simp [putSeg]; omega
theorem putSeg_one {cs new : List AVal} {off : Nat} (h1 : ∀ c ∈ cs, c.one = true) (h2 : ∀ c ∈ new, c.one = true) : ∀ c ∈ putSeg cs off new, c.one = true := by
  intro c hc
  simp only [putSeg, List.mem_append] at hc
  rcases hc with (hc | hc) | hc
  · exact h1 c (List.mem_of_mem_take hc)
  · exact h2 c hc
  · exact h1 c (List.mem_of_mem_drop hc)
theorem RepL.putSeg {cs new : List AVal} {us L : List Value} {p off : Nat} (h : RepL ι S w cs ((L.drop p).take cs.length)) (hn : RepL ι S w new us) (ho : off + new.length ≤ cs.length) (hp : p + cs.length ≤ L.length) :
    RepL ι S w (Am.putSeg cs off new) (((L.take (p + off) ++ us ++ L.drop (p + off + us.length)).drop p).take cs.length) := by
  rw [list_put L us p off cs.length (by rw [← hn.length]; exact ho) hp, ← hn.length]
  exact ((h.take off).append hn).append (h.drop _)

theorem one_all {vs : List AVal} (h : vs.all AVal.one = true) : ∀ c ∈ vs, c.one = true := by simpa using h
theorem rep_one' {x : AVal} {u : Value} (h : Rep ι S w x u) (ho : x.one = true) : u.oneCell' = true := by
  have := h.oneCell ho
  cases u <;> simp_all [Value.oneCell']
theorem repL_one {xs : List AVal} {us : List Value} (h : RepL ι S w xs us) (ho : ∀ c ∈ xs, c.one = true) : ∀ u ∈ us, u.oneCell' = true := by
  intro u hu
  obtain ⟨j, hj, e⟩ := List.getElem_of_mem hu
  have hj' : j < xs.length := by rw [h.length]; exact hj
  exact rep_one' (h.2 j xs[j] u (by simp [hj']) (by simp [hj, e])) (ho _ (List.getElem_mem hj'))

theorem ok_store {t : TypeId} {x y : Operand} {n : Nat} (ho : o.op = .store t x y) (hn : szOf P t = some n) (hx : compArg x = some ax) (hy : compArg y = some ay)
    (hv : opVal s m (.store n ax ay) = some (v, m')) (hs : SRel ι S w s.get a.tmps) (hm : MRel ι S m.heap.get w) : OpOk P ι S w a m o v m' := by
  simp only [opVal] at hv
  split at hv
  · rename_i id off y' h1 h2
    split at hv
    · rename_i hc
      split at hv
      · rename_i cs hcs
        split at hv
        · rename_i hoff
          simp only [Option.some.injEq, Prod.mk.injEq] at hv
          obtain ⟨rfl, rfl⟩ := hv
          obtain ⟨b, p, hid, e1⟩ := rep_ptr (arg_rep hx hs h1)
          have ry := (arg_rep hy hs h2).cells
          obtain ⟨vs, el, hb, hlen, hrep, hone, hnS⟩ := box_cells hm hcs hid
          have h1c := repL_one ry (one_all hc.2)
          have hsz : (a.eval y).cells.size = n := by have := ry.length; simp at this; omega
          have hst := run_storeCells_at P b (p + off) el (a.eval y).cells.toList 0 vs w hb (by simp; omega) h1c
          simp only [Nat.add_zero] at hst
          have hlen2 : (y'.cells).length = (a.eval y).cells.toList.length := ry.length
          have hpl := putSeg_length (new := y'.cells) (off := off) (cs := cs) (by rw [hc.1]; exact hoff)
          have hRL := hrep.putSeg ry (by rw [hc.1]; exact hoff) (by simpa using hlen)
          have hsize : ((vs.toList.take (p + off) ++ (a.eval y).cells.toList ++ vs.toList.drop (p + off + (a.eval y).cells.toList.length)).toArray).size = vs.size := by simp; omega
          generalize hg : (vs.toList.take (p + off) ++ (a.eval y).cells.toList ++ vs.toList.drop (p + off + (a.eval y).cells.toList.length)) = L2 at hst hRL hsize
          refine ⟨.skip, undef, w.setRow b L2.toArray, ι, S, by simp [execOp, ho, e1, Instr.storeAt, Instr.sureAddr, storeVar, run_sizeOf_some hn, hsz, hst], .inr ⟨rfl, rfl⟩, ?_⟩
          refine post_put hm (cells_spec hcs) hid hb hsize (by rw [hpl, hsize]; exact hlen) ?_ (putSeg_one hone (one_all hc.2)) (.inr trivial) (.tup rfl (fun j c v hc => by simp at hc))
          rw [hpl]
          exact hRL
        · simp at hv
      · simp at hv
    · simp at hv
  · simp at hv

theorem zeroOf_some {t : TypeId} {z : List AVal} (h : zeroOf P t = some z) : ∃ i u, P.info? t = some i ∧ i.zero = some u ∧ (∀ ι S w, RepL ι S w z u.cells.toList) ∧ ∀ c ∈ z, c.one = true := by
  unfold zeroOf at h
  split at h
  · rename_i u hu
    simp only [Option.bind_eq_some_iff] at hu
    obtain ⟨i, h1, h2⟩ := hu
    exact ⟨i, u, h1, h2, fun ι S w => (scAll_rep h).1, (scAll_rep (ι := fun _ => none) (S := fun _ => False) (w := default) h).2⟩
  · simp at h
theorem run_zeroValue_some {t : TypeId} {i : TypeInfo} {u : Value} (h1 : P.info? t = some i) (h2 : i.zero = some u) (w : World) : (zeroValue t).run P w = .ok u w := by
  simp [zeroValue, typeInfo, h1, h2]

theorem ok_alloc {t : TypeId} {z : List AVal} (ho : o.op = .alloc t) (hz : zeroOf P t = some z) (hv : opVal s m (.alloc z) = some (v, m')) (hm : MRel ι S m.heap.get w) (hf : ∀ id, m.next ≤ id → id < m'.next → ι id = none) : OpOk P ι S w a m o v m' := by
  simp only [opVal, Option.some.injEq, Prod.mk.injEq] at hv
  obtain ⟨rfl, rfl⟩ := hv
  obtain ⟨i, u, h1, h2, h3, h4⟩ := zeroOf_some hz
  have hl := (h3 ι S w).length
  have hrun : (execOp a.eval o).run P w = .ok (.value (.pointer (some ⟨w.heap.size, 0, none⟩))) (World.made w w.drawn u.cells t) := by
    simp only [execOp, ho, Instr.alloc, newVar, newRow, Sem.run_bind, run_zeroValue_some h1 h2, Result.andThen_ok, run_newObj, Sem.run_pure]
    rfl
  refine ⟨_, .pointer (some ⟨w.heap.size, 0, none⟩), World.made w w.drawn u.cells t, ι.put m.next (w.heap.size, 0), S, hrun, .inl rfl, ?_⟩
  refine post_new hm (hf _ (Nat.le_refl _) (by simp [Mem.new])) (by simp at hl; omega) ?_ h4 (.ptr (Inj.put_same _ _ _))
  rw [List.take_of_length_le (by omega)]
  exact h3 _ _ _

theorem ok_box {t : TypeId} {x : Operand} (ho : o.op = .box t x) (hx : compArg x = some ax) (hv : opVal s m (.box ax) = some (v, m')) (hs : SRel ι S w s.get a.tmps) (hm : MRel ι S m.heap.get w) (hf : ∀ id, m.next ≤ id → id < m'.next → ι id = none) : OpOk P ι S w a m o v m' := by
  simp only [opVal] at hv
  split at hv
  · rename_i y h1
    split at hv
    · rename_i hone
      simp only [Option.some.injEq, Prod.mk.injEq] at hv
      obtain ⟨rfl, rfl⟩ := hv
      have hr := (arg_rep hx hs h1).cells
      have hl := hr.length
      have hrun : (execOp a.eval o).run P w = .ok (.value (.pointer (some ⟨w.heap.size, 0, none⟩))) (World.made w w.drawn (a.eval x).cells t) := by
        simp only [execOp, ho, Instr.box, newVar, newRow, Sem.run_bind, Result.andThen_ok, run_newObj, Sem.run_pure]
        rfl
      refine ⟨_, .pointer (some ⟨w.heap.size, 0, none⟩), World.made w w.drawn (a.eval x).cells t, ι.put m.next (w.heap.size, 0), S, hrun, .inl rfl, ?_⟩
      refine post_new hm (hf _ (Nat.le_refl _) (by simp [Mem.new])) (by simp at hl; omega) ?_ (one_all hone) (.ptr (Inj.put_same _ _ _))
      rw [List.take_of_length_le (by omega)]
      exact hr
    · simp at hv
  · simp at hv

/-! ### Parts -/
theorem fold_set {α : Type} (off : Nat) : ∀ (l : List α) (n : Nat) (cells : Array α), off + n + l.length ≤ cells.size →
    ((l.zipIdx n).foldl (fun (cs : Array α) (p : α × Nat) => cs.setIfInBounds (off + p.2) p.1) cells).toList = cells.toList.take (off + n) ++ l ++ cells.toList.drop (off + n + l.length)
  | [], n, cells, _ => by simp
  | x :: r, n, cells, h => by
    simp only [List.zipIdx_cons, List.foldl_cons]
    rw [fold_set off r (n + 1) _ (by simp at h ⊢; omega)]
    simp at h
    apply List.ext_getElem?
    intro j
    simp only [Array.toList_setIfInBounds, List.getElem?_append, List.getElem?_take, List.getElem?_drop, List.getElem?_set, List.length_take, List.length_set, Array.length_toList, List.length_append, List.length_cons]
    by_cases h1 : j < off + n
    · rw [if_pos (by omega), if_pos (by omega), if_pos (by omega), if_neg (by omega), if_pos (by omega), if_pos (by omega), if_pos (by omega)]
    · by_cases h2 : j = off + n
      · subst h2
        rw [if_pos (by omega), if_pos (by omega), if_pos (by omega), if_pos rfl, if_pos (by omega), if_pos (by omega), if_neg (by omega)]
        have e : off + n - min (off + n) cells.size = 0 := by omega
        rw [e]
        rfl
      · by_cases h3 : j < off + n + (r.length + 1)
        · rw [if_pos (by omega), if_neg (by omega), if_pos (by omega), if_neg (by omega)]
          have e : j - min (off + n) cells.size = (j - min (off + (n + 1)) cells.size) + 1 := by omega
          rw [e, List.getElem?_cons_succ]
        · rw [if_neg (by omega), if_neg (by omega), if_neg (by omega)]
          congr 1
          omega

theorem fillA_run {place : Nat → Option (Nat × Nat)} : ∀ {parts : List (Nat × Operand)} {aps : List (Nat × Nat × Arg)} {ps : List (Nat × Nat × AVal)} {cs r : List AVal} {cells : Array Value},
    compParts place parts = some aps → SRel ι S w s.get a.tmps → argParts s aps = some ps → RepL ι S w cs cells.toList → (∀ c ∈ cs, c.one = true) → fillA cs ps = some r →
    ∃ out, Instr.fill place cells (parts.map fun q => (q.1, a.eval q.2)) = some out ∧ RepL ι S w r out.toList ∧ ∀ c ∈ r, c.one = true
  | [], aps, ps, cs, r, cells, hc, hs, hp, hr, ho, hf => by
    simp [compParts] at hc
    subst hc
    simp [argParts] at hp
    subst hp
    simp [fillA] at hf
    subst hf
    exact ⟨cells, rfl, hr, ho⟩
  | (i, x) :: parts, aps, ps, cs, r, cells, hc, hs, hp, hr, ho, hf => by
    unfold compParts at hc
    split at hc
    · rename_i off n ax as h1 h2 h3
      simp only [Option.some.injEq] at hc
      subst hc
      unfold argParts at hp
      split at hp
      · rename_i v vs h4 h5
        simp only [Option.some.injEq] at hp
        subst hp
        unfold fillA at hf
        split at hf
        · rename_i hq
          obtain ⟨q1, q2, q3⟩ := hq
          have rv := (arg_rep h2 hs h4).cells
          have hl := rv.length
          have hcl := hr.length
          simp at hl hcl
          have hfold := fold_set off (a.eval x).cells.toList 0 cells (by simp; omega)
          simp only [Nat.add_zero] at hfold
          have e2 : ((a.eval x).cells.zipIdx.foldl (fun cs p => cs.setIfInBounds (off + p.2) p.1) cells).toList = cells.toList.take off ++ (a.eval x).cells.toList ++ cells.toList.drop (off + (a.eval x).cells.toList.length) := by
            rw [← hfold, ← Array.foldl_toList, Array.toList_zipIdx]
          have hr2 : RepL ι S w (putSeg cs off v.cells) ((a.eval x).cells.zipIdx.foldl (fun cs p => cs.setIfInBounds (off + p.2) p.1) cells).toList := by
            rw [e2]
            have := rv.length
            unfold putSeg
            rw [this]
            exact ((hr.take off).append rv).append (hr.drop _)
          obtain ⟨out, g1, g2, g3⟩ := fillA_run h3 hs h5 hr2 (putSeg_one ho (one_all q3)) hf
          refine ⟨out, ?_, g2, g3⟩
          simp only [List.map_cons, Instr.fill, h1]
          rw [if_neg (by simp; omega)]
          exact g1
        · simp at hf
      · simp at hp
    · simp at hc

theorem fieldPlaces_get : ∀ {fs : List Field} {pl : List (Nat × Nat)}, fieldPlaces P fs = some pl → ∀ w, (fs.mapM (m := Sem) fun f => do pure (f.offset, ← sizeOf f.type)).run P w = .ok pl w
  | [], pl, h, w => by
    simp [fieldPlaces] at h
    subst h
    rfl
  | f :: r, pl, h, w => by
    unfold fieldPlaces at h
    split at h
    · rename_i n l h1 h2
      simp at h
      subst h
      have ih := fieldPlaces_get h2 w
      rw [List.mapM_cons]
      simp only [Sem.run_bind, run_sizeOf_some h1, Result.andThen_ok, ih, Sem.run_pure]
    · simp at h

theorem run_build_struct {t : TypeId} {parts : Array (Nat × Value)} {fs : Array Field} {pl : List (Nat × Nat)} {i : TypeInfo} {u : Value} {out : Array Value} (h1 : P.info? t = some i) (h2 : i.zero = some u) (ht : P.underlying t = some (.struct fs)) (hpl : fieldPlaces P fs.toList = some pl)
    (hf : Instr.fill (fun i => pl[i]?) u.cells parts.toList = some out) : (Instr.build t parts).run P w = .ok (.agg out) w := by
  have hm2 : (fs.mapM (m := Sem) fun f => do pure (f.offset, ← sizeOf f.type)).run P w = .ok pl.toArray w := by
    rw [Array.mapM_eq_mapM_toList, Sem.run_map, fieldPlaces_get hpl w]
    rfl
  have e : (fun (x : Nat) => pl.toArray[x]?) = (fun (i : Nat) => pl[i]?) := by funext x; simp
  unfold Instr.build
  simp only [Sem.run_bind, run_zeroValue_some h1 h2, Result.andThen_ok, run_underlying ht]
  rw [hm2]
  simp only [Result.andThen_ok, e, hf, Sem.run_pure]
theorem run_build_array {t e : TypeId} {n k : Nat} {parts : Array (Nat × Value)} {i : TypeInfo} {u : Value} {out : Array Value} (h1 : P.info? t = some i) (h2 : i.zero = some u) (ht : P.underlying t = some (.array k e)) (hn : szOf P e = some n)
    (hf : Instr.fill (fun i => some (i * n, n)) u.cells parts.toList = some out) : (Instr.build t parts).run P w = .ok (.agg out) w := by
  unfold Instr.build
  simp only [Sem.run_bind, run_zeroValue_some h1 h2, Result.andThen_ok, run_underlying ht, run_sizeOf_some hn, hf, Sem.run_pure]
theorem ok_build_struct {t : TypeId} {parts : Array (Nat × Operand)} {fs : Array Field} {z : List AVal} {pl : List (Nat × Nat)} {aps : List (Nat × Nat × Arg)} (ho : o.op = .build t parts) (hz : zeroOf P t = some z) (ht : P.underlying t = some (.struct fs)) (hpl : fieldPlaces P fs.toList = some pl)
    (hc : compParts (fun i => pl[i]?) parts.toList = some aps) (hv : opVal s m (.build z aps) = some (v, m')) (hs : SRel ι S w s.get a.tmps) (hm : MRel ι S m.heap.get w) : OpOk P ι S w a m o v m' := by
  simp only [opVal] at hv
  split at hv
  · rename_i ps hps
    simp only [Option.map_eq_some_iff, Prod.mk.injEq] at hv
    obtain ⟨cs, hcs, rfl, rfl⟩ := hv
    obtain ⟨i, u, h1, h2, h3, h4⟩ := zeroOf_some hz
    obtain ⟨out, g1, g2, g3⟩ := fillA_run hc hs hps (h3 ι S w) h4 hcs
    refine OpOk.value (u := .agg out) ?_ hm (rep_agg_mk g2)
    have := run_build_struct (P := P) (w := w) (parts := parts.map fun (i, x) => (i, a.eval x)) h1 h2 ht hpl (by rw [Array.toList_map]; exact g1)
    simp only [execOp, ho, Sem.run_bind]
    rw [this]
    rfl
  · simp at hv

theorem ok_build_array {t e : TypeId} {n k : Nat} {parts : Array (Nat × Operand)} {z : List AVal} {aps : List (Nat × Nat × Arg)} (ho : o.op = .build t parts) (hz : zeroOf P t = some z) (ht : P.underlying t = some (.array k e)) (hn : szOf P e = some n)
    (hc : compParts (fun i => some (i * n, n)) parts.toList = some aps) (hv : opVal s m (.build z aps) = some (v, m')) (hs : SRel ι S w s.get a.tmps) (hm : MRel ι S m.heap.get w) : OpOk P ι S w a m o v m' := by
  simp only [opVal] at hv
  split at hv
  · rename_i ps hps
    simp only [Option.map_eq_some_iff, Prod.mk.injEq] at hv
    obtain ⟨cs, hcs, rfl, rfl⟩ := hv
    obtain ⟨i, u, h1, h2, h3, h4⟩ := zeroOf_some hz
    obtain ⟨out, g1, g2, g3⟩ := fillA_run hc hs hps (h3 ι S w) h4 hcs
    refine OpOk.value (u := .agg out) ?_ hm (rep_agg_mk g2)
    have := run_build_array (P := P) (w := w) (parts := parts.map fun (i, x) => (i, a.eval x)) h1 h2 ht hn (by rw [Array.toList_map]; exact g1)
    simp only [execOp, ho, Sem.run_bind]
    rw [this]
    rfl
  · simp at hv
end
end Go.Am
