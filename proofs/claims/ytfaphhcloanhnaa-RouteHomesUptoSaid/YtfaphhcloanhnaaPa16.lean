/- Parts of the proof, joined by program: AmOps6. -/
import Derived.Test.YtfaphhcloanhnaaPa15
set_option linter.unusedSimpArgs false
set_option linter.unusedVariables false
namespace Go.Am

theorem flat_get {α : Type} (z : List α) : ∀ (k j : Nat), (List.flatten (List.replicate k z))[j]? = if j < k * z.length then z[j % z.length]? else none
  | 0, j => by simp
  | k + 1, j => by
    rw [List.replicate_succ, List.flatten_cons, List.getElem?_append]
    by_cases h : j < z.length
    · rw [if_pos h, Nat.mod_eq_of_lt h, if_pos (by rw [Nat.succ_mul]; omega)]
    · rw [if_neg h, flat_get z k]
      have e : j % z.length = (j - z.length) % z.length := by
        rw [Nat.mod_eq_sub_mod (by omega)]
      rw [e, Nat.succ_mul]
      by_cases h2 : j - z.length < k * z.length
      · rw [if_pos h2, if_pos (by omega)]
      · rw [if_neg h2, if_neg (by omega)]
theorem flat_length {α : Type} (z : List α) (k : Nat) : (List.flatten (List.replicate k z)).length = k * z.length := by simp

section
variable {P : Program} {ι : Inj} {S : Nat → Prop} {w : World} {s : Tr AVal} {a : Act} {m m' : Mem} {v : AVal} {o : Oper} {ax ay az : Arg}

theorem made_rep {z : List AVal} {u : Array Value} {k n : Nat} (h : RepL ι S w z u.toList) (hn : z.length = n) (h0 : 0 < n) : RepL ι S w (List.flatten (List.replicate k z)) ((Array.range (k * n)).map (u[· % u.size]!)).toList := by
  have hl := h.length
  simp at hl
  refine ⟨by simp [hn], fun j c v hc hv => ?_⟩
  rw [flat_get] at hc
  split at hc
  · rename_i hj
    rw [hn] at hj hc
    have hm : j % n < u.size := by rw [← hl, hn]; exact Nat.mod_lt _ h0
    refine h.2 (j % n) c v hc ?_
    have : ((Array.range (k * n)).map (u[· % u.size]!)).toList[j]? = some (u[j % u.size]!) := by simp [hj]
    rw [this] at hv
    simp at hv
    subst hv
    have e : u.size = n := by omega
    rw [e]
    simp [hm]
  · simp at hc
theorem made_one {z : List AVal} {k : Nat} (h : ∀ c ∈ z, c.one = true) : ∀ c ∈ List.flatten (List.replicate k z), c.one = true := by
  intro c hc
  rw [List.mem_flatten] at hc
  obtain ⟨l, hl, hc⟩ := hc
  rw [List.mem_replicate] at hl
  rw [hl.2] at hc
  exact h c hc

theorem ok_buildSlice {t e : TypeId} {parts : Array (Nat × Operand)} {n len : Nat} {z : List AVal} {aps : List (Nat × Nat × Arg)} (ho : o.op = .buildSlice t len parts) (ht : P.underlying t = some (.slice e)) (hn : szOf P e = some n) (hz : zeroOf P e = some z) (h0 : 0 < n) (hzl : z.length = n) (hcap : len * n ≤ 16777216)
    (hc : compParts (fun i => some (i * n, n)) parts.toList = some aps) (hv : opVal s m (.buildSlice n len (List.flatten (List.replicate len z)) aps) = some (v, m')) (hs : SRel ι S w s.get a.tmps) (hm : MRel ι S m.heap.get w) (hf : ∀ id, m.next ≤ id → id < m'.next → ι id = none) : OpOk P ι S w a m o v m' := by
  simp only [opVal] at hv
  split at hv
  · rename_i ps hps
    split at hv
    · rename_i cs hcs
      simp only [Option.some.injEq, Prod.mk.injEq] at hv
      obtain ⟨rfl, rfl⟩ := hv
      obtain ⟨i, u, h1, h2, h3, h4⟩ := zeroOf_some hz
      have hmr : RepL ι S w (List.flatten (List.replicate len z)) ((Array.range (len * n)).map ((if len * n = 0 then #[] else u.cells)[· % (if len * n = 0 then #[] else u.cells).size]!)).toList := by
        by_cases hq : len * n = 0
        · have : len = 0 := by
            rcases Nat.mul_eq_zero.1 hq with h | h
            · exact h
            · omega
          subst this
          exact ⟨by simp, fun j c v hc => by simp at hc⟩
        · simp only [if_neg hq]
          exact made_rep (h3 ι S w) hzl h0
      obtain ⟨out, g1, g2, g3⟩ := fillA_run hc hs hps hmr (made_one h4) hcs
      have hl := g2.length
      simp at hl
      have hrun : (Instr.buildSlice t len (parts.map fun (i, x) => (i, a.eval x))).run P w = .ok (.slice (some ⟨w.heap.size, 0, none⟩) len len) (World.made w w.drawn out e) := by
        have hb : ¬ (len * n > 2 ^ 24) := by omega
        unfold Instr.buildSlice
        simp only [Sem.run_bind, run_underlying ht, Result.andThen_ok, run_sizeOf_some hn, if_neg hb, Sem.run_pure]
        by_cases hq : len * n = 0
        · simp only [if_pos hq] at g1
          simp only [if_pos hq, Sem.run_bind, Sem.run_pure, Result.andThen_ok, Array.toList_map, g1, newRow, run_newObj]
          rfl
        · simp only [if_neg hq] at g1
          simp only [if_neg hq, Sem.run_bind, run_zeroValue_some h1 h2, Sem.run_pure, Result.andThen_ok, Array.toList_map, g1, newRow, run_newObj]
          rfl
      have hsz : len * n ≤ out.size := by
        have hfl : cs.length = len * n := by
          have : ∀ (ps : List (Nat × Nat × AVal)) (c r : List AVal), fillA c ps = some r → r.length = c.length := by
            intro ps
            induction ps with
            | nil => intro c r h; simp [fillA] at h; rw [h]
            | cons p ps ih =>
              intro c r h
              obtain ⟨q1, q2, q3⟩ := p
              unfold fillA at h
              split at h
              · rename_i hq
                rw [ih _ _ h, putSeg_length (by omega)]
              · simp at h
          rw [this _ _ _ hcs, flat_length, hzl]
        omega
      refine ⟨_, .slice (some ⟨w.heap.size, 0, none⟩) len len, World.made w w.drawn out e, ι.put m.next (w.heap.size, 0), S, by simp only [execOp, ho, Sem.run_bind]; rw [hrun]; rfl, .inl rfl, ?_⟩
      refine post_new hm (hf _ (Nat.le_refl _) (by simp [Mem.new])) (by omega) ?_ g3 (.sl (Inj.put_same _ _ _) (Nat.le_refl _) (by simp) (fun _ => by simp) (fun _ => ⟨out, e, made_new, by omega, by simp⟩))
      rw [List.take_of_length_le (by simp; omega)]
      exact g2
    · simp at hv
  · simp at hv

theorem ok_makeSlice {t e : TypeId} {x y : Operand} {n b : Nat} {z : List AVal} (ho : o.op = .makeSlice t x y) (ht : P.underlying t = some (.slice e)) (hn : szOf P e = some n) (hb : bytesOf_ P e = some b) (hz : zeroOf P e = some z) (h0 : 0 < n) (hzl : z.length = n) (hx : compArg x = some ax) (hy : compArg y = some ay)
    (hv : opVal s m (.makeSlice n b z ax ay) = some (v, m')) (hs : SRel ι S w s.get a.tmps) (hm : MRel ι S m.heap.get w) (hf : ∀ id, m.next ≤ id → id < m'.next → ι id = none) : OpOk P ι S w a m o v m' := by
  simp only [opVal] at hv
  split at hv
  · rename_i l c hl hc
    split at hv
    · rename_i hq
      obtain ⟨q1, q2, q3, q4⟩ := hq
      simp only [Option.some.injEq, Prod.mk.injEq] at hv
      obtain ⟨rfl, rfl⟩ := hv
      simp only [Option.bind_eq_some_iff] at hl hc
      obtain ⟨vl, hl1, hl2⟩ := hl
      obtain ⟨vc, hc1, hc2⟩ := hc
      obtain ⟨kl, el⟩ := rep_int' (arg_rep hx hs hl1) hl2
      obtain ⟨kc, ec⟩ := rep_int' (arg_rep hy hs hc1) hc2
      obtain ⟨i, u, h1, h2, h3, h4⟩ := zeroOf_some hz
      have hsz : i.size = n := by simp [szOf, h1] at hn; exact hn
      have hby : i.bytes = b := by simp [bytesOf_, h1] at hb; exact hb
      have hrun := run_make (P := P) w t e i u ht h1 h2 kl kc l c q1 q2 (by rw [hby]; have h5 : (b : Int) * c = ((b * c.toNat : Nat) : Int) := (by rw [Int.natCast_mul, Int.toNat_of_nonneg (by omega)]); rw [h5]; omega) q3
      rw [hsz] at hrun
      have hmr := made_rep (k := c.toNat) (h3 ι S w) hzl h0
      refine ⟨_, .slice (some ⟨w.heap.size, 0, none⟩) l.toNat c.toNat, World.made w w.drawn (madeCells u.cells (c.toNat * n)) e, ι.put m.next (w.heap.size, 0), S, by simp only [execOp, ho, Sem.run_bind, el, ec]; rw [hrun]; rfl, .inl rfl, ?_⟩
      refine post_new hm (hf _ (Nat.le_refl _) (by simp [Mem.new])) (by rw [flat_length, hzl, size_madeCells]; exact Nat.le_refl _) ?_ (made_one h4) (.sl (Inj.put_same _ _ _) (by omega) (by simp) (fun _ => by simp) (fun _ => ⟨_, e, made_new, by rw [size_madeCells]; omega, by simp⟩))
      rw [List.take_of_length_le (by simp [size_madeCells, hzl])]
      exact hmr
    · simp at hv
  · simp at hv

/-! ### What a slice holds -/
theorem sliceCells_run {x : AVal} {n l esz : Nat} {cs : List AVal} {u : Value} (h : Rep ι S w x u) (hm : MRel ι S m.heap.get w) (hl : sliceLen x = some l) (hnl : n ≤ l) (hcs : sliceCells m esz n x = some cs) :
    ∃ us : List Value, RepL ι S w cs us ∧ us.length = n * esz ∧ (∀ c ∈ cs, c.one = true) ∧ ∀ w2 : World, w2.heap = w.heap → (Builtin.firstCells esz n u).run P w2 = .ok us.toArray w2 := by
  unfold sliceCells at hcs
  split at hcs
  · simp only [Option.some.injEq] at hcs
    subst hcs
    have e := rep_nil h
    subst e
    simp [sliceLen] at hl
    subst hl
    obtain rfl : n = 0 := by omega
    exact ⟨[], ⟨rfl, fun j c v hc => by simp at hc⟩, by simp, by simp, fun w2 _ => by simp [Builtin.firstCells]⟩
  · rename_i id off len e cap
    split at hcs
    · rename_i he
      subst he
      split at hcs
      · rename_i cells hcells
        obtain ⟨b, p, c, ad, e1, hid, hlc, hk, had, hroom⟩ := rep_sl h
        simp [sliceLen] at hl
        subst hl
        obtain ⟨vs, el, hb, hlen, hrep, hone, _⟩ := box_cells hm hcells hid
        have hsg := hrep.seg hcs
        obtain ⟨hl2, hreq⟩ := seg_spec hcs
        subst e1
        refine ⟨_, hsg, by simp; omega, fun c hc => hone c (by rw [hreq] at hc; exact List.mem_of_mem_drop (List.mem_of_mem_take hc)), fun w2 hw2 => ?_⟩
        refine run_firstCells_some (P := P) w2 e n ad len c _ (by simp; omega) (fun j v hv => ?_)
        have hj := (List.getElem?_eq_some_iff.1 hv).1
        simp at hj
        by_cases hc0 : c = 0
        · have : n = 0 := by omega
          subst this
          omega
        · rw [had hc0, addr_add_mk]
          simp only [World.cell?, hw2, hb, Option.isSome_none, Bool.false_eq_true, if_false]
          rw [List.getElem?_take, if_pos (by omega), List.getElem?_drop, List.getElem?_take, if_pos (by omega), List.getElem?_drop] at hv
          simpa [Nat.add_assoc] using hv
      · simp at hcs
    · simp at hcs
  · rename_i cells len cap
    obtain ⟨ad, c, vs, e1, hlc, hk, hsp, hcell, hrep, hone⟩ := rep_rs h
    obtain ⟨hl2, hreq⟩ := seg_spec hcs
    subst e1
    have hcl : cs.length = n * esz := by rw [hreq]; simp; omega
    refine ⟨(List.range cs.length).map vs, ⟨by simp, fun j c v hc hv => ?_⟩, by simp [hcl], fun c hc => hone c (by rw [hreq] at hc; simp at hc; exact List.mem_of_mem_take hc), fun w2 hw2 => ?_⟩
    · have hj := (List.getElem?_eq_some_iff.1 hc).1
      rw [List.getElem?_map, List.getElem?_range hj] at hv
      simp at hv
      subst hv
      refine hrep j c ?_
      rw [hreq, List.getElem?_take, if_pos (by omega)] at hc
      simpa using hc
    · refine run_firstCells_some (P := P) w2 esz n ad len c _ (by simp [hcl]) (fun j v hv => ?_)
      have hj := (List.getElem?_eq_some_iff.1 hv).1
      simp at hj
      have hp : 0 < cells.length := by omega
      rw [addr_eta ad (hsp hp).1, addr_add_mk]
      have := hcell j (by omega)
      simp only [World.cell?, hw2] at this ⊢
      rw [this]
      rw [List.getElem?_map, List.getElem?_range hj] at hv
      exact hv
  · simp at hcs

/-! ### append -/
theorem run_append_fit {t u ty e : TypeId} {i : TypeInfo} {eu : TypeId} (ht : P.underlying t = some (.slice e)) (hu : P.underlying u = some (.slice eu)) (hi : P.info? e = some i) {base : Option Addr} {sLen sCap n : Nat} {x : Value} {news : List Value}
    (hn : (Builtin.lenOf x).run P w = .ok n w) (hf : (Builtin.firstCells i.size n x).run P w = .ok news.toArray w) (hfit : sLen + n ≤ sCap) {w' : World} (hst : match base with | some ad => (storeCells (ad.add (sLen * i.size)) news).run P w = .ok () w' | none => w' = w) :
    (Builtin.append_ #[t, u] ty #[.slice base sLen sCap, x]).run P w = .ok (.slice base (sLen + n) sCap) w' := by
  cases base with
  | none =>
    subst hst
    simp [Builtin.append_, run_underlying ht, run_underlying hu, sizeOf, typeInfo, hi, hn, hf, hfit]
  | some ad =>
    simp only at hst
    simp [Builtin.append_, run_underlying ht, run_underlying hu, sizeOf, typeInfo, hi, hn, hf, hfit, hst]

theorem run_append_more {t u ty e : TypeId} {i : TypeInfo} {z : Value} {eu : TypeId} (ht : P.underlying t = some (.slice e)) (hu : P.underlying u = some (.slice eu)) (hi : P.info? e = some i) (hz : i.zero = some z) (hby : 0 < i.bytes) {base : Option Addr} {sLen sCap n : Nat} {x : Value} {olds news : List Value}
    (hn : (Builtin.lenOf x).run P w = .ok n w) (hf : ∀ w2 : World, w2.heap = w.heap → (Builtin.firstCells i.size n x).run P w2 = .ok news.toArray w2) (hfo : ∀ w2 : World, w2.heap = w.heap → (Builtin.firstCells i.size sLen (.slice base sLen sCap)).run P w2 = .ok olds.toArray w2)
    (hg : sCap < sLen + n) (hfit : (sLen + n) * i.bytes ≤ 140737488355328) :
    (Builtin.append_ #[t, u] ty #[.slice base sLen sCap, x]).run P w = .ok (.slice (some ⟨w.heap.size, 0, none⟩) (sLen + n) (grownCap w (sLen + n) sCap e))
      (World.made w (w.drawn + 1) (olds.toArray ++ news.toArray ++ Builtin.zeroCells z.cells (grownCap w (sLen + n) sCap e - (sLen + n))) e) := by
  have h1 : ¬ (sLen + n ≤ sCap) := by omega
  have h2 : ¬ (281474976710656 < Builtin.nextslicecap (sLen + n) sCap * i.bytes) := by have := growslice_fits hg hfit; omega
  have h3 : ¬ (i.bytes = 0) := by omega
  have e1 := hf w.drew rfl
  have e2 := hfo w.drew rfl
  simp [Builtin.append_, run_underlying ht, run_underlying hu, sizeOf, typeInfo, zeroValue, hi, hz, hn, h1, h2, h3, Question.forced, e1, e2, newRow, grownCap]
  rw [← Array.append_assoc]
  simp only [World.made, World.alloc, World.drew, List.append_toArray]

theorem le_grownCap (w : World) (need old : Nat) (e : TypeId) : need ≤ grownCap w need old e := by
  simp [grownCap, Question.cut]

theorem run_append_op {c : Call} {x y : Operand} (ho : o.op = .call c) (hc : c.callee = .builtin .append) (hargs : c.args.toList = [x, y]) :
    (execOp a.eval o).run P w = ((Builtin.append_ c.argTypes o.type #[a.eval x, a.eval y]).run P w).andThen fun v w' => .ok (.value v) w' := by
  have ea : c.args = #[x, y] := by rw [← Array.toArray_toList (xs := c.args), hargs]
  simp [execOp, ho, resolve, hc, ea, invoke, builtin]
theorem run_copy_op {c : Call} {x y : Operand} (ho : o.op = .call c) (hc : c.callee = .builtin .copy) (hargs : c.args.toList = [x, y]) :
    (execOp a.eval o).run P w = ((Builtin.copy_ c.argTypes o.type #[a.eval x, a.eval y]).run P w).andThen fun v w' => .ok (.value v) w' := by
  have ea : c.args = #[x, y] := by rw [← Array.toArray_toList (xs := c.args), hargs]
  simp [execOp, ho, resolve, hc, ea, invoke, builtin]
theorem run_clear_op {c : Call} {x : Operand} (ho : o.op = .call c) (hc : c.callee = .builtin .clear) (hargs : c.args.toList = [x]) :
    (execOp a.eval o).run P w = ((Builtin.clear_ c.argTypes o.type #[a.eval x]).run P w).andThen fun v w' => .ok (.value v) w' := by
  have ea : c.args = #[x] := by rw [← Array.toArray_toList (xs := c.args), hargs]
  simp [execOp, ho, resolve, hc, ea, invoke, builtin]
theorem run_max_op {c : Call} {mx : Bool} (ho : o.op = .call c) (hc : c.callee = .builtin (if mx then .max else .min)) :
    (execOp a.eval o).run P w = ((if mx then Builtin.max_ c.argTypes o.type (c.args.map a.eval) else Builtin.min_ c.argTypes o.type (c.args.map a.eval)).run P w).andThen fun v w' => .ok (.value v) w' := by
  cases mx <;> simp at hc <;> simp [execOp, ho, resolve, hc, invoke, builtin]

theorem append_new {t u e eu : TypeId} {z : List AVal} {n b : Nat} {base : Option Addr} {sLen sCap k : Nat} {ux : Value} {olds news : List Value} {old new : List AVal} {ty : TypeId}
    (ht : P.underlying t = some (.slice e)) (hu : P.underlying u = some (.slice eu)) (hn : szOf P e = some n) (hb : bytesOf_ P e = some b) (hz : zeroOf P e = some z) (h0 : 0 < n) (hb0 : 0 < b) (hzl : z.length = n) (hm : MRel ι S m.heap.get w) (hf : ι m.next = none)
    (hlx : (Builtin.lenOf ux).run P w = .ok k w) (hfn : ∀ w2 : World, w2.heap = w.heap → (Builtin.firstCells n k ux).run P w2 = .ok news.toArray w2) (hfo : ∀ w2 : World, w2.heap = w.heap → (Builtin.firstCells n sLen (.slice base sLen sCap)).run P w2 = .ok olds.toArray w2)
    (ho : RepL ι S w old olds) (hw : RepL ι S w new news) (hol : olds.length = sLen * n) (hnl : news.length = k * n) (h1 : ∀ c ∈ old, c.one = true) (h2 : ∀ c ∈ new, c.one = true) (hg : sCap < sLen + k) (hfit : (sLen + k) * b ≤ 140737488355328) :
    ∃ uv w', (Builtin.append_ #[t, u] ty #[.slice base sLen sCap, ux]).run P w = .ok uv w' ∧ Post ι S m w (.sl m.next 0 (sLen + k) n none) (m.new (.cells (old ++ new))) uv (ι.put m.next (w.heap.size, 0)) S w' := by
  obtain ⟨i, zu, g1, g2, g3, g4⟩ := zeroOf_some hz
  have hsz : i.size = n := by simp [szOf, g1] at hn; exact hn
  have hby : i.bytes = b := by simp [bytesOf_, g1] at hb; exact hb
  have hzs : zu.cells.size = n := by have := (g3 ι S w).length; simp at this; omega
  refine ⟨_, _, run_append_more ht hu g1 g2 (by omega) hlx (by rw [hsz]; exact hfn) (by rw [hsz]; exact hfo) hg (by rw [hby]; exact hfit), ?_⟩
  have hRL := ho.append hw
  have hlen := hRL.length
  have hK := le_grownCap w (sLen + k) sCap e
  have hroom : (olds.toArray ++ news.toArray ++ Builtin.zeroCells zu.cells (grownCap w (sLen + k) sCap e - (sLen + k))).size = grownCap w (sLen + k) sCap e * n := by
    simp [size_zeroCells, hol, hnl, hzs]
    rw [← Nat.add_mul, ← Nat.add_mul]
    congr 1
    omega
  refine post_new hm hf (by rw [hroom]; simp at hlen; simp [hlen, hol, hnl]; rw [← Nat.add_mul]; exact Nat.mul_le_mul_right _ hK) ?_ (fun c hc => by
    rw [List.mem_append] at hc
    rcases hc with hc | hc
    · exact h1 c hc
    · exact h2 c hc) (.sl (Inj.put_same _ _ _) hK (by simp) (fun _ => by simp) (fun _ => ⟨_, e, made_new, by rw [hroom]; omega, fun _ => by rw [hroom]; omega⟩))
  rw [hlen]
  have : (olds.toArray ++ news.toArray ++ Builtin.zeroCells zu.cells (grownCap w (sLen + k) sCap e - (sLen + k))).toList.take (olds ++ news).length = olds ++ news := by
    simp only [Array.toList_append]
    rw [List.take_append_of_le_length (by simp)]
    exact List.take_of_length_le (by simp)
  rw [this]
  exact hRL

theorem lenOf_rep {x : AVal} {n : Nat} {u : Value} (h : Rep ι S w x u) (hn : sliceLen x = some n) : (Builtin.lenOf u).run P w = .ok n w := by
  obtain ⟨b, c, rfl, _⟩ := sliceLen_rep h hn
  rfl

/-- A box's block goes over to another number: its slice from off on, with what was put behind it. -/
theorem post_move {id b p off : Nat} {bx : Box} {vs vs' : Array Value} {el : TypeId} {cs' : List AVal} {u : Value} (hm : MRel ι S m.heap.get w) (hid : m.heap.get id = some bx) (hι : ι id = some (b, p)) (hb : w.heap[b]? = some (.cells vs el (0, 0))) (hs : vs'.size = vs.size) (hf : ι m.next = none)
    (hlen : p + off + cs'.length ≤ vs'.size) (hr : RepL ι S w cs' ((vs'.toList.drop (p + off)).take cs'.length)) (ho : ∀ c ∈ cs', c.one = true) (hv : Rep (ι.put m.next (b, p + off)) S (w.setRow b vs') v u) :
    Post ι S m w v ((m.put id none).new (.cells cs')) u (ι.put m.next (b, p + off)) S (w.setRow b vs') := by
  have hown : Own ι m.heap.get b := ⟨id, bx, p, hid, hι⟩
  have hst := setRow_step (w := w) (Own ι m.heap.get) hb hs hown
  have hnS : ∀ x, S x → ¬ Own ι m.heap.get x := fun x hx => hm.notS hx
  have hle := ι.put_le m.next (b, p + off) hf
  have hnb : ¬ S b := fun hx => hnS b hx hown
  refine ⟨hle, ?_, fun _ h => h, fun _ h => .inl h, hst, ?_, ?_, hv, ?_⟩
  · intro i hi
    unfold Inj.put at hi
    split at hi
    · right; simp [Mem.new, Mem.put]; omega
    · exact .inl hi
  · rintro x hx ⟨i, bi, q, h1, h2⟩
    simp only [Mem.new, Mem.put, Tr.get_set] at h1
    unfold Inj.put at h2
    split at h2
    · simp at h2
      rw [← h2.1]
      exact hown
    · rename_i e
      rw [if_neg e] at h1
      split at h1
      · simp at h1
      · exact ⟨i, bi, q, h1, h2⟩
  · have hget : ∀ i bi, ((m.put id none).new (.cells cs')).heap.get i = some bi → (i = m.next ∧ bi = .cells cs') ∨ (i ≠ m.next ∧ i ≠ id ∧ m.heap.get i = some bi) := by
      intro i bi hi
      simp only [Mem.new, Mem.put, Tr.get_set] at hi
      split at hi
      · left; simp at hi; exact ⟨by assumption, hi.symm⟩
      · split at hi
        · simp at hi
        · right; exact ⟨by assumption, by assumption, hi⟩
    have hother : ∀ i bi, i ≠ m.next → i ≠ id → m.heap.get i = some bi → ∃ b' o', ι i = some (b', o') ∧ b' ≠ b ∧ ¬ S b' ∧ BoxAt ι S w b' o' bi := by
      intro i bi h1 h2 h3
      obtain ⟨b', o', e1, e2, e3⟩ := hm.box i bi h3
      exact ⟨b', o', e1, hm.apart i id bi bx b' o' b p h3 hid h2 e1 hι, e2, e3⟩
    refine ⟨fun i bi hi => ?_, fun i j bi bj b1 o1 b2 o2 h1 h2 hne h3 h4 => ?_, fun x hx => Nat.lt_of_lt_of_le (hm.prot x hx) hst.size⟩
    · rcases hget i bi hi with ⟨rfl, rfl⟩ | ⟨e1, e2, e3⟩
      · refine ⟨b, p + off, Inj.put_same _ _ _, hnb, vs', el, setRow_heap w b _ vs' _ _ hb, hlen, fun j c v hc hv => ?_, ho⟩
        have hj := (List.getElem?_eq_some_iff.1 hc).1
        refine (hr.2 j c v hc ?_).up hm hle (fun _ h => h) hst hnS
        rw [List.getElem?_take, if_pos hj, List.getElem?_drop]
        simpa using hv
      · obtain ⟨b', o', f1, f2, f3, f4⟩ := hother i bi e1 e2 e3
        exact ⟨b', o', hle _ _ f1, f3, f4.mono hle (fun _ h => h) (fun x hx => hst.keep x (hm.prot x hx) (hnS x hx)) hst.shape (setRow_other w b b' vs' f2)⟩
    · rcases hget i bi h1 with ⟨rfl, rfl⟩ | ⟨e1, e2, e3⟩ <;> rcases hget j bj h2 with ⟨rfl, rfl⟩ | ⟨f1, f2, f3⟩
      · exact absurd rfl hne
      · obtain ⟨b', o', g1, g2, _, _⟩ := hother j bj f1 f2 f3
        rw [Inj.put_same] at h3
        have := hle _ _ g1
        rw [h4] at this
        simp at this h3
        rw [← h3.1, this.1]
        exact fun e => g2 e.symm
      · obtain ⟨b', o', g1, g2, _, _⟩ := hother i bi e1 e2 e3
        rw [Inj.put_same] at h4
        have := hle _ _ g1
        rw [h3] at this
        simp at this h4
        rw [← h4.1, this.1]
        exact g2
      · unfold Inj.put at h3 h4
        rw [if_neg e1] at h3
        rw [if_neg f1] at h4
        exact hm.apart i j bi bj _ _ _ _ e3 f3 hne h3 h4
  · refine ⟨by simp [Mem.new, Mem.put], by simp [Mem.new, Mem.put]; omega, fun i hi => ?_⟩
    simp only [Mem.new, Mem.put, Tr.get_set]
    by_cases e : i = id
    · left; omega
    · right; rw [if_neg (by omega), if_neg e]
end
end Go.Am
