/- The abstract machine, part 5: addresses, elements, cuts, lengths. -/
import Derived.Test.YtfaphhcloanhnaaAmOps1
set_option linter.unusedSimpArgs false
set_option linter.unusedVariables false
namespace Go.Am
section
variable {P : Program} {ι : Inj} {S : Nat → Prop} {w : World} {s : Tr AVal} {a : Act} {m m' : Mem} {v : AVal} {o : Oper} {ax ay az : Arg}

theorem addr_add_block (a : Addr) (n : Nat) : (a.add n).block = a.block := by unfold Addr.add; split <;> rfl
theorem addr_add_off (a : Addr) (n : Nat) : (a.add n).off = a.off + n := by unfold Addr.add; split <;> simp_all
theorem addr_add_spot (a : Addr) (n : Nat) (h : a.spot = none) : (a.add n).spot = none := by unfold Addr.add; split <;> simp_all
theorem addr_add_mk (b o n : Nat) : (⟨b, o, none⟩ : Addr).add n = ⟨b, o + n, none⟩ := by unfold Addr.add; split <;> simp_all
theorem addr_eta (a : Addr) (h : a.spot = none) : a = ⟨a.block, a.off, none⟩ := by cases a; simp_all

/-- The rest of a row that stays. -/
theorem ro_drop {cells : List AVal} {ad : Addr} (h : Rep ι S w (.ro cells) (.pointer (some ad))) (n : Nat) : Rep ι S w (.ro (cells.drop n)) (.pointer (some (ad.add n))) := by
  obtain ⟨ad', vs, e, h1, h2, h3, h4⟩ := rep_ro h
  simp at e
  subst e
  refine .ro (fun j => vs (n + j)) (fun hl => ?_) (fun j hj => ?_) (fun j c hc => ?_) (fun c hc => h4 c (List.mem_of_mem_drop hc))
  · obtain ⟨p, q⟩ := h1 (by simp at hl; omega)
    exact ⟨addr_add_spot _ _ p, by rw [addr_add_block]; exact q⟩
  · rw [addr_add_block, addr_add_off, Nat.add_assoc]
    exact h2 _ (by simp at hj; omega)
  · exact h3 _ c (by rw [List.getElem?_drop] at hc; exact hc)

theorem szOf_some {t : TypeId} {n : Nat} (h : szOf P t = some n) : ∃ i, P.info? t = some i ∧ i.size = n := by
  simpa [szOf] using h
theorem run_sizeOf_some {t : TypeId} {n : Nat} (h : szOf P t = some n) (w : World) : (sizeOf t).run P w = .ok n w := by
  obtain ⟨i, h1, rfl⟩ := szOf_some h
  simp [sizeOf, typeInfo, h1]
theorem run_isAgg_some {t : TypeId} {b : Bool} (h : aggOf P t = some b) (w : World) : (isAgg t).run P w = .ok b w := by
  unfold aggOf at h
  unfold isAgg
  cases hu : P.underlying t with
  | none => simp [hu] at h
  | some d =>
    simp only [hu] at h
    simp only [Sem.run_bind, run_underlying hu, Result.andThen_ok]
    cases d <;> simp_all

theorem ok_fieldAddr {t : TypeId} {x : Operand} {i : Nat} {fs : Array Field} {f : Field} {n : Nat} (ho : o.op = .fieldAddr t x i) (ht : P.underlying t = some (.struct fs)) (hfi : fs[i]? = some f) (hn : szOf P f.type = some n) (h0 : 0 < n)
    (hx : compArg x = some ax) (hv : opVal s m (.fieldAddr f.offset ax) = some (v, m')) (hs : SRel ι S w s.get a.tmps) (hm : MRel ι S m.heap.get w) : OpOk P ι S w a m o v m' := by
  have run : ∀ ad, (Instr.fieldAt t (.pointer (some ad)) i).run P w = .ok (.pointer (some (ad.add f.offset))) w := by
    intro ad
    simp [Instr.fieldAt, run_underlying ht, hfi, Instr.sureAddr, fieldPlace, run_sizeOf_some hn, Nat.ne_of_gt h0]
  simp only [opVal] at hv
  split at hv
  · rename_i h1
    simp only [Option.some.injEq, Prod.mk.injEq] at hv
    obtain ⟨rfl, rfl⟩ := hv
    obtain ⟨b, o', hb, e⟩ := rep_ptr (arg_rep hx hs h1)
    refine OpOk.value (u := .pointer (some ⟨b, o' + _ + f.offset, none⟩)) (by simp [execOp, ho, e, run, addr_add_mk]; rfl) hm ?_
    rw [Nat.add_assoc]
    exact .ptr hb
  · rename_i h1
    split at hv
    · simp only [Option.some.injEq, Prod.mk.injEq] at hv
      obtain ⟨rfl, rfl⟩ := hv
      have hr := arg_rep hx hs h1
      obtain ⟨ad, vs, e, _⟩ := rep_ro hr
      rw [e] at hr
      exact OpOk.value (u := .pointer (some (ad.add f.offset))) (by simp [execOp, ho, e, run]) hm (ro_drop hr _)
    · simp at hv
  · simp at hv

/-- A part of an aggregate. -/
theorem run_part {t : TypeId} {g : Bool} {n : Nat} {vs : Array Value} {cs r : List AVal} {x : AVal} {off : Nat} (hg : aggOf P t = some g) (hn : szOf P t = some n) (hr : RepL ι S w cs vs.toList) (hseg : seg cs off (if g then n else 1) = some r) (hx : asVar g r = some x) :
    ∃ u, (part t vs off).run P w = .ok u w ∧ Rep ι S w x u := by
  have hs := hr.seg hseg
  obtain ⟨hl, rfl⟩ := seg_spec hseg
  cases g with
  | true =>
    obtain rfl := asVar_true hx
    simp only [if_true] at hl hs
    refine ⟨.agg (vs.extract off (off + n)), by simp [part, run_isAgg_some hg, run_sizeOf_some hn], rep_agg_mk ?_⟩
    simpa [Array.toList_extract, List.extract] using hs
  | false =>
    have e := asVar_false hx
    simp only [Bool.false_eq_true, if_false] at hl hs e
    rw [e] at hs
    have hlen : off < vs.size := by have := hr.length; simp at this; omega
    refine ⟨vs[off], by simp [part, run_isAgg_some hg, hlen], ?_⟩
    refine hs.2 0 x _ rfl ?_
    simp [List.getElem?_take, List.getElem?_drop, hlen]

theorem ok_field {t : TypeId} {x : Operand} {i : Nat} {fs : Array Field} {f : Field} {n : Nat} {g : Bool} (ho : o.op = .field t x i) (ht : P.underlying t = some (.struct fs)) (hfi : fs[i]? = some f) (hg : aggOf P f.type = some g) (hn : szOf P f.type = some n)
    (hx : compArg x = some ax) (hv : opVal s m (.field g f.offset (if g then n else 1) ax) = some (v, m')) (hs : SRel ι S w s.get a.tmps) (hm : MRel ι S m.heap.get w) : OpOk P ι S w a m o v m' := by
  simp only [opVal] at hv
  split at hv
  · rename_i cs h1
    split at hv
    · rename_i r hr
      simp only [Option.map_eq_some_iff, Prod.mk.injEq] at hv
      obtain ⟨y, hy, rfl, rfl⟩ := hv
      obtain ⟨vs, e, hrep⟩ := rep_agg (arg_rep hx hs h1)
      obtain ⟨u, hu, hru⟩ := run_part hg hn hrep hr hy
      exact OpOk.value (u := u) (by simp [execOp, ho, e, Instr.field, run_underlying ht, hfi, asAgg, hu]) hm hru
    · simp at hv
  · simp at hv

theorem ok_index {t : TypeId} {x i : Operand} {e : TypeId} {n z : Nat} {g : Bool} (ho : o.op = .index t x i) (ht : P.underlying t = some (.array n e)) (hg : aggOf P e = some g) (hn : szOf P e = some z) (h1 : g = false → z = 1)
    (hx : compArg x = some ax) (hi : compArg i = some ay) (hv : opVal s m (.index g n z ax ay) = some (v, m')) (hs : SRel ι S w s.get a.tmps) (hm : MRel ι S m.heap.get w) : OpOk P ι S w a m o v m' := by
  simp only [opVal] at hv
  split at hv
  · rename_i cs j hx' hj'
    split at hv
    · rename_i hb
      split at hv
      · rename_i r hr
        simp only [Option.map_eq_some_iff, Prod.mk.injEq] at hv
        obtain ⟨y, hy, rfl, rfl⟩ := hv
        obtain ⟨vs, e1, hrep⟩ := rep_agg (arg_rep hx hs hx')
        simp only [Option.bind_eq_some_iff] at hj'
        obtain ⟨av, ha1, ha2⟩ := hj'
        obtain ⟨k, e2⟩ := rep_int' (arg_rep hi hs ha1) ha2
        have hz : (if g then z else 1) = z := by cases g <;> simp_all
        obtain ⟨u, hu, hru⟩ := run_part hg hn hrep (by rw [hz]; exact hr) hy
        exact OpOk.value (u := u) (by simp [execOp, ho, e1, e2, Instr.index, asIntOf, run_underlying ht, hb.1, hb.2, run_sizeOf_some hn, hu]) hm hru
      · simp at hv
    · simp at hv
  · simp at hv

theorem ok_indexStr {t : TypeId} {x i : Operand} (ho : o.op = .index t x i) (ht : P.underlying t = some .string) (hx : compArg x = some ax) (hi : compArg i = some ay) (hv : opVal s m (.indexStr ax ay) = some (v, m')) (hs : SRel ι S w s.get a.tmps) (hm : MRel ι S m.heap.get w) : OpOk P ι S w a m o v m' := by
  simp only [opVal] at hv
  split at hv
  · rename_i b j hx' hj'
    split at hv
    · rename_i hb
      split at hv
      · rename_i c hc
        simp only [Option.some.injEq, Prod.mk.injEq] at hv
        obtain ⟨rfl, rfl⟩ := hv
        have e1 := rep_string (arg_rep hx hs hx')
        simp only [Option.bind_eq_some_iff] at hj'
        obtain ⟨av, ha1, ha2⟩ := hj'
        obtain ⟨k, e2⟩ := rep_int' (arg_rep hi hs ha1) ha2
        exact OpOk.value (u := .int .u8 c.toNat) (by simp [execOp, ho, e1, e2, Instr.index, asIntOf, run_underlying ht, hb, hc]) hm (.sc rfl)
      · simp at hv
    · simp at hv
  · simp at hv

theorem ok_extract {x : Operand} {i : Nat} (ho : o.op = .extract x i) (hx : compArg x = some ax) (hv : opVal s m (.extract ax i) = some (v, m')) (hs : SRel ι S w s.get a.tmps) (hm : MRel ι S m.heap.get w) : OpOk P ι S w a m o v m' := by
  simp only [opVal] at hv
  split at hv
  · rename_i vs h1
    simp only [Option.map_eq_some_iff, Prod.mk.injEq] at hv
    obtain ⟨y, hy, rfl, rfl⟩ := hv
    obtain ⟨us, e, hl, hr⟩ := rep_tup (arg_rep hx hs h1)
    have hlt : i < us.size := by
      have := (List.getElem?_eq_some_iff.1 hy).1
      simp at hl
      omega
    exact OpOk.value (u := us[i]) (by simp [execOp, ho, e, Instr.extract, hlt]) hm (hr i y _ hy (by simp [hlt]))
  · simp at hv

theorem ok_indexAddr_slice {t e : TypeId} {x i : Operand} {z : Nat} (ho : o.op = .indexAddr t x i) (ht : P.underlying t = some (.slice e)) (hz : szOf P e = some z) (h0 : 0 < z) (hx : compArg x = some ax) (hi : compArg i = some ay)
    (hv : opVal s m (.indexAddr none z ax ay) = some (v, m')) (hs : SRel ι S w s.get a.tmps) (hm : MRel ι S m.heap.get w) : OpOk P ι S w a m o v m' := by
  have run : ∀ (ad : Addr) (n c : Nat) (k : IntKind) (j : Int), 0 ≤ j → j < (n : Int) → (Instr.indexAt t (.slice (some ad) n c) (.int k j)).run P w = .ok (.pointer (some (ad.add (j.toNat * z)))) w := by
    intro ad n c k j hj0 hjn
    simp [Instr.indexAt, asIntOf, run_underlying ht, hj0, hjn, run_sizeOf_some hz]
  simp only [opVal] at hv
  split at hv
  · rename_i h1 h2; simp at hv
  · rename_i h1 h2; simp at hv
  · rename_i id off len e' cap j hx' hj'
    split at hv
    · rename_i hb
      obtain ⟨rfl, hb0, hbn⟩ := hb
      simp only [Option.some.injEq, Prod.mk.injEq] at hv
      obtain ⟨rfl, rfl⟩ := hv
      obtain ⟨b, o', c, ad, e1, hid, hlc, _, had, _⟩ := rep_sl (arg_rep hx hs hx')
      simp only [Option.bind_eq_some_iff] at hj'
      obtain ⟨av, ha1, ha2⟩ := hj'
      obtain ⟨k, e2⟩ := rep_int' (arg_rep hi hs ha1) ha2
      have hc : c ≠ 0 := by omega
      obtain rfl := had hc
      refine OpOk.value (u := .pointer (some ⟨b, o' + off + j.toNat * e', none⟩)) (by simp [execOp, ho, e1, e2, run _ _ _ _ _ hb0 hbn, addr_add_mk]) hm ?_
      rw [Nat.add_assoc]
      exact .ptr hid
    · simp at hv
  · rename_i cs len cap j hx' hj'
    split at hv
    · rename_i hb
      obtain ⟨hb0, hbn, hbl⟩ := hb
      simp only [Option.some.injEq, Prod.mk.injEq] at hv
      obtain ⟨rfl, rfl⟩ := hv
      obtain ⟨ad, c, vs, e1, hlc, _, hsp, hcell, hrep, hone⟩ := rep_rs (arg_rep hx hs hx')
      simp only [Option.bind_eq_some_iff] at hj'
      obtain ⟨av, ha1, ha2⟩ := hj'
      obtain ⟨k, e2⟩ := rep_int' (arg_rep hi hs ha1) ha2
      exact OpOk.value (u := .pointer (some (ad.add (j.toNat * z)))) (by simp [execOp, ho, e1, e2, run _ _ _ _ _ hb0 hbn]) hm (ro_drop (.ro vs hsp hcell hrep hone) _)
    · simp at hv
  · simp at hv

theorem ok_indexAddr_array {t e : TypeId} {x i : Operand} {n z : Nat} (ho : o.op = .indexAddr t x i) (ht : P.underlying t = some (.array n e)) (hz : szOf P e = some z) (h0 : 0 < z) (hx : compArg x = some ax) (hi : compArg i = some ay)
    (hv : opVal s m (.indexAddr (some n) z ax ay) = some (v, m')) (hs : SRel ι S w s.get a.tmps) (hm : MRel ι S m.heap.get w) : OpOk P ι S w a m o v m' := by
  have run : ∀ ad k j, 0 ≤ j → j < (n : Int) → (Instr.indexAt t (.pointer (some ad)) (.int k j)).run P w = .ok (.pointer (some (ad.add (j.toNat * z)))) w := by
    intro ad k j hj0 hjn
    simp [Instr.indexAt, asIntOf, run_underlying ht, hj0, hjn, run_sizeOf_some hz, Instr.sureAddr]
  simp only [opVal] at hv
  split at hv
  · rename_i id off j hx' hj'
    split at hv
    · rename_i hb
      simp only [Option.some.injEq, Prod.mk.injEq] at hv
      obtain ⟨rfl, rfl⟩ := hv
      obtain ⟨b, o', hid, e1⟩ := rep_ptr (arg_rep hx hs hx')
      simp only [Option.bind_eq_some_iff] at hj'
      obtain ⟨av, ha1, ha2⟩ := hj'
      obtain ⟨k, e2⟩ := rep_int' (arg_rep hi hs ha1) ha2
      refine OpOk.value (u := .pointer (some ⟨b, o' + off + j.toNat * z, none⟩)) (by simp [execOp, ho, e1, e2, run _ _ _ hb.1 hb.2, addr_add_mk]) hm ?_
      rw [Nat.add_assoc]
      exact .ptr hid
    · simp at hv
  · rename_i cs j hx' hj'
    split at hv
    · rename_i hb
      simp only [Option.some.injEq, Prod.mk.injEq] at hv
      obtain ⟨rfl, rfl⟩ := hv
      have hr := arg_rep hx hs hx'
      obtain ⟨ad, vs, e1, _⟩ := rep_ro hr
      rw [e1] at hr
      simp only [Option.bind_eq_some_iff] at hj'
      obtain ⟨av, ha1, ha2⟩ := hj'
      obtain ⟨k, e2⟩ := rep_int' (arg_rep hi hs ha1) ha2
      exact OpOk.value (u := .pointer (some (ad.add (j.toNat * z)))) (by simp [execOp, ho, e1, e2, run _ _ _ hb.1 hb.2.1]) hm (ro_drop hr _)
    · simp at hv
  · simp at hv
  · simp at hv
  · simp at hv

/-! ### Lengths -/
theorem ok_lenC {t : TypeId} {c : Call} {x : Operand} {n : Nat} {e : TypeId} (ho : o.op = .call c) (hc : c.callee = .builtin .len) (hargs : c.args.toList = [x]) (htys : c.argTypes.toList = [t]) (ht : P.underlying t = some (.array n e))
    (hv : opVal s m (.lenC n) = some (v, m')) (hm : MRel ι S m.heap.get w) : OpOk P ι S w a m o v m' := by
  simp only [opVal, Option.some.injEq, Prod.mk.injEq] at hv
  obtain ⟨rfl, rfl⟩ := hv
  have ea : c.args = #[x] := by rw [← Array.toArray_toList (xs := c.args), hargs]
  have et : c.argTypes = #[t] := by rw [← Array.toArray_toList (xs := c.argTypes), htys]
  exact OpOk.value (u := .int .i64 n) (by simp [execOp, ho, resolve, hc, ea, et, invoke, builtin, Builtin.len_, run_underlying ht, goInt]) hm (.sc rfl)

theorem sliceLen_rep {x : AVal} {n : Nat} {u : Value} (h : Rep ι S w x u) (hn : sliceLen x = some n) : ∃ b c, u = .slice b n c ∧ n ≤ c := by
  unfold sliceLen at hn
  split at hn <;> simp only [Option.some.injEq, reduceCtorEq] at hn
  · subst hn
    exact ⟨none, 0, rep_nil h, Nat.le_refl _⟩
  · subst hn
    obtain ⟨b, o', c, ad, e, _, hl, _⟩ := rep_sl h
    exact ⟨_, c, e, hl⟩
  · subst hn
    obtain ⟨ad, c, vs, e, hl, _⟩ := rep_rs h
    exact ⟨_, c, e, hl⟩

theorem ok_lenStr {t : TypeId} {c : Call} {x : Operand} (ho : o.op = .call c) (hc : c.callee = .builtin .len) (hargs : c.args.toList = [x]) (htys : c.argTypes.toList = [t]) (ht : P.underlying t = some .string)
    (hx : compArg x = some ax) (hv : opVal s m (.lenStr ax) = some (v, m')) (hs : SRel ι S w s.get a.tmps) (hm : MRel ι S m.heap.get w) : OpOk P ι S w a m o v m' := by
  have ea : c.args = #[x] := by rw [← Array.toArray_toList (xs := c.args), hargs]
  have et : c.argTypes = #[t] := by rw [← Array.toArray_toList (xs := c.argTypes), htys]
  simp only [opVal] at hv
  split at hv
  · rename_i b h1
    simp only [Option.some.injEq, Prod.mk.injEq] at hv
    obtain ⟨rfl, rfl⟩ := hv
    have e1 := rep_string (arg_rep hx hs h1)
    exact OpOk.value (u := .int .i64 b.size) (by simp [execOp, ho, resolve, hc, ea, et, invoke, builtin, Builtin.len_, run_underlying ht, goInt, e1]) hm (.sc rfl)
  · simp at hv
theorem ok_len {t e : TypeId} {c : Call} {x : Operand} (ho : o.op = .call c) (hc : c.callee = .builtin .len) (hargs : c.args.toList = [x]) (htys : c.argTypes.toList = [t]) (ht : P.underlying t = some (.slice e))
    (hx : compArg x = some ax) (hv : opVal s m (.len ax) = some (v, m')) (hs : SRel ι S w s.get a.tmps) (hm : MRel ι S m.heap.get w) : OpOk P ι S w a m o v m' := by
  have ea : c.args = #[x] := by rw [← Array.toArray_toList (xs := c.args), hargs]
  have et : c.argTypes = #[t] := by rw [← Array.toArray_toList (xs := c.argTypes), htys]
  simp only [opVal] at hv
  split at hv
  · rename_i y h1
    simp only [Option.map_eq_some_iff, Prod.mk.injEq] at hv
    obtain ⟨n, hn, rfl, rfl⟩ := hv
    obtain ⟨b, cc, e1, _⟩ := sliceLen_rep (arg_rep hx hs h1) hn
    exact OpOk.value (u := .int .i64 n) (by simp [execOp, ho, resolve, hc, ea, et, invoke, builtin, Builtin.len_, run_underlying ht, goInt, e1]) hm (.sc rfl)
  · simp at hv
theorem ok_cap {t e : TypeId} {c : Call} {x : Operand} (ho : o.op = .call c) (hc : c.callee = .builtin .cap) (hargs : c.args.toList = [x]) (htys : c.argTypes.toList = [t]) (ht : P.underlying t = some (.slice e))
    (hx : compArg x = some ax) (hv : opVal s m (.cap ax) = some (v, m')) (hs : SRel ι S w s.get a.tmps) (hm : MRel ι S m.heap.get w) : OpOk P ι S w a m o v m' := by
  have ea : c.args = #[x] := by rw [← Array.toArray_toList (xs := c.args), hargs]
  have et : c.argTypes = #[t] := by rw [← Array.toArray_toList (xs := c.argTypes), htys]
  have key : ∀ b n k, a.eval x = .slice b n k → (execOp a.eval o).run P w = .ok (.value (.int .i64 k)) w := by
    intro b n k e1
    simp [execOp, ho, resolve, hc, ea, et, invoke, builtin, Builtin.cap_, run_underlying ht, goInt, e1]
  simp only [opVal] at hv
  split at hv
  · rename_i h1
    simp only [Option.some.injEq, Prod.mk.injEq] at hv
    obtain ⟨rfl, rfl⟩ := hv
    exact OpOk.value (key _ _ _ (rep_nil (arg_rep hx hs h1))) hm (.sc rfl)
  · rename_i h1
    simp only [Option.some.injEq, Prod.mk.injEq] at hv
    obtain ⟨rfl, rfl⟩ := hv
    obtain ⟨b, o', c', ad, e1, _, _, hk, _⟩ := rep_sl (arg_rep hx hs h1)
    obtain rfl := hk _ rfl
    exact OpOk.value (key _ _ _ e1) hm (.sc rfl)
  · rename_i h1
    simp only [Option.some.injEq, Prod.mk.injEq] at hv
    obtain ⟨rfl, rfl⟩ := hv
    obtain ⟨ad, c', vs, e1, _, hk, _⟩ := rep_rs (arg_rep hx hs h1)
    obtain rfl := hk _ rfl
    exact OpOk.value (key _ _ _ e1) hm (.sc rfl)
  · simp at hv
end
end Go.Am
