/- Parts of the proof, joined by program: AmOps2, AmOps3. -/
import Derived.Test.YtfaphhcloanhnaaPa13
set_option linter.unusedSimpArgs false
set_option linter.unusedVariables false
namespace Go.Am
section
variable {P : Program} {ι : Inj} {S : Nat → Prop} {w : World} {s : Tr AVal} {a : Act} {m m' : Mem} {v : AVal} {o : Oper} {ax ay az : Arg}

theorem addr_add_block (a : Addr) (n : Nat) : (a.add n).block = a.block := by unfold Addr.add; split <;> rfl
theorem addr_add_off (a : Addr) (n : Nat) : (a.add n).off = a.off + n := by unfold Addr.add; split <;> simp_all
theorem addr_add_spot (a : Addr) (n : Nat) (h : a.spot = none) : (a.add n).spot = none := by unfold Addr.add; split <;> simp_all
theorem addr_add_mk (b o n : Nat) : (⟨b, o, none⟩ : Addr).add n = ⟨b, o + n, none⟩ := by unfold Addr.add; split <;> simp_all
theorem addr_eta (a : Addr) (h : a.spot = none) : a = ⟨a.block, a.off, none⟩ := by cases a; simp_all

/-- The rest of a row that stays. -/
theorem ro_drop {cells : List AVal} {ad : Addr} (h : Rep ι S w (.ro cells) (.pointer (some ad))) (n : Nat) : Rep ι S w (.ro (cells.drop n)) (.pointer (some (ad.add n))) := by
  obtain ⟨ad', vs, e, h1, h2, h3, h4⟩ := rep_ro h
  simp at e
  subst e
  refine .ro (fun j => vs (n + j)) (fun hl => ?_) (fun j hj => ?_) (fun j c hc => ?_) (fun c hc => h4 c (List.mem_of_mem_drop hc))
  · obtain ⟨p, q⟩ := h1 (by simp at hl; omega)
    exact ⟨addr_add_spot _ _ p, by rw [addr_add_block]; exact q⟩
  · rw [addr_add_block, addr_add_off, Nat.add_assoc]
    exact h2 _ (by simp at hj; omega)
  · exact h3 _ c (by rw [List.getElem?_drop] at hc; exact hc)

theorem szOf_some {t : TypeId} {n : Nat} (h : szOf P t = some n) : ∃ i, P.info? t = some i ∧ i.size = n := by
  simpa [szOf] using h
theorem run_sizeOf_some {t : TypeId} {n : Nat} (h : szOf P t = some n) (w : World) : (sizeOf t).run P w = .ok n w := by
  obtain ⟨i, h1, rfl⟩ := szOf_some h
  simp [sizeOf, typeInfo, h1]
theorem run_isAgg_some {t : TypeId} {b : Bool} (h : aggOf P t = some b) (w : World) : (isAgg t).run P w = .ok b w := by
  unfold aggOf at h
  unfold isAgg
  cases hu : P.underlying t with
  | none => simp [hu] at h
  | some d =>
    simp only [hu] at h
    simp only [Sem.run_bind, run_underlying hu, Result.andThen_ok]
    cases d <;> simp_all

theorem ok_fieldAddr {t : TypeId} {x : Operand} {i : Nat} {fs : Array Field} {f : Field} {n : Nat} (ho : o.op = .fieldAddr t x i) (ht : P.underlying t = some (.struct fs)) (hfi : fs[i]? = some f) (hn : szOf P f.type = some n) (h0 : 0 < n)
    (hx : compArg x = some ax) (hv : opVal s m (.fieldAddr f.offset ax) = some (v, m')) (hs : SRel ι S w s.get a.tmps) (hm : MRel ι S m.heap.get w) : OpOk P ι S w a m o v m' := by
  have run : ∀ ad, (Instr.fieldAt t (.pointer (some ad)) i).run P w = .ok (.pointer (some (ad.add f.offset))) w := by
    intro ad
    simp [Instr.fieldAt, run_underlying ht, hfi, Instr.sureAddr, fieldPlace, run_sizeOf_some hn, Nat.ne_of_gt h0]
  simp only [opVal] at hv
  split at hv
  · rename_i h1
    simp only [Option.some.injEq, Prod.mk.injEq] at hv
    obtain ⟨rfl, rfl⟩ := hv
    obtain ⟨b, o', hb, e⟩ := rep_ptr (arg_rep hx hs h1)
    refine OpOk.value (u := .pointer (some ⟨b, o' + _ + f.offset, none⟩)) (by simp [execOp, ho, e, run, addr_add_mk]; rfl) hm ?_
    rw [Nat.add_assoc]
    exact .ptr hb
  · rename_i h1
    split at hv
    · simp only [Option.some.injEq, Prod.mk.injEq] at hv
      obtain ⟨rfl, rfl⟩ := hv
      have hr := arg_rep hx hs h1
      obtain ⟨ad, vs, e, _⟩ := rep_ro hr
      rw [e] at hr
      exact OpOk.value (u := .pointer (some (ad.add f.offset))) (by simp [execOp, ho, e, run]) hm (ro_drop hr _)
    · simp at hv
  · simp at hv

/-- A part of an aggregate. -/
theorem run_part {t : TypeId} {g : Bool} {n : Nat} {vs : Array Value} {cs r : List AVal} {x : AVal} {off : Nat} (hg : aggOf P t = some g) (hn : szOf P t = some n) (hr : RepL ι S w cs vs.toList) (hseg : seg cs off (if g then n else 1) = some r) (hx : asVar g r = some x) :
    ∃ u, (part t vs off).run P w = .ok u w ∧ Rep ι S w x u := by
  have hs := hr.seg hseg
  obtain ⟨hl, rfl⟩ := seg_spec hseg
  cases g with
  | true =>
    obtain rfl := asVar_true hx
    simp only [if_true] at hl hs
    refine ⟨.agg (vs.extract off (off + n)), by simp [part, run_isAgg_some hg, run_sizeOf_some hn], rep_agg_mk ?_⟩
    simpa [Array.toList_extract, List.extract] using hs
  | false =>
    have e := asVar_false hx
    simp only [Bool.false_eq_true, if_false] at hl hs e
    rw [e] at hs
    have hlen : off < vs.size := by have := hr.length; simp at this; omega
    refine ⟨vs[off], by simp [part, run_isAgg_some hg, hlen], ?_⟩
    refine hs.2 0 x _ rfl ?_
    simp [List.getElem?_take, List.getElem?_drop, hlen]

theorem ok_field {t : TypeId} {x : Operand} {i : Nat} {fs : Array Field} {f : Field} {n : Nat} {g : Bool} (ho : o.op = .field t x i) (ht : P.underlying t = some (.struct fs)) (hfi : fs[i]? = some f) (hg : aggOf P f.type = some g) (hn : szOf P f.type = some n)
    (hx : compArg x = some ax) (hv : opVal s m (.field g f.offset (if g then n else 1) ax) = some (v, m')) (hs : SRel ι S w s.get a.tmps) (hm : MRel ι S m.heap.get w) : OpOk P ι S w a m o v m' := by
  simp only [opVal] at hv
  split at hv
  · rename_i cs h1
    split at hv
    · rename_i r hr
      simp only [Option.map_eq_some_iff, Prod.mk.injEq] at hv
      obtain ⟨y, hy, rfl, rfl⟩ := hv
      obtain ⟨vs, e, hrep⟩ := rep_agg (arg_rep hx hs h1)
      obtain ⟨u, hu, hru⟩ := run_part hg hn hrep hr hy
      exact OpOk.value (u := u) (by simp [execOp, ho, e, Instr.field, run_underlying ht, hfi, asAgg, hu]) hm hru
    · simp at hv
  · simp at hv

theorem ok_index {t : TypeId} {x i : Operand} {e : TypeId} {n z : Nat} {g : Bool} (ho : o.op = .index t x i) (ht : P.underlying t = some (.array n e)) (hg : aggOf P e = some g) (hn : szOf P e = some z) (h1 : g = false → z = 1)
    (hx : compArg x = some ax) (hi : compArg i = some ay) (hv : opVal s m (.index g n z ax ay) = some (v, m')) (hs : SRel ι S w s.get a.tmps) (hm : MRel ι S m.heap.get w) : OpOk P ι S w a m o v m' := by
  simp only [opVal] at hv
  split at hv
  · rename_i cs j hx' hj'
    split at hv
    · rename_i hb
      split at hv
      · rename_i r hr
        simp only [Option.map_eq_some_iff, Prod.mk.injEq] at hv
        obtain ⟨y, hy, rfl, rfl⟩ := hv
        obtain ⟨vs, e1, hrep⟩ := rep_agg (arg_rep hx hs hx')
        simp only [Option.bind_eq_some_iff] at hj'
        obtain ⟨av, ha1, ha2⟩ := hj'
        obtain ⟨k, e2⟩ := rep_int' (arg_rep hi hs ha1) ha2
        have hz : (if g then z else 1) = z := by cases g <;> simp_all
        obtain ⟨u, hu, hru⟩ := run_part hg hn hrep (by rw [hz]; exact hr) hy
        exact OpOk.value (u := u) (by simp [execOp, ho, e1, e2, Instr.index, asIntOf, run_underlying ht, hb.1, hb.2, run_sizeOf_some hn, hu]) hm hru
      · simp at hv
    · simp at hv
  · simp at hv

theorem ok_indexStr {t : TypeId} {x i : Operand} (ho : o.op = .index t x i) (ht : P.underlying t = some .string) (hx : compArg x = some ax) (hi : compArg i = some ay) (hv : opVal s m (.indexStr ax ay) = some (v, m')) (hs : SRel ι S w s.get a.tmps) (hm : MRel ι S m.heap.get w) : OpOk P ι S w a m o v m' := by
  simp only [opVal] at hv
  split at hv
  · rename_i b j hx' hj'
    split at hv
    · rename_i hb
      split at hv
      · rename_i c hc
        simp only [Option.some.injEq, Prod.mk.injEq] at hv
        obtain ⟨rfl, rfl⟩ := hv
        have e1 := rep_string (arg_rep hx hs hx')
        simp only [Option.bind_eq_some_iff] at hj'
        obtain ⟨av, ha1, ha2⟩ := hj'
        obtain ⟨k, e2⟩ := rep_int' (arg_rep hi hs ha1) ha2
        exact OpOk.value (u := .int .u8 c.toNat) (by simp [execOp, ho, e1, e2, Instr.index, asIntOf, run_underlying ht, hb, hc]) hm (.sc rfl)
      · simp at hv
    · simp at hv
  · simp at hv

theorem ok_extract {x : Operand} {i : Nat} (ho : o.op = .extract x i) (hx : compArg x = some ax) (hv : opVal s m (.extract ax i) = some (v, m')) (hs : SRel ι S w s.get a.tmps) (hm : MRel ι S m.heap.get w) : OpOk P ι S w a m o v m' := by
  simp only [opVal] at hv
  split at hv
  · rename_i vs h1
    simp only [Option.map_eq_some_iff, Prod.mk.injEq] at hv
    obtain ⟨y, hy, rfl, rfl⟩ := hv
    obtain ⟨us, e, hl, hr⟩ := rep_tup (arg_rep hx hs h1)
    have hlt : i < us.size := by
      have := (List.getElem?_eq_some_iff.1 hy).1
      simp at hl
      omega
    exact OpOk.value (u := us[i]) (by simp [execOp, ho, e, Instr.extract, hlt]) hm (hr i y _ hy (by simp [hlt]))
  · simp at hv

theorem ok_indexAddr_slice {t e : TypeId} {x i : Operand} {z : Nat} (ho : o.op = .indexAddr t x i) (ht : P.underlying t = some (.slice e)) (hz : szOf P e = some z) (h0 : 0 < z) (hx : compArg x = some ax) (hi : compArg i = some ay)
    (hv : opVal s m (.indexAddr none z ax ay) = some (v, m')) (hs : SRel ι S w s.get a.tmps) (hm : MRel ι S m.heap.get w) : OpOk P ι S w a m o v m' := by
  have run : ∀ (ad : Addr) (n c : Nat) (k : IntKind) (j : Int), 0 ≤ j → j < (n : Int) → (Instr.indexAt t (.slice (some ad) n c) (.int k j)).run P w = .ok (.pointer (some (ad.add (j.toNat * z)))) w := by
    intro ad n c k j hj0 hjn
    simp [Instr.indexAt, asIntOf, run_underlying ht, hj0, hjn, run_sizeOf_some hz]
  simp only [opVal] at hv
  split at hv
  · rename_i h1 h2; simp at hv
  · rename_i h1 h2; simp at hv
  · rename_i id off len e' cap j hx' hj'
    split at hv
    · rename_i hb
      obtain ⟨rfl, hb0, hbn⟩ := hb
      simp only [Option.some.injEq, Prod.mk.injEq] at hv
      obtain ⟨rfl, rfl⟩ := hv
      obtain ⟨b, o', c, ad, e1, hid, hlc, _, had, _⟩ := rep_sl (arg_rep hx hs hx')
      simp only [Option.bind_eq_some_iff] at hj'
      obtain ⟨av, ha1, ha2⟩ := hj'
      obtain ⟨k, e2⟩ := rep_int' (arg_rep hi hs ha1) ha2
      have hc : c ≠ 0 := by omega
      obtain rfl := had hc
      refine OpOk.value (u := .pointer (some ⟨b, o' + off + j.toNat * e', none⟩)) (by simp [execOp, ho, e1, e2, run _ _ _ _ _ hb0 hbn, addr_add_mk]) hm ?_
      rw [Nat.add_assoc]
      exact .ptr hid
    · simp at hv
  · rename_i cs len cap j hx' hj'
    split at hv
    · rename_i hb
      obtain ⟨hb0, hbn, hbl⟩ := hb
      simp only [Option.some.injEq, Prod.mk.injEq] at hv
      obtain ⟨rfl, rfl⟩ := hv
      obtain ⟨ad, c, vs, e1, hlc, _, hsp, hcell, hrep, hone⟩ := rep_rs (arg_rep hx hs hx')
      simp only [Option.bind_eq_some_iff] at hj'
      obtain ⟨av, ha1, ha2⟩ := hj'
      obtain ⟨k, e2⟩ := rep_int' (arg_rep hi hs ha1) ha2
      exact OpOk.value (u := .pointer (some (ad.add (j.toNat * z)))) (by simp [execOp, ho, e1, e2, run _ _ _ _ _ hb0 hbn]) hm (ro_drop (.ro vs hsp hcell hrep hone) _)
    · simp at hv
  · simp at hv

theorem ok_indexAddr_array {t e : TypeId} {x i : Operand} {n z : Nat} (ho : o.op = .indexAddr t x i) (ht : P.underlying t = some (.array n e)) (hz : szOf P e = some z) (h0 : 0 < z) (hx : compArg x = some ax) (hi : compArg i = some ay)
    (hv : opVal s m (.indexAddr (some n) z ax ay) = some (v, m')) (hs : SRel ι S w s.get a.tmps) (hm : MRel ι S m.heap.get w) : OpOk P ι S w a m o v m' := by
  have run : ∀ ad k j, 0 ≤ j → j < (n : Int) → (Instr.indexAt t (.pointer (some ad)) (.int k j)).run P w = .ok (.pointer (some (ad.add (j.toNat * z)))) w := by
    intro ad k j hj0 hjn
    simp [Instr.indexAt, asIntOf, run_underlying ht, hj0, hjn, run_sizeOf_some hz, Instr.sureAddr]
  simp only [opVal] at hv
  split at hv
  · rename_i id off j hx' hj'
    split at hv
    · rename_i hb
      simp only [Option.some.injEq, Prod.mk.injEq] at hv
      obtain ⟨rfl, rfl⟩ := hv
      obtain ⟨b, o', hid, e1⟩ := rep_ptr (arg_rep hx hs hx')
      simp only [Option.bind_eq_some_iff] at hj'
      obtain ⟨av, ha1, ha2⟩ := hj'
      obtain ⟨k, e2⟩ := rep_int' (arg_rep hi hs ha1) ha2
      refine OpOk.value (u := .pointer (some ⟨b, o' + off + j.toNat * z, none⟩)) (by simp [execOp, ho, e1, e2, run _ _ _ hb.1 hb.2, addr_add_mk]) hm ?_
      rw [Nat.add_assoc]
      exact .ptr hid
    · simp at hv
  · rename_i cs j hx' hj'
    split at hv
    · rename_i hb
      simp only [Option.some.injEq, Prod.mk.injEq] at hv
      obtain ⟨rfl, rfl⟩ := hv
      have hr := arg_rep hx hs hx'
      obtain ⟨ad, vs, e1, _⟩ := rep_ro hr
      rw [e1] at hr
      simp only [Option.bind_eq_some_iff] at hj'
      obtain ⟨av, ha1, ha2⟩ := hj'
      obtain ⟨k, e2⟩ := rep_int' (arg_rep hi hs ha1) ha2
      exact OpOk.value (u := .pointer (some (ad.add (j.toNat * z)))) (by simp [execOp, ho, e1, e2, run _ _ _ hb.1 hb.2.1]) hm (ro_drop hr _)
    · simp at hv
  · simp at hv
  · simp at hv
  · simp at hv

/-! ### Lengths -/
theorem ok_lenC {t : TypeId} {c : Call} {x : Operand} {n : Nat} {e : TypeId} (ho : o.op = .call c) (hc : c.callee = .builtin .len) (hargs : c.args.toList = [x]) (htys : c.argTypes.toList = [t]) (ht : P.underlying t = some (.array n e))
    (hv : opVal s m (.lenC n) = some (v, m')) (hm : MRel ι S m.heap.get w) : OpOk P ι S w a m o v m' := by
  simp only [opVal, Option.some.injEq, Prod.mk.injEq] at hv
  obtain ⟨rfl, rfl⟩ := hv
  have ea : c.args = #[x] := by rw [← Array.toArray_toList (xs := c.args), hargs]
  have et : c.argTypes = #[t] := by rw [← Array.toArray_toList (xs := c.argTypes), htys]
  exact OpOk.value (u := .int .i64 n) (by simp [execOp, ho, resolve, hc, ea, et, invoke, builtin, Builtin.len_, run_underlying ht, goInt]) hm (.sc rfl)

theorem sliceLen_rep {x : AVal} {n : Nat} {u : Value} (h : Rep ι S w x u) (hn : sliceLen x = some n) : ∃ b c, u = .slice b n c ∧ n ≤ c := by
  unfold sliceLen at hn
  split at hn <;> simp only [Option.some.injEq, reduceCtorEq] at hn
  · subst hn
    exact ⟨none, 0, rep_nil h, Nat.le_refl _⟩
  · subst hn
    obtain ⟨b, o', c, ad, e, _, hl, _⟩ := rep_sl h
    exact ⟨_, c, e, hl⟩
  · subst hn
    obtain ⟨ad, c, vs, e, hl, _⟩ := rep_rs h
    exact ⟨_, c, e, hl⟩

theorem ok_lenStr {t : TypeId} {c : Call} {x : Operand} (ho : o.op = .call c) (hc : c.callee = .builtin .len) (hargs : c.args.toList = [x]) (htys : c.argTypes.toList = [t]) (ht : P.underlying t = some .string)
    (hx : compArg x = some ax) (hv : opVal s m (.lenStr ax) = some (v, m')) (hs : SRel ι S w s.get a.tmps) (hm : MRel ι S m.heap.get w) : OpOk P ι S w a m o v m' := by
  have ea : c.args = #[x] := by rw [← Array.toArray_toList (xs := c.args), hargs]
  have et : c.argTypes = #[t] := by rw [← Array.toArray_toList (xs := c.argTypes), htys]
  simp only [opVal] at hv
  split at hv
  · rename_i b h1
    simp only [Option.some.injEq, Prod.mk.injEq] at hv
    obtain ⟨rfl, rfl⟩ := hv
    have e1 := rep_string (arg_rep hx hs h1)
    exact OpOk.value (u := .int .i64 b.size) (by simp [execOp, ho, resolve, hc, ea, et, invoke, builtin, Builtin.len_, run_underlying ht, goInt, e1]) hm (.sc rfl)
  · simp at hv
theorem ok_len {t e : TypeId} {c : Call} {x : Operand} (ho : o.op = .call c) (hc : c.callee = .builtin .len) (hargs : c.args.toList = [x]) (htys : c.argTypes.toList = [t]) (ht : P.underlying t = some (.slice e))
    (hx : compArg x = some ax) (hv : opVal s m (.len ax) = some (v, m')) (hs : SRel ι S w s.get a.tmps) (hm : MRel ι S m.heap.get w) : OpOk P ι S w a m o v m' := by
  have ea : c.args = #[x] := by rw [← Array.toArray_toList (xs := c.args), hargs]
  have et : c.argTypes = #[t] := by rw [← Array.toArray_toList (xs := c.argTypes), htys]
  simp only [opVal] at hv
  split at hv
  · rename_i y h1
    simp only [Option.map_eq_some_iff, Prod.mk.injEq] at hv
    obtain ⟨n, hn, rfl, rfl⟩ := hv
    obtain ⟨b, cc, e1, _⟩ := sliceLen_rep (arg_rep hx hs h1) hn
    exact OpOk.value (u := .int .i64 n) (by simp [execOp, ho, resolve, hc, ea, et, invoke, builtin, Builtin.len_, run_underlying ht, goInt, e1]) hm (.sc rfl)
  · simp at hv
theorem ok_cap {t e : TypeId} {c : Call} {x : Operand} (ho : o.op = .call c) (hc : c.callee = .builtin .cap) (hargs : c.args.toList = [x]) (htys : c.argTypes.toList = [t]) (ht : P.underlying t = some (.slice e))
    (hx : compArg x = some ax) (hv : opVal s m (.cap ax) = some (v, m')) (hs : SRel ι S w s.get a.tmps) (hm : MRel ι S m.heap.get w) : OpOk P ι S w a m o v m' := by
  have ea : c.args = #[x] := by rw [← Array.toArray_toList (xs := c.args), hargs]
  have et : c.argTypes = #[t] := by rw [← Array.toArray_toList (xs := c.argTypes), htys]
  have key : ∀ b n k, a.eval x = .slice b n k → (execOp a.eval o).run P w = .ok (.value (.int .i64 k)) w := by
    intro b n k e1
    simp [execOp, ho, resolve, hc, ea, et, invoke, builtin, Builtin.cap_, run_underlying ht, goInt, e1]
  simp only [opVal] at hv
  split at hv
  · rename_i h1
    simp only [Option.some.injEq, Prod.mk.injEq] at hv
    obtain ⟨rfl, rfl⟩ := hv
    exact OpOk.value (key _ _ _ (rep_nil (arg_rep hx hs h1))) hm (.sc rfl)
  · rename_i h1
    simp only [Option.some.injEq, Prod.mk.injEq] at hv
    obtain ⟨rfl, rfl⟩ := hv
    obtain ⟨b, o', c', ad, e1, _, _, hk, _⟩ := rep_sl (arg_rep hx hs h1)
    obtain rfl := hk _ rfl
    exact OpOk.value (key _ _ _ e1) hm (.sc rfl)
  · rename_i h1
    simp only [Option.some.injEq, Prod.mk.injEq] at hv
    obtain ⟨rfl, rfl⟩ := hv
    obtain ⟨ad, c', vs, e1, _, hk, _⟩ := rep_rs (arg_rep hx hs h1)
    obtain rfl := hk _ rfl
    exact OpOk.value (key _ _ _ e1) hm (.sc rfl)
  · simp at hv
end
end Go.Am
namespace Go.Am
section
variable {P : Program} {ι : Inj} {S : Nat → Prop} {w : World} {s : Tr AVal} {a : Act} {m m' : Mem} {v : AVal} {o : Oper} {ax ay az : Arg}

/-- A bound that is given, or not. -/
def IsOpt : Option Int → Option Value → Prop
  | none, none => True
  | some i, some u => ∃ k, u = .int k i
  | _, _ => False
theorem argOpt_rep {x : Option Operand} {ax : Option Arg} {i : Option Int} (hc : compOpt x = some ax) (hs : SRel ι S w s.get a.tmps) (hv : argOpt s ax = some i) : IsOpt i (x.map a.eval) := by
  cases x with
  | none =>
    simp [compOpt] at hc
    subst hc
    simp [argOpt] at hv
    subst hv
    trivial
  | some x =>
    simp only [compOpt, Option.map_eq_some_iff] at hc
    obtain ⟨ay, h1, rfl⟩ := hc
    simp only [argOpt] at hv
    split at hv
    · rename_i u hu
      simp only [Option.map_eq_some_iff] at hv
      obtain ⟨n, hn, rfl⟩ := hv
      exact rep_int' (arg_rep h1 hs hu) hn
    · simp at hv

theorem upTo_le {len sCap : Nat} {cap : Option Nat} {h : Int} (hu : upTo len cap h = true) (hle : len ≤ sCap) (hk : ∀ k, cap = some k → sCap = k) : h ≤ sCap := by
  unfold upTo at hu
  cases cap with
  | none => simp at hu; omega
  | some k =>
    have := hk k rfl
    simp at hu
    omega

def optOr (o : Option Int) (d : Nat) : Nat := match o with | some q => q.toNat | none => d
theorem optOr_some (q : Int) (d : Nat) : optOr (some q) d = q.toNat := rfl
theorem optOr_none (d : Nat) : optOr none d = d := rfl
theorem bounds3_some {len : Nat} {cap : Option Nat} {lo hi : Option Int} {m : Int} {l h : Nat} {c : Option Nat} (hb : bounds3 len cap lo hi (some m) = some (l, h, c)) : c ≠ none := by
  unfold bounds3 at hb
  split at hb
  · simp at hb
  · split at hb
    · simp at hb
    · rename_i hm
      simp only at hm
      split at hm
      · simp only [Option.some.injEq] at hm
        subst hm
        split at hb
        · simp only [Option.some.injEq, Prod.mk.injEq] at hb
          rw [← hb.2.2]; simp
        · split at hb
          · simp only [Option.some.injEq, Prod.mk.injEq] at hb
            rw [← hb.2.2]; simp
          · simp at hb
      · simp at hm
theorem bounds3_run {isSlice : Bool} {len sCap : Nat} {cap : Option Nat} {lo hi mx : Option Int} {l h : Nat} {c : Option Nat} {vlo vhi vmx : Option Value} (hb : bounds3 len cap lo hi mx = some (l, h, c)) (hle : len ≤ sCap) (hk : ∀ k, cap = some k → sCap = k)
    (h1 : IsOpt lo vlo) (h2 : IsOpt hi vhi) (h3 : IsOpt mx vmx) :
    ∃ mm, (Instr.sliceBounds isSlice len sCap vlo vhi vmx).run P w = .ok (l, h, mm) w ∧ l ≤ h ∧ h ≤ mm ∧ mm ≤ sCap ∧ (∀ k, c = some k → mm = k) ∧ (mx = none → mm = sCap ∧ c = cap) ∧ (cap = none → h ≤ len) := by
  unfold bounds3 at hb
  split at hb
  · simp at hb
  · rename_i h' hh
    split at hb
    · simp at hb
    · rename_i m' hm'
      have hhc : h' ≤ sCap ∧ (cap = none → h' ≤ len) := by
        cases hi with
        | none => simp at hh; omega
        | some q =>
          simp only at hh
          split at hh
          · rename_i hq
            simp at hh
            have := upTo_le hq.2 hle hk
            refine ⟨by omega, fun hn => ?_⟩
            have h2 := hq.2
            subst hn
            simp [upTo] at h2
            omega
          · simp at hh
      have hmm : ∃ mm, optOr mx sCap = mm ∧ h' ≤ mm ∧ mm ≤ sCap ∧ (∀ k, m' = some k → mm = k) ∧ (mx = none → mm = sCap ∧ m' = cap) ∧ (∀ q, mx = some q → 0 ≤ q ∧ q ≤ sCap ∧ (h' : Int) ≤ q ∧ hi.isSome = true) := by
        cases mx with
        | none =>
          simp at hm'
          subst hm'
          exact ⟨_, rfl, hhc.1, Nat.le_refl _, hk, fun _ => ⟨rfl, rfl⟩, by simp⟩
        | some q =>
          simp only at hm'
          split at hm'
          · rename_i hq
            simp at hm'
            subst hm'
            have := upTo_le hq.2.2 hle hk
            refine ⟨_, rfl, by rw [optOr_some]; omega, by rw [optOr_some]; omega, by simp [optOr_some], by simp, ?_⟩
            intro q' hq'
            simp at hq'
            subst hq'
            exact ⟨by omega, by omega, hq.1, hq.2.1⟩
          · simp at hm'
      obtain ⟨mm, e, h4, h5, h6, h7, h8⟩ := hmm
      have hlo : ∃ l', optOr lo 0 = l' ∧ l' ≤ h' ∧ (l, h, c) = (l', h', m') ∧ (∀ q, lo = some q → 0 ≤ q ∧ q ≤ (h' : Int)) := by
        cases lo with
        | none => simp at hb; exact ⟨0, rfl, by omega, by simp [hb.1, hb.2.1, hb.2.2], by simp⟩
        | some q =>
          simp only at hb
          split at hb
          · rename_i hq
            simp at hb
            refine ⟨_, rfl, by rw [optOr_some]; omega, by simp [optOr_some, hb.1, hb.2.1, hb.2.2], ?_⟩
            intro q' hq'
            simp at hq'
            subst hq'
            exact hq
          · simp at hb
      obtain ⟨l', e2, h9, h10, h11⟩ := hlo
      simp only [Prod.mk.injEq] at h10
      obtain ⟨rfl, rfl, rfl⟩ := h10
      refine ⟨mm, ?_, h9, h4, h5, h6, h7, hhc.2⟩
      have hhi : ∀ q, hi = some q → 0 ≤ q ∧ q.toNat = h := by
        intro q hq
        subst hq
        simp only at hh
        split at hh
        · rename_i hq
          simp at hh
          exact ⟨hq.1, hh⟩
        · simp at hh
      have hhn : hi = none → h = len := by
        intro hn
        subst hn
        simp at hh
        exact hh.symm
      have B : ∀ (k : IntKind) (i : Int) (y : Nat) (code : BoundsCode), 0 ≤ i → i ≤ y → (Instr.sliceBound (.int k i) y code).run P w = .ok i.toNat w := by
        intro k i y code p q
        simp [Instr.sliceBound, asIntOf, p, q]
      cases vmx with
      | some um =>
        cases mx with
        | none => exact h3.elim
        | some q =>
          obtain ⟨k, rfl⟩ := h3
          obtain ⟨q0, q1, q2, q3⟩ := h8 q rfl
          cases vhi with
          | none =>
            cases hi with
            | none => simp at q3
            | some _ => exact h2.elim
          | some uh =>
            cases hi with
            | none => exact h2.elim
            | some p =>
              obtain ⟨k2, rfl⟩ := h2
              obtain ⟨p0, p1⟩ := hhi p rfl
              cases vlo with
              | none =>
                cases lo with
                | some _ => exact h1.elim
                | none => rw [← e2, ← e]; simp [Instr.sliceBounds, optOr_some, optOr_none, B k q sCap _ q0 q1, B k2 p q.toNat _ p0 (by omega), p1]
              | some ul =>
                cases lo with
                | none => exact h1.elim
                | some r =>
                  obtain ⟨k3, rfl⟩ := h1
                  obtain ⟨r0, r1⟩ := h11 r rfl
                  rw [← e2, ← e]; simp [Instr.sliceBounds, optOr_some, optOr_none, B k q sCap _ q0 q1, B k2 p q.toNat _ p0 (by omega), p1, B k3 r h _ r0 r1]
      | none =>
        cases mx with
        | some _ => exact h3.elim
        | none =>
          cases vhi with
          | none =>
            cases hi with
            | some _ => exact h2.elim
            | none =>
              obtain rfl := hhn rfl
              cases vlo with
              | none =>
                cases lo with
                | some _ => exact h1.elim
                | none => rw [← e2, ← e]; simp [Instr.sliceBounds, optOr_some, optOr_none]
              | some ul =>
                cases lo with
                | none => exact h1.elim
                | some r =>
                  obtain ⟨k3, rfl⟩ := h1
                  obtain ⟨r0, r1⟩ := h11 r rfl
                  rw [← e2, ← e]; simp [Instr.sliceBounds, optOr_some, optOr_none, B k3 r h _ r0 r1]
          | some uh =>
            cases hi with
            | none => exact h2.elim
            | some p =>
              obtain ⟨k2, rfl⟩ := h2
              obtain ⟨p0, p1⟩ := hhi p rfl
              cases vlo with
              | none =>
                cases lo with
                | some _ => exact h1.elim
                | none => rw [← e2, ← e]; simp [Instr.sliceBounds, optOr_some, optOr_none, B k2 p sCap _ p0 (by omega), p1]
              | some ul =>
                cases lo with
                | none => exact h1.elim
                | some r =>
                  obtain ⟨k3, rfl⟩ := h1
                  obtain ⟨r0, r1⟩ := h11 r rfl
                  rw [← e2, ← e]; simp [Instr.sliceBounds, optOr_some, optOr_none, B k2 p sCap _ p0 (by omega), p1, B k3 r h _ r0 r1]

theorem ok_slice {t e : TypeId} {x : Operand} {lo hi mx : Option Operand} {al ah am : Option Arg} {z : Nat} (ho : o.op = .slice t x lo hi mx) (ht : P.underlying t = some (.slice e)) (hz : szOf P e = some z) (h0 : 0 < z)
    (hx : compArg x = some ax) (hl : compOpt lo = some al) (hh : compOpt hi = some ah) (hmx : compOpt mx = some am) (hv : opVal s m (.slice z ax al ah am) = some (v, m')) (hs : SRel ι S w s.get a.tmps) (hm : MRel ι S m.heap.get w) : OpOk P ι S w a m o v m' := by
  have run : ∀ ad len cap l h mm, a.eval x = .slice ad len cap → (Instr.sliceBounds true len cap (lo.map a.eval) (hi.map a.eval) (mx.map a.eval)).run P w = .ok (l, h, mm) w →
      (execOp a.eval o).run P w = .ok (.value (.slice (if mm = l then ad else ad.map (·.add (l * z))) (h - l) (mm - l))) w := by
    intro ad len cap l h mm e1 e2
    simp [execOp, ho, e1, Instr.sliceAt, Instr.slice, run_underlying ht, e2, run_sizeOf_some hz]
  simp only [opVal] at hv
  split at hv
  · rename_i id off len e' cap il ih im hx' hl' hh' hm'
    split at hv
    · rename_i he
      subst he
      split at hv
      · rename_i l h c hb
        simp only [Option.some.injEq, Prod.mk.injEq] at hv
        obtain ⟨rfl, rfl⟩ := hv
        obtain ⟨b, o', sc, ad, e1, hid, hle, hk, had, hroom⟩ := rep_sl (arg_rep hx hs hx')
        obtain ⟨mm, hrun, q1, q2, q3, q4, q5, _⟩ := bounds3_run (P := P) (w := w) (isSlice := true) hb hle hk (argOpt_rep hl hs hl') (argOpt_rep hh hs hh') (argOpt_rep hmx hs hm')
        have e2 : (if mm = l then some ad else (some ad).map (·.add (l * e'))) = some (if mm = l then ad else ad.add (l * e')) := by split <;> rfl
        refine OpOk.value (u := .slice (some (if mm = l then ad else ad.add (l * e'))) (h - l) (mm - l)) (by rw [run _ _ _ _ _ _ e1 hrun, e2]) hm (.sl hid (by omega) ?_ ?_ ?_)
        · intro k hk'
          simp only [Option.map_eq_some_iff] at hk'
          obtain ⟨k', hk'', rfl⟩ := hk'
          rw [q4 k' hk'']
        · intro hne
          rw [if_neg (by omega), had (by omega), addr_add_mk, Nat.add_assoc]
        · intro hne
          have hnn : c = none → im = none ∧ cap = none ∧ mm = sc := by
            intro hcn
            have him : im = none := by
              cases im with
              | none => rfl
              | some k => exact absurd hcn (bounds3_some hb)
            obtain ⟨q6, q7⟩ := q5 him
            exact ⟨him, by rw [← q7]; exact hcn, q6⟩
          have hcm : c.map (· - l) = none → c = none := by
            cases c with
            | none => exact fun _ => rfl
            | some k => simp
          obtain ⟨cs, el, hc, hsz, hsz2⟩ := hroom (by
            rcases hne with h | h
            · exact .inl (by omega)
            · exact .inr (hnn (hcm h)).2.1)
          have e3 : l * e' + (mm - l) * e' = mm * e' := by rw [← Nat.add_mul]; congr 1; omega
          have e4 := Nat.mul_le_mul_right e' q3
          refine ⟨cs, el, hc, by omega, fun hn => ?_⟩
          obtain ⟨q6, q7, q8⟩ := hnn (hcm hn)
          have := hsz2 q7
          rw [q8] at e3 ⊢
          omega
      · simp at hv
    · simp at hv
  · rename_i cs len cap il ih im hx' hl' hh' hm'
    split at hv
    · rename_i l h c hb
      split at hv
      · rename_i r hr
        simp only [Option.some.injEq, Prod.mk.injEq] at hv
        obtain ⟨rfl, rfl⟩ := hv
        obtain ⟨ad, sc, vs, e1, hle, hk, hsp, hcell, hrep, hone⟩ := rep_rs (arg_rep hx hs hx')
        obtain ⟨mm, hrun, q1, q2, q3, q4, q5, q6⟩ := bounds3_run (P := P) (w := w) (isSlice := true) hb hle (by simp) (argOpt_rep hl hs hl') (argOpt_rep hh hs hh') (argOpt_rep hmx hs hm')
        have e2 : (if mm = l then some ad else (some ad).map (·.add (l * z))) = some (if mm = l then ad else ad.add (l * z)) := by split <;> rfl
        obtain ⟨hseg, hreq⟩ := seg_spec hr
        have hrl : r.length = (h - l) * z := by rw [hreq]; simp; omega
        have hmm : 0 < r.length → mm ≠ l := by
          intro hp he
          have : h - l = 0 := by omega
          rw [hrl, this] at hp
          simp at hp
        have hcl : 0 < r.length → 0 < cs.length := by
          intro hp
          rw [hreq] at hp
          simp at hp
          omega
        refine OpOk.value (u := .slice (some (if mm = l then ad else ad.add (l * z))) (h - l) (mm - l)) (by rw [run _ _ _ _ _ _ e1 hrun, e2]) hm
          (.rs (fun j => vs (l * z + j)) (by omega) ?_ (fun hp => ?_) (fun j hj => ?_) (fun j c' hc' => ?_) (fun c' hc' => ?_))
        · intro k hk'
          cases im with
          | none =>
            simp only [Option.map_eq_some_iff] at hk'
            obtain ⟨k', hk'', rfl⟩ := hk'
            rw [(q5 rfl).1, hk k' hk'']
          | some q =>
            simp only [Option.map_eq_some_iff] at hk'
            obtain ⟨k', hk'', rfl⟩ := hk'
            rw [q4 k' hk'']
        · rw [if_neg (hmm hp)]
          obtain ⟨p, q⟩ := hsp (hcl hp)
          exact ⟨addr_add_spot _ _ p, by rw [addr_add_block]; exact q⟩
        · rw [if_neg (hmm (by omega)), addr_add_block, addr_add_off, Nat.add_assoc]
          exact hcell _ (by omega)
        · refine hrep _ c' ?_
          rw [hreq, List.getElem?_take] at hc'
          split at hc'
          · rw [List.getElem?_drop] at hc'
            exact hc'
          · simp at hc'
        · rw [hreq] at hc'
          exact hone c' (List.mem_of_mem_drop (List.mem_of_mem_take hc'))
      · simp at hv
    · simp at hv
  · rename_i il ih im hx' hl' hh' hm'
    split at hv
    · rename_i hb
      simp only [Option.some.injEq, Prod.mk.injEq] at hv
      obtain ⟨rfl, rfl⟩ := hv
      have e1 := rep_nil (arg_rep hx hs hx')
      obtain ⟨mm, hrun, q1, q2, q3, q4, q5, q6⟩ := bounds3_run (P := P) (w := w) (isSlice := true) (sCap := 0) hb (Nat.le_refl _) (by simp) (argOpt_rep hl hs hl') (argOpt_rep hh hs hh') (argOpt_rep hmx hs hm')
      obtain rfl := q4 0 rfl
      exact OpOk.value (u := .slice none 0 0) (by rw [run _ _ _ _ _ _ e1 hrun]; rfl) hm (.sc rfl)
    · simp at hv
  · simp at hv

theorem ok_sliceStr {t : TypeId} {x : Operand} {lo hi : Option Operand} {al ah : Option Arg} (ho : o.op = .slice t x lo hi none) (ht : P.underlying t = some .string)
    (hx : compArg x = some ax) (hl : compOpt lo = some al) (hh : compOpt hi = some ah) (hv : opVal s m (.sliceStr ax al ah) = some (v, m')) (hs : SRel ι S w s.get a.tmps) (hm : MRel ι S m.heap.get w) : OpOk P ι S w a m o v m' := by
  simp only [opVal] at hv
  split at hv
  · rename_i b il ih hx' hl' hh'
    split at hv
    · rename_i l h c hb
      simp only [Option.some.injEq, Prod.mk.injEq] at hv
      obtain ⟨rfl, rfl⟩ := hv
      have e1 := rep_string (arg_rep hx hs hx')
      obtain ⟨mm, hrun, _⟩ := bounds3_run (P := P) (w := w) (isSlice := false) (sCap := b.size) (vmx := none) hb (Nat.le_refl _) (by simp) (argOpt_rep hl hs hl') (argOpt_rep hh hs hh') trivial
      exact OpOk.value (u := .string (b.extract l h)) (by simp [execOp, ho, e1, Instr.sliceAt, Instr.slice, run_underlying ht, hrun]) hm (.sc rfl)
    · simp at hv
  · simp at hv

end
end Go.Am
