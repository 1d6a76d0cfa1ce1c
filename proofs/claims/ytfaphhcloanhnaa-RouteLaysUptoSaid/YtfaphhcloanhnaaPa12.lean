/- Parts of the proof, joined by program: AmOps2, AmOps3, AmOps4. -/
import Derived.Test.YtfaphhcloanhnaaPa11
set_option linter.unusedSimpArgs false
set_option linter.unusedVariables false
namespace Go.Am
section
variable {P : Program} {ι : Inj} {S : Nat → Prop} {w : World} {s : Tr AVal} {a : Act} {m m' : Mem} {v : AVal} {o : Oper} {ax ay az : Arg}

theorem addr_add_block (a : Addr) (n : Nat) : (a.add n).block = a.block := by unfold Addr.add; split <;> rfl
theorem addr_add_off (a : Addr) (n : Nat) : (a.add n).off = a.off + n := by unfold Addr.add; split <;> simp_all
theorem addr_add_spot (a : Addr) (n : Nat) (h : a.spot = none) : (a.add n).spot = none := by unfold Addr.add; split <;> simp_all
theorem addr_add_mk (b o n : Nat) : (⟨b, o, none⟩ : Addr).add n = ⟨b, o + n, none⟩ := by unfold Addr.add; split <;> simp_all
theorem addr_eta (a : Addr) (h : a.spot = none) : a = ⟨a.block, a.off, none⟩ := by cases a; simp_all

/-- The rest of a row that stays. -/
theorem ro_drop {cells : List AVal} {ad : Addr} (h : Rep ι S w (.ro cells) (.pointer (some ad))) (n : Nat) : Rep ι S w (.ro (cells.drop n)) (.pointer (some (ad.add n))) := by
  obtain ⟨ad', vs, e, h1, h2, h3, h4⟩ := rep_ro h
  simp at e
  subst e
  refine .ro (fun j => vs (n + j)) (fun hl => ?_) (fun j hj => ?_) (fun j c hc => ?_) (fun c hc => h4 c (List.mem_of_mem_drop hc))
  · obtain ⟨p, q⟩ := h1 (by simp at hl; omega)
    exact ⟨addr_add_spot _ _ p, by rw [addr_add_block]; exact q⟩
  · rw [addr_add_block, addr_add_off, Nat.add_assoc]
    exact h2 _ (by simp at hj; omega)
  · exact h3 _ c (by rw [List.getElem?_drop] at hc; exact hc)

theorem szOf_some {t : TypeId} {n : Nat} (h : szOf P t = some n) : ∃ i, P.info? t = some i ∧ i.size = n := by
  simpa [szOf] using h
theorem run_sizeOf_some {t : TypeId} {n : Nat} (h : szOf P t = some n) (w : World) : (sizeOf t).run P w = .ok n w := by
  obtain ⟨i, h1, rfl⟩ := szOf_some h
  simp [sizeOf, typeInfo, h1]
theorem run_isAgg_some {t : TypeId} {b : Bool} (h : aggOf P t = some b) (w : World) : (isAgg t).run P w = .ok b w := by
  unfold aggOf at h
  unfold isAgg
  cases hu : P.underlying t with
  | none => simp [hu] at h
  | some d =>
    simp only [hu] at h
    simp only [Sem.run_bind, run_underlying hu, Result.andThen_ok]
    cases d <;> simp_all

theorem ok_fieldAddr {t : TypeId} {x : Operand} {i : Nat} {fs : Array Field} {f : Field} {n : Nat} (ho : o.op = .fieldAddr t x i) (ht : P.underlying t = some (.struct fs)) (hfi : fs[i]? = some f) (hn : szOf P f.type = some n) (h0 : 0 < n)
    (hx : compArg x = some ax) (hv : opVal s m (.fieldAddr f.offset ax) = some (v, m')) (hs : SRel ι S w s.get a.tmps) (hm : MRel ι S m.heap.get w) : OpOk P ι S w a m o v m' := by
  have run : ∀ ad, (Instr.fieldAt t (.pointer (some ad)) i).run P w = .ok (.pointer (some (ad.add f.offset))) w := by
    intro ad
    simp [Instr.fieldAt, run_underlying ht, hfi, Instr.sureAddr, fieldPlace, run_sizeOf_some hn, Nat.ne_of_gt h0]
  simp only [opVal] at hv
  split at hv
  · rename_i h1
    simp only [Option.some.injEq, Prod.mk.injEq] at hv
    obtain ⟨rfl, rfl⟩ := hv
    obtain ⟨b, o', hb, e⟩ := rep_ptr (arg_rep hx hs h1)
    refine OpOk.value (u := .pointer (some ⟨b, o' + _ + f.offset, none⟩)) (by simp [execOp, ho, e, run, addr_add_mk]; rfl) hm ?_
    rw [Nat.add_assoc]
    exact .ptr hb
  · rename_i h1
    split at hv
    · simp only [Option.some.injEq, Prod.mk.injEq] at hv
      obtain ⟨rfl, rfl⟩ := hv
      have hr := arg_rep hx hs h1
      obtain ⟨ad, vs, e, _⟩ := rep_ro hr
      rw [e] at hr
      exact OpOk.value (u := .pointer (some (ad.add f.offset))) (by simp [execOp, ho, e, run]) hm (ro_drop hr _)
    · simp at hv
  · simp at hv

/-- A part of an aggregate. -/
theorem run_part {t : TypeId} {g : Bool} {n : Nat} {vs : Array Value} {cs r : List AVal} {x : AVal} {off : Nat} (hg : aggOf P t = some g) (hn : szOf P t = some n) (hr : RepL ι S w cs vs.toList) (hseg : seg cs off (if g then n else 1) = some r) (hx : asVar g r = some x) :
    ∃ u, (part t vs off).run P w = .ok u w ∧ Rep ι S w x u := by
  have hs := hr.seg hseg
  obtain ⟨hl, rfl⟩ := seg_spec hseg
  cases g with
  | true =>
    obtain rfl := asVar_true hx
    simp only [if_true] at hl hs
    refine ⟨.agg (vs.extract off (off + n)), by simp [part, run_isAgg_some hg, run_sizeOf_some hn], rep_agg_mk ?_⟩
    simpa [Array.toList_extract, List.extract] using hs
  | false =>
    have e := asVar_false hx
    simp only [Bool.false_eq_true, if_false] at hl hs e
    rw [e] at hs
    have hlen : off < vs.size := by have := hr.length; simp at this; omega
    refine ⟨vs[off], by simp [part, run_isAgg_some hg, hlen], ?_⟩
    refine hs.2 0 x _ rfl ?_
    simp [List.getElem?_take, List.getElem?_drop, hlen]

theorem ok_field {t : TypeId} {x : Operand} {i : Nat} {fs : Array Field} {f : Field} {n : Nat} {g : Bool} (ho : o.op = .field t x i) (ht : P.underlying t = some (.struct fs)) (hfi : fs[i]? = some f) (hg : aggOf P f.type = some g) (hn : szOf P f.type = some n)
    (hx : compArg x = some ax) (hv : opVal s m (.field g f.offset (if g then n else 1) ax) = some (v, m')) (hs : SRel ι S w s.get a.tmps) (hm : MRel ι S m.heap.get w) : OpOk P ι S w a m o v m' := by
  simp only [opVal] at hv
  split at hv
  · rename_i cs h1
    split at hv
    · rename_i r hr
      simp only [Option.map_eq_some_iff, Prod.mk.injEq] at hv
      obtain ⟨y, hy, rfl, rfl⟩ := hv
      obtain ⟨vs, e, hrep⟩ := rep_agg (arg_rep hx hs h1)
      obtain ⟨u, hu, hru⟩ := run_part hg hn hrep hr hy
      exact OpOk.value (u := u) (by simp [execOp, ho, e, Instr.field, run_underlying ht, hfi, asAgg, hu]) hm hru
    · simp at hv
  · simp at hv

theorem ok_index {t : TypeId} {x i : Operand} {e : TypeId} {n z : Nat} {g : Bool} (ho : o.op = .index t x i) (ht : P.underlying t = some (.array n e)) (hg : aggOf P e = some g) (hn : szOf P e = some z) (h1 : g = false → z = 1)
    (hx : compArg x = some ax) (hi : compArg i = some ay) (hv : opVal s m (.index g n z ax ay) = some (v, m')) (hs : SRel ι S w s.get a.tmps) (hm : MRel ι S m.heap.get w) : OpOk P ι S w a m o v m' := by
  simp only [opVal] at hv
  split at hv
  · rename_i cs j hx' hj'
    split at hv
    · rename_i hb
      split at hv
      · rename_i r hr
        simp only [Option.map_eq_some_iff, Prod.mk.injEq] at hv
        obtain ⟨y, hy, rfl, rfl⟩ := hv
        obtain ⟨vs, e1, hrep⟩ := rep_agg (arg_rep hx hs hx')
        simp only [Option.bind_eq_some_iff] at hj'
        obtain ⟨av, ha1, ha2⟩ := hj'
        obtain ⟨k, e2⟩ := rep_int' (arg_rep hi hs ha1) ha2
        have hz : (if g then z else 1) = z := by cases g <;> simp_all
        obtain ⟨u, hu, hru⟩ := run_part hg hn hrep (by rw [hz]; exact hr) hy
        exact OpOk.value (u := u) (by simp [execOp, ho, e1, e2, Instr.index, asIntOf, run_underlying ht, hb.1, hb.2, run_sizeOf_some hn, hu]) hm hru
      · simp at hv
    · simp at hv
  · simp at hv

theorem ok_indexStr {t : TypeId} {x i : Operand} (ho : o.op = .index t x i) (ht : P.underlying t = some .string) (hx : compArg x = some ax) (hi : compArg i = some ay) (hv : opVal s m (.indexStr ax ay) = some (v, m')) (hs : SRel ι S w s.get a.tmps) (hm : MRel ι S m.heap.get w) : OpOk P ι S w a m o v m' := by
  simp only [opVal] at hv
  split at hv
  · rename_i b j hx' hj'
    split at hv
    · rename_i hb
      split at hv
      · rename_i c hc
        simp only [Option.some.injEq, Prod.mk.injEq] at hv
        obtain ⟨rfl, rfl⟩ := hv
        have e1 := rep_string (arg_rep hx hs hx')
        simp only [Option.bind_eq_some_iff] at hj'
        obtain ⟨av, ha1, ha2⟩ := hj'
        obtain ⟨k, e2⟩ := rep_int' (arg_rep hi hs ha1) ha2
        exact OpOk.value (u := .int .u8 c.toNat) (by simp [execOp, ho, e1, e2, Instr.index, asIntOf, run_underlying ht, hb, hc]) hm (.sc rfl)
      · simp at hv
    · simp at hv
  · simp at hv

theorem ok_extract {x : Operand} {i : Nat} (ho : o.op = .extract x i) (hx : compArg x = some ax) (hv : opVal s m (.extract ax i) = some (v, m')) (hs : SRel ι S w s.get a.tmps) (hm : MRel ι S m.heap.get w) : OpOk P ι S w a m o v m' := by
  simp only [opVal] at hv
  split at hv
  · rename_i vs h1
    simp only [Option.map_eq_some_iff, Prod.mk.injEq] at hv
    obtain ⟨y, hy, rfl, rfl⟩ := hv
    obtain ⟨us, e, hl, hr⟩ := rep_tup (arg_rep hx hs h1)
    have hlt : i < us.size := by
      have := (List.getElem?_eq_some_iff.1 hy).1
      simp at hl
      omega
    exact OpOk.value (u := us[i]) (by simp [execOp, ho, e, Instr.extract, hlt]) hm (hr i y _ hy (by simp [hlt]))
  · simp at hv

theorem ok_indexAddr_slice {t e : TypeId} {x i : Operand} {z : Nat} (ho : o.op = .indexAddr t x i) (ht : P.underlying t = some (.slice e)) (hz : szOf P e = some z) (h0 : 0 < z) (hx : compArg x = some ax) (hi : compArg i = some ay)
    (hv : opVal s m (.indexAddr none z ax ay) = some (v, m')) (hs : SRel ι S w s.get a.tmps) (hm : MRel ι S m.heap.get w) : OpOk P ι S w a m o v m' := by
  have run : ∀ (ad : Addr) (n c : Nat) (k : IntKind) (j : Int), 0 ≤ j → j < (n : Int) → (Instr.indexAt t (.slice (some ad) n c) (.int k j)).run P w = .ok (.pointer (some (ad.add (j.toNat * z)))) w := by
    intro ad n c k j hj0 hjn
    simp [Instr.indexAt, asIntOf, run_underlying ht, hj0, hjn, run_sizeOf_some hz]
  simp only [opVal] at hv
  split at hv
  · rename_i h1 h2; simp at hv
  · rename_i h1 h2; simp at hv
  · rename_i id off len e' cap j hx' hj'
    split at hv
    · rename_i hb
      obtain ⟨rfl, hb0, hbn⟩ := hb
      simp only [Option.some.injEq, Prod.mk.injEq] at hv
      obtain ⟨rfl, rfl⟩ := hv
      obtain ⟨b, o', c, ad, e1, hid, hlc, _, had, _⟩ := rep_sl (arg_rep hx hs hx')
      simp only [Option.bind_eq_some_iff] at hj'
      obtain ⟨av, ha1, ha2⟩ := hj'
      obtain ⟨k, e2⟩ := rep_int' (arg_rep hi hs ha1) ha2
      have hc : c ≠ 0 := by omega
      obtain rfl := had hc
      refine OpOk.value (u := .pointer (some ⟨b, o' + off + j.toNat * e', none⟩)) (by simp [execOp, ho, e1, e2, run _ _ _ _ _ hb0 hbn, addr_add_mk]) hm ?_
      rw [Nat.add_assoc]
      exact .ptr hid
    · simp at hv
  · rename_i cs len cap j hx' hj'
    split at hv
    · rename_i hb
      obtain ⟨hb0, hbn, hbl⟩ := hb
      simp only [Option.some.injEq, Prod.mk.injEq] at hv
      obtain ⟨rfl, rfl⟩ := hv
      obtain ⟨ad, c, vs, e1, hlc, _, hsp, hcell, hrep, hone⟩ := rep_rs (arg_rep hx hs hx')
      simp only [Option.bind_eq_some_iff] at hj'
      obtain ⟨av, ha1, ha2⟩ := hj'
      obtain ⟨k, e2⟩ := rep_int' (arg_rep hi hs ha1) ha2
      exact OpOk.value (u := .pointer (some (ad.add (j.toNat * z)))) (by simp [execOp, ho, e1, e2, run _ _ _ _ _ hb0 hbn]) hm (ro_drop (.ro vs hsp hcell hrep hone) _)
    · simp at hv
  · simp at hv

theorem ok_indexAddr_array {t e : TypeId} {x i : Operand} {n z : Nat} (ho : o.op = .indexAddr t x i) (ht : P.underlying t = some (.array n e)) (hz : szOf P e = some z) (h0 : 0 < z) (hx : compArg x = some ax) (hi : compArg i = some ay)
    (hv : opVal s m (.indexAddr (some n) z ax ay) = some (v, m')) (hs : SRel ι S w s.get a.tmps) (hm : MRel ι S m.heap.get w) : OpOk P ι S w a m o v m' := by
  have run : ∀ ad k j, 0 ≤ j → j < (n : Int) → (Instr.indexAt t (.pointer (some ad)) (.int k j)).run P w = .ok (.pointer (some (ad.add (j.toNat * z)))) w := by
    intro ad k j hj0 hjn
    simp [Instr.indexAt, asIntOf, run_underlying ht, hj0, hjn, run_sizeOf_some hz, Instr.sureAddr]
  simp only [opVal] at hv
  split at hv
  · rename_i id off j hx' hj'
    split at hv
    · rename_i hb
      simp only [Option.some.injEq, Prod.mk.injEq] at hv
      obtain ⟨rfl, rfl⟩ := hv
      obtain ⟨b, o', hid, e1⟩ := rep_ptr (arg_rep hx hs hx')
      simp only [Option.bind_eq_some_iff] at hj'
      obtain ⟨av, ha1, ha2⟩ := hj'
      obtain ⟨k, e2⟩ := rep_int' (arg_rep hi hs ha1) ha2
      refine OpOk.value (u := .pointer (some ⟨b, o' + off + j.toNat * z, none⟩)) (by simp [execOp, ho, e1, e2, run _ _ _ hb.1 hb.2, addr_add_mk]) hm ?_
      rw [Nat.add_assoc]
      exact .ptr hid
    · simp at hv
  · rename_i cs j hx' hj'
    split at hv
    · rename_i hb
      simp only [Option.some.injEq, Prod.mk.injEq] at hv
      obtain ⟨rfl, rfl⟩ := hv
      have hr := arg_rep hx hs hx'
      obtain ⟨ad, vs, e1, _⟩ := rep_ro hr
      rw [e1] at hr
      simp only [Option.bind_eq_some_iff] at hj'
      obtain ⟨av, ha1, ha2⟩ := hj'
      obtain ⟨k, e2⟩ := rep_int' (arg_rep hi hs ha1) ha2
      exact OpOk.value (u := .pointer (some (ad.add (j.toNat * z)))) (by simp [execOp, ho, e1, e2, run _ _ _ hb.1 hb.2.1]) hm (ro_drop hr _)
    · simp at hv
  · simp at hv
  · simp at hv
  · simp at hv

/-! ### Lengths -/
theorem ok_lenC {t : TypeId} {c : Call} {x : Operand} {n : Nat} {e : TypeId} (ho : o.op = .call c) (hc : c.callee = .builtin .len) (hargs : c.args.toList = [x]) (htys : c.argTypes.toList = [t]) (ht : P.underlying t = some (.array n e))
    (hv : opVal s m (.lenC n) = some (v, m')) (hm : MRel ι S m.heap.get w) : OpOk P ι S w a m o v m' := by
  simp only [opVal, Option.some.injEq, Prod.mk.injEq] at hv
  obtain ⟨rfl, rfl⟩ := hv
  have ea : c.args = #[x] := by rw [← Array.toArray_toList (xs := c.args), hargs]
  have et : c.argTypes = #[t] := by rw [← Array.toArray_toList (xs := c.argTypes), htys]
  exact OpOk.value (u := .int .i64 n) (by simp [execOp, ho, resolve, hc, ea, et, invoke, builtin, Builtin.len_, run_underlying ht, goInt]) hm (.sc rfl)

theorem sliceLen_rep {x : AVal} {n : Nat} {u : Value} (h : Rep ι S w x u) (hn : sliceLen x = some n) : ∃ b c, u = .slice b n c ∧ n ≤ c := by
  unfold sliceLen at hn
  split at hn <;> simp only [Option.some.injEq, reduceCtorEq] at hn
  · subst hn
    exact ⟨none, 0, rep_nil h, Nat.le_refl _⟩
  · subst hn
    obtain ⟨b, o', c, ad, e, _, hl, _⟩ := rep_sl h
    exact ⟨_, c, e, hl⟩
  · subst hn
    obtain ⟨ad, c, vs, e, hl, _⟩ := rep_rs h
    exact ⟨_, c, e, hl⟩

theorem ok_lenStr {t : TypeId} {c : Call} {x : Operand} (ho : o.op = .call c) (hc : c.callee = .builtin .len) (hargs : c.args.toList = [x]) (htys : c.argTypes.toList = [t]) (ht : P.underlying t = some .string)
    (hx : compArg x = some ax) (hv : opVal s m (.lenStr ax) = some (v, m')) (hs : SRel ι S w s.get a.tmps) (hm : MRel ι S m.heap.get w) : OpOk P ι S w a m o v m' := by
  have ea : c.args = #[x] := by rw [← Array.toArray_toList (xs := c.args), hargs]
  have et : c.argTypes = #[t] := by rw [← Array.toArray_toList (xs := c.argTypes), htys]
  simp only [opVal] at hv
  split at hv
  · rename_i b h1
    simp only [Option.some.injEq, Prod.mk.injEq] at hv
    obtain ⟨rfl, rfl⟩ := hv
    have e1 := rep_string (arg_rep hx hs h1)
    exact OpOk.value (u := .int .i64 b.size) (by simp [execOp, ho, resolve, hc, ea, et, invoke, builtin, Builtin.len_, run_underlying ht, goInt, e1]) hm (.sc rfl)
  · simp at hv
theorem ok_len {t e : TypeId} {c : Call} {x : Operand} (ho : o.op = .call c) (hc : c.callee = .builtin .len) (hargs : c.args.toList = [x]) (htys : c.argTypes.toList = [t]) (ht : P.underlying t = some (.slice e))
    (hx : compArg x = some ax) (hv : opVal s m (.len ax) = some (v, m')) (hs : SRel ι S w s.get a.tmps) (hm : MRel ι S m.heap.get w) : OpOk P ι S w a m o v m' := by
  have ea : c.args = #[x] := by rw [← Array.toArray_toList (xs := c.args), hargs]
  have et : c.argTypes = #[t] := by rw [← Array.toArray_toList (xs := c.argTypes), htys]
  simp only [opVal] at hv
  split at hv
  · rename_i y h1
    simp only [Option.map_eq_some_iff, Prod.mk.injEq] at hv
    obtain ⟨n, hn, rfl, rfl⟩ := hv
    obtain ⟨b, cc, e1, _⟩ := sliceLen_rep (arg_rep hx hs h1) hn
    exact OpOk.value (u := .int .i64 n) (by simp [execOp, ho, resolve, hc, ea, et, invoke, builtin, Builtin.len_, run_underlying ht, goInt, e1]) hm (.sc rfl)
  · simp at hv
theorem ok_cap {t e : TypeId} {c : Call} {x : Operand} (ho : o.op = .call c) (hc : c.callee = .builtin .cap) (hargs : c.args.toList = [x]) (htys : c.argTypes.toList = [t]) (ht : P.underlying t = some (.slice e))
    (hx : compArg x = some ax) (hv : opVal s m (.cap ax) = some (v, m')) (hs : SRel ι S w s.get a.tmps) (hm : MRel ι S m.heap.get w) : OpOk P ι S w a m o v m' := by
  have ea : c.args = #[x] := by rw [← Array.toArray_toList (xs := c.args), hargs]
  have et : c.argTypes = #[t] := by rw [← Array.toArray_toList (xs := c.argTypes), htys]
  have key : ∀ b n k, a.eval x = .slice b n k → (execOp a.eval o).run P w = .ok (.value (.int .i64 k)) w := by
    intro b n k e1
    simp [execOp, ho, resolve, hc, ea, et, invoke, builtin, Builtin.cap_, run_underlying ht, goInt, e1]
  simp only [opVal] at hv
  split at hv
  · rename_i h1
    simp only [Option.some.injEq, Prod.mk.injEq] at hv
    obtain ⟨rfl, rfl⟩ := hv
    exact OpOk.value (key _ _ _ (rep_nil (arg_rep hx hs h1))) hm (.sc rfl)
  · rename_i h1
    simp only [Option.some.injEq, Prod.mk.injEq] at hv
    obtain ⟨rfl, rfl⟩ := hv
    obtain ⟨b, o', c', ad, e1, _, _, hk, _⟩ := rep_sl (arg_rep hx hs h1)
    obtain rfl := hk _ rfl
    exact OpOk.value (key _ _ _ e1) hm (.sc rfl)
  · rename_i h1
    simp only [Option.some.injEq, Prod.mk.injEq] at hv
    obtain ⟨rfl, rfl⟩ := hv
    obtain ⟨ad, c', vs, e1, _, hk, _⟩ := rep_rs (arg_rep hx hs h1)
    obtain rfl := hk _ rfl
    exact OpOk.value (key _ _ _ e1) hm (.sc rfl)
  · simp at hv
end
end Go.Am
namespace Go.Am
section
variable {P : Program} {ι : Inj} {S : Nat → Prop} {w : World} {s : Tr AVal} {a : Act} {m m' : Mem} {v : AVal} {o : Oper} {ax ay az : Arg}

/-- A bound that is given, or not. -/
def IsOpt : Option Int → Option Value → Prop
  | none, none => True
  | some i, some u => ∃ k, u = .int k i
  | _, _ => False
theorem argOpt_rep {x : Option Operand} {ax : Option Arg} {i : Option Int} (hc : compOpt x = some ax) (hs : SRel ι S w s.get a.tmps) (hv : argOpt s ax = some i) : IsOpt i (x.map a.eval) := by
  cases x with
  | none =>
    simp [compOpt] at hc
    subst hc
    simp [argOpt] at hv
    subst hv
    trivial
  | some x =>
    simp only [compOpt, Option.map_eq_some_iff] at hc
    obtain ⟨ay, h1, rfl⟩ := hc
    simp only [argOpt] at hv
    split at hv
    · rename_i u hu
      simp only [Option.map_eq_some_iff] at hv
      obtain ⟨n, hn, rfl⟩ := hv
      exact rep_int' (arg_rep h1 hs hu) hn
    · simp at hv

theorem upTo_le {len sCap : Nat} {cap : Option Nat} {h : Int} (hu : upTo len cap h = true) (hle : len ≤ sCap) (hk : ∀ k, cap = some k → sCap = k) : h ≤ sCap := by
  unfold upTo at hu
  cases cap with
  | none => simp at hu; omega
  | some k =>
    have := hk k rfl
    simp at hu
    omega

def optOr (o : Option Int) (d : Nat) : Nat := match o with | some q => q.toNat | none => d
theorem optOr_some (q : Int) (d : Nat) : optOr (some q) d = q.toNat := rfl
theorem optOr_none (d : Nat) : optOr none d = d := rfl
theorem bounds3_run {isSlice : Bool} {len sCap : Nat} {cap : Option Nat} {lo hi mx : Option Int} {l h : Nat} {c : Option Nat} {vlo vhi vmx : Option Value} (hb : bounds3 len cap lo hi mx = some (l, h, c)) (hle : len ≤ sCap) (hk : ∀ k, cap = some k → sCap = k)
    (h1 : IsOpt lo vlo) (h2 : IsOpt hi vhi) (h3 : IsOpt mx vmx) :
    ∃ mm, (Instr.sliceBounds isSlice len sCap vlo vhi vmx).run P w = .ok (l, h, mm) w ∧ l ≤ h ∧ h ≤ mm ∧ mm ≤ sCap ∧ (∀ k, c = some k → mm = k) ∧ (mx = none → mm = sCap ∧ c = cap) ∧ (cap = none → h ≤ len) := by
  unfold bounds3 at hb
  split at hb
  · simp at hb
  · rename_i h' hh
    split at hb
    · simp at hb
    · rename_i m' hm'
      have hhc : h' ≤ sCap ∧ (cap = none → h' ≤ len) := by
        cases hi with
        | none => simp at hh; omega
        | some q =>
          simp only at hh
          split at hh
          · rename_i hq
            simp at hh
            have := upTo_le hq.2 hle hk
            refine ⟨by omega, fun hn => ?_⟩
            have h2 := hq.2
            subst hn
            simp [upTo] at h2
            omega
          · simp at hh
      have hmm : ∃ mm, optOr mx sCap = mm ∧ h' ≤ mm ∧ mm ≤ sCap ∧ (∀ k, m' = some k → mm = k) ∧ (mx = none → mm = sCap ∧ m' = cap) ∧ (∀ q, mx = some q → 0 ≤ q ∧ q ≤ sCap ∧ (h' : Int) ≤ q ∧ hi.isSome = true) := by
        cases mx with
        | none =>
          simp at hm'
          subst hm'
          exact ⟨_, rfl, hhc.1, Nat.le_refl _, hk, fun _ => ⟨rfl, rfl⟩, by simp⟩
        | some q =>
          simp only at hm'
          split at hm'
          · rename_i hq
            simp at hm'
            subst hm'
            have := upTo_le hq.2.2 hle hk
            refine ⟨_, rfl, by rw [optOr_some]; omega, by rw [optOr_some]; omega, by simp [optOr_some], by simp, ?_⟩
            intro q' hq'
            simp at hq'
            subst hq'
            exact ⟨by omega, by omega, hq.1, hq.2.1⟩
          · simp at hm'
      obtain ⟨mm, e, h4, h5, h6, h7, h8⟩ := hmm
      have hlo : ∃ l', optOr lo 0 = l' ∧ l' ≤ h' ∧ (l, h, c) = (l', h', m') ∧ (∀ q, lo = some q → 0 ≤ q ∧ q ≤ (h' : Int)) := by
        cases lo with
        | none => simp at hb; exact ⟨0, rfl, by omega, by simp [hb.1, hb.2.1, hb.2.2], by simp⟩
        | some q =>
          simp only at hb
          split at hb
          · rename_i hq
            simp at hb
            refine ⟨_, rfl, by rw [optOr_some]; omega, by simp [optOr_some, hb.1, hb.2.1, hb.2.2], ?_⟩
            intro q' hq'
            simp at hq'
            subst hq'
            exact hq
          · simp at hb
      obtain ⟨l', e2, h9, h10, h11⟩ := hlo
      simp only [Prod.mk.injEq] at h10
      obtain ⟨rfl, rfl, rfl⟩ := h10
      refine ⟨mm, ?_, h9, h4, h5, h6, h7, hhc.2⟩
      have hhi : ∀ q, hi = some q → 0 ≤ q ∧ q.toNat = h := by
        intro q hq
        subst hq
        simp only at hh
        split at hh
        · rename_i hq
          simp at hh
          exact ⟨hq.1, hh⟩
        · simp at hh
      have hhn : hi = none → h = len := by
        intro hn
        subst hn
        simp at hh
        exact hh.symm
      have B : ∀ (k : IntKind) (i : Int) (y : Nat) (code : BoundsCode), 0 ≤ i → i ≤ y → (Instr.sliceBound (.int k i) y code).run P w = .ok i.toNat w := by
        intro k i y code p q
        simp [Instr.sliceBound, asIntOf, p, q]
      cases vmx with
      | some um =>
        cases mx with
        | none => exact h3.elim
        | some q =>
          obtain ⟨k, rfl⟩ := h3
          obtain ⟨q0, q1, q2, q3⟩ := h8 q rfl
          cases vhi with
          | none =>
            cases hi with
            | none => simp at q3
            | some _ => exact h2.elim
          | some uh =>
            cases hi with
            | none => exact h2.elim
            | some p =>
              obtain ⟨k2, rfl⟩ := h2
              obtain ⟨p0, p1⟩ := hhi p rfl
              cases vlo with
              | none =>
                cases lo with
                | some _ => exact h1.elim
                | none => rw [← e2, ← e]; simp [Instr.sliceBounds, optOr_some, optOr_none, B k q sCap _ q0 q1, B k2 p q.toNat _ p0 (by omega), p1]
              | some ul =>
                cases lo with
                | none => exact h1.elim
                | some r =>
                  obtain ⟨k3, rfl⟩ := h1
                  obtain ⟨r0, r1⟩ := h11 r rfl
                  rw [← e2, ← e]; simp [Instr.sliceBounds, optOr_some, optOr_none, B k q sCap _ q0 q1, B k2 p q.toNat _ p0 (by omega), p1, B k3 r h _ r0 r1]
      | none =>
        cases mx with
        | some _ => exact h3.elim
        | none =>
          cases vhi with
          | none =>
            cases hi with
            | some _ => exact h2.elim
            | none =>
              obtain rfl := hhn rfl
              cases vlo with
              | none =>
                cases lo with
                | some _ => exact h1.elim
                | none => rw [← e2, ← e]; simp [Instr.sliceBounds, optOr_some, optOr_none]
              | some ul =>
                cases lo with
                | none => exact h1.elim
                | some r =>
                  obtain ⟨k3, rfl⟩ := h1
                  obtain ⟨r0, r1⟩ := h11 r rfl
                  rw [← e2, ← e]; simp [Instr.sliceBounds, optOr_some, optOr_none, B k3 r h _ r0 r1]
          | some uh =>
            cases hi with
            | none => exact h2.elim
            | some p =>
              obtain ⟨k2, rfl⟩ := h2
              obtain ⟨p0, p1⟩ := hhi p rfl
              cases vlo with
              | none =>
                cases lo with
                | some _ => exact h1.elim
                | none => rw [← e2, ← e]; simp [Instr.sliceBounds, optOr_some, optOr_none, B k2 p sCap _ p0 (by omega), p1]
              | some ul =>
                cases lo with
                | none => exact h1.elim
                | some r =>
                  obtain ⟨k3, rfl⟩ := h1
                  obtain ⟨r0, r1⟩ := h11 r rfl
                  rw [← e2, ← e]; simp [Instr.sliceBounds, optOr_some, optOr_none, B k2 p sCap _ p0 (by omega), p1, B k3 r h _ r0 r1]

theorem ok_slice {t e : TypeId} {x : Operand} {lo hi mx : Option Operand} {al ah am : Option Arg} {z : Nat} (ho : o.op = .slice t x lo hi mx) (ht : P.underlying t = some (.slice e)) (hz : szOf P e = some z) (h0 : 0 < z)
    (hx : compArg x = some ax) (hl : compOpt lo = some al) (hh : compOpt hi = some ah) (hmx : compOpt mx = some am) (hv : opVal s m (.slice z ax al ah am) = some (v, m')) (hs : SRel ι S w s.get a.tmps) (hm : MRel ι S m.heap.get w) : OpOk P ι S w a m o v m' := by
  have run : ∀ ad len cap l h mm, a.eval x = .slice ad len cap → (Instr.sliceBounds true len cap (lo.map a.eval) (hi.map a.eval) (mx.map a.eval)).run P w = .ok (l, h, mm) w →
      (execOp a.eval o).run P w = .ok (.value (.slice (if mm = l then ad else ad.map (·.add (l * z))) (h - l) (mm - l))) w := by
    intro ad len cap l h mm e1 e2
    simp [execOp, ho, e1, Instr.sliceAt, Instr.slice, run_underlying ht, e2, run_sizeOf_some hz]
  simp only [opVal] at hv
  split at hv
  · rename_i id off len e' cap il ih im hx' hl' hh' hm'
    split at hv
    · rename_i he
      subst he
      split at hv
      · rename_i l h c hb
        simp only [Option.some.injEq, Prod.mk.injEq] at hv
        obtain ⟨rfl, rfl⟩ := hv
        obtain ⟨b, o', sc, ad, e1, hid, hle, hk, had, hroom⟩ := rep_sl (arg_rep hx hs hx')
        obtain ⟨mm, hrun, q1, q2, q3, q4, _, _⟩ := bounds3_run (P := P) (w := w) (isSlice := true) hb hle hk (argOpt_rep hl hs hl') (argOpt_rep hh hs hh') (argOpt_rep hmx hs hm')
        have e2 : (if mm = l then some ad else (some ad).map (·.add (l * e'))) = some (if mm = l then ad else ad.add (l * e')) := by split <;> rfl
        refine OpOk.value (u := .slice (some (if mm = l then ad else ad.add (l * e'))) (h - l) (mm - l)) (by rw [run _ _ _ _ _ _ e1 hrun, e2]) hm (.sl hid (by omega) ?_ ?_ ?_)
        · intro k hk'
          simp only [Option.map_eq_some_iff] at hk'
          obtain ⟨k', hk'', rfl⟩ := hk'
          rw [q4 k' hk'']
        · intro hne
          rw [if_neg (by omega), had (by omega), addr_add_mk, Nat.add_assoc]
        · intro hne
          obtain ⟨cs, el, hc, hsz⟩ := hroom (by omega)
          refine ⟨cs, el, hc, ?_⟩
          have : l * e' + (mm - l) * e' = mm * e' := by rw [← Nat.add_mul]; congr 1; omega
          have := Nat.mul_le_mul_right e' q3
          omega
      · simp at hv
    · simp at hv
  · rename_i cs len cap il ih im hx' hl' hh' hm'
    split at hv
    · rename_i l h c hb
      split at hv
      · rename_i r hr
        simp only [Option.some.injEq, Prod.mk.injEq] at hv
        obtain ⟨rfl, rfl⟩ := hv
        obtain ⟨ad, sc, vs, e1, hle, hk, hsp, hcell, hrep, hone⟩ := rep_rs (arg_rep hx hs hx')
        obtain ⟨mm, hrun, q1, q2, q3, q4, q5, q6⟩ := bounds3_run (P := P) (w := w) (isSlice := true) hb hle (by simp) (argOpt_rep hl hs hl') (argOpt_rep hh hs hh') (argOpt_rep hmx hs hm')
        have e2 : (if mm = l then some ad else (some ad).map (·.add (l * z))) = some (if mm = l then ad else ad.add (l * z)) := by split <;> rfl
        obtain ⟨hseg, hreq⟩ := seg_spec hr
        have hrl : r.length = (h - l) * z := by rw [hreq]; simp; omega
        have hmm : 0 < r.length → mm ≠ l := by
          intro hp he
          have : h - l = 0 := by omega
          rw [hrl, this] at hp
          simp at hp
        have hcl : 0 < r.length → 0 < cs.length := by
          intro hp
          rw [hreq] at hp
          simp at hp
          omega
        refine OpOk.value (u := .slice (some (if mm = l then ad else ad.add (l * z))) (h - l) (mm - l)) (by rw [run _ _ _ _ _ _ e1 hrun, e2]) hm
          (.rs (fun j => vs (l * z + j)) (by omega) ?_ (fun hp => ?_) (fun j hj => ?_) (fun j c' hc' => ?_) (fun c' hc' => ?_))
        · intro k hk'
          cases im with
          | none =>
            simp only [Option.map_eq_some_iff] at hk'
            obtain ⟨k', hk'', rfl⟩ := hk'
            rw [(q5 rfl).1, hk k' hk'']
          | some q =>
            simp only [Option.map_eq_some_iff] at hk'
            obtain ⟨k', hk'', rfl⟩ := hk'
            rw [q4 k' hk'']
        · rw [if_neg (hmm hp)]
          obtain ⟨p, q⟩ := hsp (hcl hp)
          exact ⟨addr_add_spot _ _ p, by rw [addr_add_block]; exact q⟩
        · rw [if_neg (hmm (by omega)), addr_add_block, addr_add_off, Nat.add_assoc]
          exact hcell _ (by omega)
        · refine hrep _ c' ?_
          rw [hreq, List.getElem?_take] at hc'
          split at hc'
          · rw [List.getElem?_drop] at hc'
            exact hc'
          · simp at hc'
        · rw [hreq] at hc'
          exact hone c' (List.mem_of_mem_drop (List.mem_of_mem_take hc'))
      · simp at hv
    · simp at hv
  · rename_i il ih im hx' hl' hh' hm'
    split at hv
    · rename_i hb
      simp only [Option.some.injEq, Prod.mk.injEq] at hv
      obtain ⟨rfl, rfl⟩ := hv
      have e1 := rep_nil (arg_rep hx hs hx')
      obtain ⟨mm, hrun, q1, q2, q3, q4, q5, q6⟩ := bounds3_run (P := P) (w := w) (isSlice := true) (sCap := 0) hb (Nat.le_refl _) (by simp) (argOpt_rep hl hs hl') (argOpt_rep hh hs hh') (argOpt_rep hmx hs hm')
      obtain rfl := q4 0 rfl
      exact OpOk.value (u := .slice none 0 0) (by rw [run _ _ _ _ _ _ e1 hrun]; rfl) hm (.sc rfl)
    · simp at hv
  · simp at hv

theorem ok_sliceStr {t : TypeId} {x : Operand} {lo hi : Option Operand} {al ah : Option Arg} (ho : o.op = .slice t x lo hi none) (ht : P.underlying t = some .string)
    (hx : compArg x = some ax) (hl : compOpt lo = some al) (hh : compOpt hi = some ah) (hv : opVal s m (.sliceStr ax al ah) = some (v, m')) (hs : SRel ι S w s.get a.tmps) (hm : MRel ι S m.heap.get w) : OpOk P ι S w a m o v m' := by
  simp only [opVal] at hv
  split at hv
  · rename_i b il ih hx' hl' hh'
    split at hv
    · rename_i l h c hb
      simp only [Option.some.injEq, Prod.mk.injEq] at hv
      obtain ⟨rfl, rfl⟩ := hv
      have e1 := rep_string (arg_rep hx hs hx')
      obtain ⟨mm, hrun, _⟩ := bounds3_run (P := P) (w := w) (isSlice := false) (sCap := b.size) (vmx := none) hb (Nat.le_refl _) (by simp) (argOpt_rep hl hs hl') (argOpt_rep hh hs hh') trivial
      exact OpOk.value (u := .string (b.extract l h)) (by simp [execOp, ho, e1, Instr.sliceAt, Instr.slice, run_underlying ht, hrun]) hm (.sc rfl)
    · simp at hv
  · simp at hv

end
end Go.Am
namespace Go.Am
section
variable {P : Program} {ι : Inj} {S : Nat → Prop} {w : World} {s : Tr AVal} {a : Act} {m m' : Mem} {v : AVal} {o : Oper} {ax ay az : Arg}

/-! ### A new box -/
def Inj.put (ι : Inj) (id : Nat) (p : Nat × Nat) : Inj := fun i => if i = id then some p else ι i
theorem Inj.put_le (ι : Inj) (id : Nat) (p : Nat × Nat) (h : ι id = none) : InjLe ι (ι.put id p) := by
  intro i q hq
  unfold Inj.put
  split
  · subst_vars; rw [h] at hq; simp at hq
  · exact hq
theorem Inj.put_same (ι : Inj) (id : Nat) (p : Nat × Nat) : ι.put id p id = some p := by simp [Inj.put]

def World.made (w : World) (n : Nat) (vs : Array Value) (el : TypeId) : World := { w with drawn := n, heap := w.heap.push (.cells vs el) }

theorem made_old {n : Nat} {vs : Array Value} {el : TypeId} {b : Nat} (h : b < w.heap.size) : (World.made w n vs el).heap[b]? = w.heap[b]? := by
  simp only [World.made, Array.getElem?_push]
  rw [if_neg (by omega)]
theorem made_new {n : Nat} {vs : Array Value} {el : TypeId} : (World.made w n vs el).heap[w.heap.size]? = some (.cells vs el (0, 0)) := by
  simp [World.made]
theorem made_step (owned : Nat → Prop) (n : Nat) (vs : Array Value) (el : TypeId) : WStep owned w (World.made w n vs el) where
  os := rfl
  tape := rfl
  output := rfl
  size := by simp [World.made]
  keep := fun b hb _ => made_old hb
  shape := fun b cs el' fr h => ⟨cs, by rw [made_old (lt_of_heap h)]; exact h, rfl⟩

theorem Rep.up {ι' : Inj} {S' : Nat → Prop} {w' : World} {x : AVal} {u : Value} {H : Nat → Option Box} {owned : Nat → Prop} (h : Rep ι S w x u) (hm : MRel ι S H w) (hi : InjLe ι ι') (hS : ∀ b, S b → S' b) (hw : WStep owned w w') (ho : ∀ b, S b → ¬ owned b) : Rep ι' S' w' x u :=
  h.mono hi hS (fun b hb => hw.keep b (hm.prot b hb) (ho b hb)) hw.shape
theorem RepL.up {ι' : Inj} {S' : Nat → Prop} {w' : World} {xs : List AVal} {us : List Value} {H : Nat → Option Box} {owned : Nat → Prop} (h : RepL ι S w xs us) (hm : MRel ι S H w) (hi : InjLe ι ι') (hS : ∀ b, S b → S' b) (hw : WStep owned w w') (ho : ∀ b, S b → ¬ owned b) : RepL ι' S' w' xs us :=
  ⟨h.1, fun j c v hc hv => (h.2 j c v hc hv).up hm hi hS hw ho⟩

/-- A new box: what it holds is known up to some cell; the rest is spare. -/
theorem post_new {n : Nat} {vs : Array Value} {el : TypeId} {cs : List AVal} {u : Value} (hm : MRel ι S m.heap.get w) (hf : ι m.next = none) (hlen : cs.length ≤ vs.size) (hr : RepL ι S w cs (vs.toList.take cs.length)) (ho : ∀ c ∈ cs, c.one = true)
    (hv : Rep (ι.put m.next (w.heap.size, 0)) S (World.made w n vs el) v u) : Post ι S m w v (m.new (.cells cs)) u (ι.put m.next (w.heap.size, 0)) S (World.made w n vs el) := by
  have hle := ι.put_le m.next (w.heap.size, 0) hf
  have hst := made_step (w := w) (fun _ => False) n vs el
  refine ⟨hle, ?_, fun _ h => h, fun _ h => .inl h, made_step _ n vs el, ?_, ?_, hv, ?_⟩
  · intro id hid
    unfold Inj.put at hid
    split at hid
    · right; simp [Mem.new]; omega
    · exact .inl hid
  · rintro b hb ⟨id, bx, o, h1, h2⟩
    simp only [Mem.new, Tr.get_set] at h1
    unfold Inj.put at h2
    split at h2
    · simp at h2; omega
    · rename_i e
      rw [if_neg e] at h1
      exact ⟨id, bx, o, h1, h2⟩
  · refine ⟨fun id bx hb => ?_, fun i j bi bj b o b' o' h1 h2 hne h3 h4 => ?_, fun b hb => Nat.lt_of_lt_of_le (hm.prot b hb) hst.size⟩
    · simp only [Mem.new, Tr.get_set] at hb
      split at hb
      · rename_i he
        simp at hb
        subst hb he
        refine ⟨_, _, Inj.put_same _ _ _, fun hs => absurd (hm.prot _ hs) (by omega), vs, el, made_new, by omega, fun j c v hc hv => ?_, ho⟩
        have hj := (List.getElem?_eq_some_iff.1 hc).1
        refine ((hr.2 j c v hc ?_)).up hm hle (fun _ h => h) hst (fun _ _ h => h)
        rw [List.getElem?_take, if_pos hj]
        simpa using hv
      · obtain ⟨b, o, h1, h2, h3⟩ := hm.box id bx hb
        exact ⟨b, o, hle _ _ h1, h2, h3.mono hle (fun _ h => h) (fun b hb => made_old (hm.prot b hb)) hst.shape (made_old h3.lt)⟩
    · simp only [Mem.new, Tr.get_set] at h1 h2
      unfold Inj.put at h3 h4
      split at h1 <;> rename_i e1 <;> split at h2 <;> rename_i e2
      · omega
      · rw [if_pos e1] at h3
        rw [if_neg e2] at h4
        obtain ⟨b2, o2, e, _, hb2⟩ := hm.box j bj h2
        rw [h4] at e
        simp at e h3
        have := hb2.lt
        omega
      · rw [if_neg e1] at h3
        rw [if_pos e2] at h4
        obtain ⟨b2, o2, e, _, hb2⟩ := hm.box i bi h1
        rw [h3] at e
        simp at e h4
        have := hb2.lt
        omega
      · rw [if_neg e1] at h3
        rw [if_neg e2] at h4
        exact hm.apart i j bi bj _ _ _ _ h1 h2 hne h3 h4
  · refine ⟨by simp [Mem.new], by simp [Mem.new], fun id hid => .inr ?_⟩
    simp only [Mem.new, Tr.get_set]
    rw [if_neg (by omega)]

/-! ### A box is written -/
theorem setRow_step {b : Nat} {vs vs' : Array Value} {el : TypeId} (owned : Nat → Prop) (hb : w.heap[b]? = some (.cells vs el (0, 0))) (hs : vs'.size = vs.size) (ho : owned b) : WStep owned w (w.setRow b vs') where
  os := rfl
  tape := rfl
  output := rfl
  size := by simp
  keep := fun x hx hn => setRow_other w b x vs' (fun e => hn (e ▸ ho))
  shape := fun x cs el' fr h => by
    by_cases hx : x = b
    · subst hx
      rw [h] at hb
      cases hb
      exact ⟨vs', setRow_heap w x _ vs' _ _ h, hs⟩
    · exact ⟨cs, by rw [setRow_other w b x vs' hx]; exact h, rfl⟩

/-- A box's cells turn. -/
theorem post_put {id b p : Nat} {bx : Box} {vs vs' : Array Value} {el : TypeId} {cs' : List AVal} {u : Value} (hm : MRel ι S m.heap.get w) (hid : m.heap.get id = some bx) (hι : ι id = some (b, p)) (hb : w.heap[b]? = some (.cells vs el (0, 0))) (hs : vs'.size = vs.size)
    (hlen : p + cs'.length ≤ vs'.size) (hr : RepL ι S w cs' ((vs'.toList.drop p).take cs'.length)) (ho : ∀ c ∈ cs', c.one = true) (hn : id < m.next ∨ True) (hv : Rep ι S (w.setRow b vs') v u) :
    Post ι S m w v (m.put id (some (.cells cs'))) u ι S (w.setRow b vs') := by
  have hown : Own ι m.heap.get b := ⟨id, bx, p, hid, hι⟩
  have hst := setRow_step (w := w) (Own ι m.heap.get) hb hs hown
  have hnS : ∀ x, S x → ¬ Own ι m.heap.get x := fun x hx => hm.notS hx
  refine ⟨InjLe.refl _, fun _ h => .inl h, fun _ h => h, fun _ h => .inl h, hst, ?_, ?_, hv, ?_⟩
  · rintro x hx ⟨i, bi, q, h1, h2⟩
    simp only [Mem.put, Tr.get_set] at h1
    split at h1
    · rename_i e; exact ⟨i, bx, q, e ▸ hid, h2⟩
    · exact ⟨i, bi, q, h1, h2⟩
  · refine ⟨fun i bi hi => ?_, fun i j bi bj b1 o1 b2 o2 h1 h2 hne h3 h4 => ?_, fun x hx => Nat.lt_of_lt_of_le (hm.prot x hx) hst.size⟩
    · simp only [Mem.put, Tr.get_set] at hi
      split at hi
      · rename_i e
        simp at hi
        subst hi e
        obtain ⟨b', o', h1, h2, _⟩ := hm.box i bx hid
        rw [hι] at h1
        simp at h1
        obtain ⟨rfl, rfl⟩ := h1
        refine ⟨b, p, hι, h2, vs', el, setRow_heap w b _ vs' _ _ hb, hlen, fun j c v hc hv => ?_, ho⟩
        have hj := (List.getElem?_eq_some_iff.1 hc).1
        refine (hr.2 j c v hc ?_).up hm (InjLe.refl _) (fun _ h => h) hst hnS
        rw [List.getElem?_take, if_pos hj, List.getElem?_drop]
        simpa using hv
      · rename_i e
        obtain ⟨b', o', h1, h2, h3⟩ := hm.box i bi hi
        have hne : b' ≠ b := hm.apart i id bi bx b' o' b p hi hid e h1 hι
        exact ⟨b', o', h1, h2, h3.mono (InjLe.refl _) (fun _ h => h) (fun x hx => hst.keep x (hm.prot x hx) (hnS x hx)) hst.shape (setRow_other w b b' vs' hne)⟩
    · simp only [Mem.put, Tr.get_set] at h1 h2
      have k1 : ∃ x, m.heap.get i = some x := by
        split at h1
        · rename_i e; exact ⟨bx, e ▸ hid⟩
        · exact ⟨_, h1⟩
      have k2 : ∃ x, m.heap.get j = some x := by
        split at h2
        · rename_i e; exact ⟨bx, e ▸ hid⟩
        · exact ⟨_, h2⟩
      obtain ⟨x, k1⟩ := k1
      obtain ⟨y, k2⟩ := k2
      exact hm.apart i j x y _ _ _ _ k1 k2 hne h3 h4
  · refine ⟨by simp [Mem.put], by simp [Mem.put]; omega, fun i hi => ?_⟩
    simp only [Mem.put, Tr.get_set]
    by_cases e : i = id
    · left; omega
    · right; rw [if_neg e]

/-! ### Loads, stores -/
theorem cells_spec {id : Nat} {cs : List AVal} (h : m.cells id = some cs) : m.heap.get id = some (.cells cs) := by
  unfold Mem.cells at h
  split at h
  · split at h
    · simp at h; subst h; assumption
    · simp at h
  · simp at h
theorem cells_lt {id : Nat} {cs : List AVal} (h : m.cells id = some cs) : id < m.next := by
  unfold Mem.cells at h
  split at h
  · assumption
  · simp at h
/-- A box's cells in the world. -/
theorem box_cells {id b o' : Nat} {cs : List AVal} (hm : MRel ι S m.heap.get w) (h : m.cells id = some cs) (hι : ι id = some (b, o')) :
    ∃ vs el, w.heap[b]? = some (.cells vs el (0, 0)) ∧ o' + cs.length ≤ vs.size ∧ RepL ι S w cs ((vs.toList.drop o').take cs.length) ∧ (∀ c ∈ cs, c.one = true) ∧ ¬ S b := by
  obtain ⟨b', o'', h1, h2, h3⟩ := hm.box id _ (cells_spec h)
  rw [hι] at h1
  simp at h1
  obtain ⟨rfl, rfl⟩ := h1
  obtain ⟨vs, el, h4, h5, h6, h7⟩ := h3
  refine ⟨vs, el, h4, h5, ⟨by simp; omega, fun j c v hc hv => h6 j c v hc ?_⟩, h7, h2⟩
  have hj := (List.getElem?_eq_some_iff.1 hc).1
  rw [List.getElem?_take, if_pos hj, List.getElem?_drop] at hv
  simpa using hv

theorem run_loadVar_at {t : TypeId} {g : Bool} {n : Nat} {ad : Addr} {r : List AVal} {x : AVal} {us : List Value} (hg : aggOf P t = some g) (hn : szOf P t = some n) (hl : r.length = if g then n else 1) (hr : RepL ι S w r us) (hc : ∀ j, j < r.length → w.cell? (ad.add j) = us[j]?) (hx : asVar g r = some x) :
    ∃ u, (loadVar t ad).run P w = .ok u w ∧ Rep ι S w x u := by
  cases g with
  | true =>
    obtain rfl := asVar_true hx
    simp only [if_true] at hl
    have := run_loadCells_list (P := P) w ad us (fun j u hj => by
      have hlt := (List.getElem?_eq_some_iff.1 hj).1
      rw [hc j (by rw [hr.length]; exact hlt)]
      exact hj)
    rw [← hr.length, hl] at this
    exact ⟨.agg us.toArray, by simp [loadVar, run_isAgg_some hg, run_sizeOf_some hn, this], rep_agg_mk (by simpa using hr)⟩
  | false =>
    have e := asVar_false hx
    subst e
    have h0 := hc 0 (by simp)
    match us, hr with
    | [u], hr =>
      refine ⟨u, ?_, hr.2 0 _ _ rfl rfl⟩
      have : w.cell? ad = some u := by simpa [Addr.add] using h0
      simp [loadVar, run_isAgg_some hg, this]
    | [], hr => exact absurd hr.1 (by simp)
    | _ :: _ :: _, hr => exact absurd hr.1 (by simp)

theorem ok_load {t : TypeId} {x : Operand} {g : Bool} {n : Nat} (ho : o.op = .load t x) (hg : aggOf P t = some g) (hn : szOf P t = some n) (hx : compArg x = some ax)
    (hv : opVal s m (.load g (if g then n else 1) ax) = some (v, m')) (hs : SRel ι S w s.get a.tmps) (hm : MRel ι S m.heap.get w) : OpOk P ι S w a m o v m' := by
  obtain ⟨q, hq⟩ : ∃ q, q = if g = true then n else 1 := ⟨_, rfl⟩
  rw [← hq] at hv
  simp only [opVal] at hv
  split at hv
  · rename_i id off h1
    split at hv
    · rename_i cs hcs
      split at hv
      · rename_i r hr
        simp only [Option.map_eq_some_iff, Prod.mk.injEq] at hv
        obtain ⟨y, hy, rfl, rfl⟩ := hv
        obtain ⟨b, o', hid, e1⟩ := rep_ptr (arg_rep hx hs h1)
        obtain ⟨vs, el, hb, hlen, hrep, hone, _⟩ := box_cells hm hcs hid
        have hsg := hrep.seg hr
        obtain ⟨hl, hreq⟩ := seg_spec hr
        have hrl : r.length = q := by rw [hreq]; simp; omega
        obtain ⟨u, hu, hru⟩ := run_loadVar_at (P := P) (ad := ⟨b, o' + off, none⟩) hg hn (hrl.trans hq) hsg (fun j hj => by
          rw [addr_add_mk]
          simp only [World.cell?, hb, Option.isSome_none, Bool.false_eq_true, if_false]
          rw [List.getElem?_take, if_pos (by omega), List.getElem?_drop, List.getElem?_take, if_pos (by omega), List.getElem?_drop]
          simp [Nat.add_assoc]) hy
        exact OpOk.value (u := u) (by simp [execOp, ho, e1, Instr.loadAt, Instr.sureAddr, hu]) hm hru
      · simp at hv
    · simp at hv
  · rename_i cs h1
    split at hv
    · rename_i r hr
      simp only [Option.map_eq_some_iff, Prod.mk.injEq] at hv
      obtain ⟨y, hy, rfl, rfl⟩ := hv
      obtain ⟨ad, vs, e1, hsp, hcell, hrep, hone⟩ := rep_ro (arg_rep hx hs h1)
      obtain ⟨hl, hreq⟩ := seg_spec hr
      have hrl : r.length = q := by rw [hreq]; simp; omega
      have hRL : RepL ι S w r ((List.range r.length).map vs) := by
        refine ⟨by simp, fun j c v hc hv => ?_⟩
        have hj := (List.getElem?_eq_some_iff.1 hc).1
        rw [List.getElem?_map, List.getElem?_range hj] at hv
        simp at hv
        subst hv
        refine hrep j c ?_
        rw [hreq, List.getElem?_take, if_pos (by omega)] at hc
        simpa using hc
      obtain ⟨u, hu, hru⟩ := run_loadVar_at (P := P) (ad := ad) hg hn (hrl.trans hq) hRL (fun j hj => by
        have hp : 0 < cs.length := by omega
        rw [addr_eta ad (hsp hp).1, addr_add_mk, hcell j (by omega)]
        simp [hj]) hy
      exact OpOk.value (u := u) (by simp [execOp, ho, e1, Instr.loadAt, Instr.sureAddr, hu]) hm hru
    · simp at hv
  · simp at hv
end
end Go.Am
