/- Parts of the proof, joined by program: AmOps7. -/
import Derived.Test.YtfaphhcloanhnaaPa16
set_option linter.unusedSimpArgs false
set_option linter.unusedVariables false
namespace Go.Am
section
variable {P : Program} {ι : Inj} {S : Nat → Prop} {w : World} {s : Tr AVal} {a : Act} {m m' : Mem} {v : AVal} {o : Oper} {ax ay az : Arg}

theorem run_appendz_zero {t u ty e : TypeId} {i : TypeInfo} {k kk : IntKind} (ht : P.underlying t = some (.slice e)) (hu : P.underlying u = some (.int k)) (hi : P.info? e = some i) :
    (Builtin.append_ #[t, u] ty #[.slice none 0 0, .int kk 0]).run P w = .ok (.slice none 0 0) w := by
  have hw : IntKind.i64.wrap 0 = 0 := by decide
  simp [Builtin.append_, run_underlying ht, run_underlying hu, sizeOf, typeInfo, hi, asInt, asIntOf, hw]
theorem run_appendz_new {t u ty e : TypeId} {i : TypeInfo} {z : Value} {k kk : IntKind} {n : Nat} (ht : P.underlying t = some (.slice e)) (hu : P.underlying u = some (.int k)) (hi : P.info? e = some i) (hz : i.zero = some z) (hby : 0 < i.bytes) (hsz : 0 < i.size) (h0 : 0 < n) (hfit : n * i.bytes ≤ 140737488355328) (hn : n ≤ 140737488355328) :
    (Builtin.append_ #[t, u] ty #[.slice none 0 0, .int kk n]).run P w = .ok (.slice (some ⟨w.heap.size, 0, none⟩) n (grownCap w n 0 e))
      (World.made w (w.drawn + 1) (Builtin.zeroCells z.cells n ++ Builtin.zeroCells z.cells (grownCap w n 0 e - n)) e) := by
  have hw : IntKind.i64.wrap (n : Int) = n := by
    simp [IntKind.wrap, IntKind.bits, IntKind.signed]
    omega
  have h3 : ¬ (i.bytes = 0) := by omega
  have hc : Builtin.nextslicecap n 0 = n := by unfold Builtin.nextslicecap; rw [if_pos (by omega)]
  have h4 : ¬ ((281474976710656 : Int) < (n : Int) * (i.bytes : Int)) := by
    rw [← Int.natCast_mul]; omega
  have h5 : ¬ (281474976710656 < n * i.bytes) := by omega
  have h6 : ¬ ((n : Int) < 0) := by omega
  have h7 : ¬ (n = 0) := by omega
  have h8 : ¬ (i.size = 0) := by omega
  simp [Builtin.append_, run_underlying ht, run_underlying hu, sizeOf, typeInfo, zeroValue, hi, hz, asInt, asIntOf, hw, h3, h4, h5, h6, h7, h8, hc, Question.forced, Builtin.firstCells, newRow, grownCap]
  have h9 : ¬ ((9223372036854775807 : Int) < (n : Int)) := by omega
  have h10 : ¬ (n * i.size = 0) := by
    intro h
    rcases Nat.mul_eq_zero.1 h with h | h <;> omega
  rw [if_neg h9, if_neg h10]
  simp only [World.made, World.alloc, World.drew]
theorem ok_appendZeros {t u e : TypeId} {c : Call} {x y : Operand} {n b : Nat} {z : List AVal} {k : IntKind} (ho : o.op = .call c) (hc : c.callee = .builtin .append) (hargs : c.args.toList = [x, y]) (htys : c.argTypes.toList = [t, u])
    (ht : P.underlying t = some (.slice e)) (hu : P.underlying u = some (.int k)) (hn : szOf P e = some n) (hb : bytesOf_ P e = some b) (hz : zeroOf P e = some z) (h0 : 0 < n) (hb0 : 0 < b) (hzl : z.length = n)
    (hx : compArg x = some ax) (hy : compArg y = some ay) (hv : opVal s m (.appendZeros n b z ax ay) = some (v, m')) (hs : SRel ι S w s.get a.tmps) (hm : MRel ι S m.heap.get w) (hf : ∀ id, m.next ≤ id → id < m'.next → ι id = none) : OpOk P ι S w a m o v m' := by
  have et : c.argTypes = #[t, u] := by rw [← Array.toArray_toList (xs := c.argTypes), htys]
  have hrun := run_append_op (P := P) (w := w) (a := a) ho hc hargs
  rw [et] at hrun
  simp only [opVal] at hv
  split at hv
  · rename_i kk hax hay
    simp only [Option.bind_eq_some_iff] at hay
    obtain ⟨vk, hk1, hk2⟩ := hay
    have ra := arg_rep hx hs hax
    have ea := rep_nil ra
    obtain ⟨kl, el⟩ := rep_int' (arg_rep hy hs hk1) hk2
    obtain ⟨i, zu, g1, g2, g3, g4⟩ := zeroOf_some hz
    have hsz : i.size = n := by simp [szOf, g1] at hn; exact hn
    have hby : i.bytes = b := by simp [bytesOf_, g1] at hb; exact hb
    split at hv
    · rename_i hq
      obtain ⟨q1, q2, q3⟩ := hq
      split at hv
      · rename_i hk0
        subst hk0
        simp only [Option.some.injEq, Prod.mk.injEq] at hv
        obtain ⟨rfl, rfl⟩ := hv
        refine OpOk.value (u := a.eval x) ?_ hm ra
        rw [hrun, ea, el, run_appendz_zero ht hu g1]
        rfl
      · rename_i hk0
        simp only [Option.some.injEq, Prod.mk.injEq] at hv
        obtain ⟨rfl, rfl⟩ := hv
        obtain ⟨j, rfl⟩ : ∃ j : Nat, kk = j := ⟨kk.toNat, by omega⟩
        simp only [Int.toNat_natCast] at q2 ⊢
        have hr := run_appendz_new (w := w) (ty := o.type) (kk := kl) (n := j) ht hu g1 g2 (by omega) (by omega) (by omega) (by rw [hby]; exact q2) (by omega)
        have hzs : zu.cells.size = n := by have := (g3 ι S w).length; simp at this; omega
        have hmr := made_rep (k := j) (g3 ι S w) hzl h0
        have hK := le_grownCap w j 0 e
        have e1 : (Builtin.zeroCells zu.cells j).size = j * n := by rw [size_zeroCells, hzs]
        have hroom : (Builtin.zeroCells zu.cells j ++ Builtin.zeroCells zu.cells (grownCap w j 0 e - j)).size = grownCap w j 0 e * n := by
          simp [size_zeroCells, hzs]
          rw [← Nat.add_mul]
          congr 1
          omega
        refine ⟨_, .slice (some ⟨w.heap.size, 0, none⟩) j (grownCap w j 0 e), _, ι.put m.next (w.heap.size, 0), S, by rw [hrun, ea, el, hr]; rfl, .inl rfl, ?_⟩
        refine post_new hm (hf _ (Nat.le_refl _) (by simp [Mem.new])) (by rw [flat_length, hzl, hroom]; exact Nat.mul_le_mul_right _ hK) ?_ (made_one g4) (.sl (Inj.put_same _ _ _) hK (by simp) (fun _ => by simp) (fun _ => ⟨_, e, made_new, by rw [hroom]; omega, fun _ => by rw [hroom]; omega⟩))
        have : (Builtin.zeroCells zu.cells j ++ Builtin.zeroCells zu.cells (grownCap w j 0 e - j)).toList.take (List.flatten (List.replicate j z)).length = (Builtin.zeroCells zu.cells j).toList := by
          rw [flat_length, hzl, ← e1, Array.toList_append, List.take_append_of_le_length (by simp)]
          exact List.take_of_length_le (by simp)
        rw [this]
        unfold Builtin.zeroCells
        rw [hzs] at hmr ⊢
        exact hmr
    · simp at hv
  · simp at hv
theorem ok_append {t u e eu : TypeId} {c : Call} {x y : Operand} {n b : Nat} {z : List AVal} (ho : o.op = .call c) (hc : c.callee = .builtin .append) (hargs : c.args.toList = [x, y]) (htys : c.argTypes.toList = [t, u])
    (ht : P.underlying t = some (.slice e)) (hu : P.underlying u = some (.slice eu)) (hn : szOf P e = some n) (hb : bytesOf_ P e = some b) (hz : zeroOf P e = some z) (h0 : 0 < n) (hb0 : 0 < b) (hzl : z.length = n)
    (hx : compArg x = some ax) (hy : compArg y = some ay) (hv : opVal s m (.append n b ax ay) = some (v, m')) (hs : SRel ι S w s.get a.tmps) (hm : MRel ι S m.heap.get w) (hf : ∀ id, m.next ≤ id → id < m'.next → ι id = none) : OpOk P ι S w a m o v m' := by
  have et : c.argTypes = #[t, u] := by rw [← Array.toArray_toList (xs := c.argTypes), htys]
  have hrun := run_append_op (P := P) (w := w) (a := a) ho hc hargs
  rw [et] at hrun
  simp only [opVal] at hv
  split at hv
  · rename_i va vx hax hay
    have ra := arg_rep hx hs hax
    have rx := arg_rep hy hs hay
    split at hv
    · rename_i l k hl hk
      obtain ⟨ba, sCap, ea, hle⟩ := sliceLen_rep ra hl
      have hlx := lenOf_rep (P := P) rx hk
      obtain ⟨i, zu, g1, g2, g3, g4⟩ := zeroOf_some hz
      have hsz : i.size = n := by simp [szOf, g1] at hn; exact hn
      split at hv
      · rename_i hk0
        subst hk0
        simp only [Option.some.injEq, Prod.mk.injEq] at hv
        obtain ⟨rfl, rfl⟩ := hv
        have hfc : (Builtin.firstCells i.size 0 (a.eval y)).run P w = .ok (([] : List Value).toArray) w := by
          obtain ⟨bx, cx, ex, _⟩ := sliceLen_rep rx hk
          rw [ex]
          cases bx with
          | none => simp [Builtin.firstCells]
          | some ad =>
            have := run_firstCells_some (P := P) w i.size 0 ad 0 cx [] (by simp) (by simp)
            exact this
        have hfit := run_append_fit (P := P) (w := w) (w' := w) (ty := o.type) (base := ba) (sLen := l) (sCap := sCap) ht hu g1 hlx hfc (by omega) (by cases ba <;> simp [storeCells])
        refine OpOk.value (u := a.eval x) ?_ hm ra
        rw [hrun, ea, hfit]
        rfl
      · rename_i hk0
        split at hv
        · rename_i old new hold hnew
          split at hv
          · rename_i hq
            obtain ⟨q1, q2, q3, q4⟩ := hq
            obtain ⟨olds, ro, hol, h1o, hfo⟩ := sliceCells_run (P := P) ra hm hl (Nat.le_refl _) hold
            obtain ⟨news, rn, hnl, h1n, hfn⟩ := sliceCells_run (P := P) rx hm hk (Nat.le_refl _) hnew
            rw [ea] at hfo
            have fin : ∀ (hg : sCap < l + k) (hfi : ι m.next = none), OpOk P ι S w a m o (.sl m.next 0 (l + k) n none) (m.new (.cells (old ++ new))) := by
              intro hg hfi
              obtain ⟨uv, w', e1, e2⟩ := append_new (ty := o.type) ht hu hn hb hz h0 hb0 hzl hm hfi hlx hfn hfo ro rn hol hnl h1o h1n hg q1
              exact ⟨_, uv, w', _, S, by rw [hrun, ea, e1]; rfl, .inl rfl, e2⟩
            split at hv
            · simp only [Option.some.injEq, Prod.mk.injEq] at hv
              obtain ⟨rfl, rfl⟩ := hv
              have : sCap = 0 ∧ l = 0 := by
                unfold sliceLen at hl
                split at hl
                · rename_i heq
                  rw [heq] at ra
                  have := rep_nil ra
                  rw [ea] at this
                  simp at this
                  simp at hl
                  exact ⟨this.2.2, hl.symm⟩
                · rename_i heq; simp at heq
                · rename_i heq; simp at heq
                · simp at hl
              exact fin (by omega) (hf _ (Nat.le_refl _) (by simp [Mem.new]))
            · split at hv
              · simp only [Option.some.injEq, Prod.mk.injEq] at hv
                obtain ⟨rfl, rfl⟩ := hv
                rename_i cells len cap hcap
                obtain ⟨ad, cc, vs, e1, _, hkk, _⟩ := rep_rs ra
                have := hkk l hcap
                rw [ea] at e1
                simp at e1
                exact fin (by omega) (hf _ (Nat.le_refl _) (by simp [Mem.new]))
              · simp at hv
            · rename_i id off len esz cap
              obtain ⟨b0, p, cc, ad, e1, hid, hlc, hkk, had, hroom⟩ := rep_sl ra
              rw [ea] at e1
              simp only [Value.slice.injEq] at e1
              obtain ⟨eb, el, ec⟩ := e1
              subst ec
              simp [sliceLen] at hl
              subst hl
              split at hv
              · rename_i hcap
                simp only [Option.some.injEq, Prod.mk.injEq] at hv
                obtain ⟨rfl, rfl⟩ := hv
                have h9 : sCap < len + k := by
                  have := hkk len hcap
                  clear hroom
                  omega
                exact fin h9 (hf _ (Nat.le_refl _) (by simp [Mem.new]))
              · rename_i hcap
                split at hv
                · rename_i hcn
                  subst hcn
                  split at hv
                  · rename_i cells hcells
                    simp only [Option.some.injEq, Prod.mk.injEq] at hv
                    obtain ⟨rfl, rfl⟩ := hv
                    have hfi : ι m.next = none := hf _ (Nat.le_refl _) (by simp [Mem.new, Mem.put])
                    simp only [sliceCells] at hold
                    split at hold
                    · rename_i he
                      subst he
                      rw [hcells] at hold
                      simp only at hold
                      obtain ⟨vs, elt, hbb, hlen, hrep, hone, hnS⟩ := box_cells hm hcells hid
                      obtain ⟨hl3, hreq⟩ := seg_spec hold
                      by_cases hg : sCap < len + k
                      · have hdrop : cells.drop (off + (len + k) * esz) = [] := by
                          refine List.drop_of_length_le ?_
                          obtain ⟨cs2, el2, hb2, hsz2, hsz3⟩ := hroom (.inr rfl)
                          rw [hbb] at hb2
                          simp only [Option.some.injEq, Obj.cells.injEq] at hb2
                          obtain ⟨rfl, rfl, _⟩ := hb2
                          have h7 := hsz3 rfl
                          have h8 : (sCap + 1) * esz ≤ (len + k) * esz := Nat.mul_le_mul_right _ (by clear hroom hsz3; omega)
                          rw [Nat.add_mul] at h8
                          clear hroom hsz3
                          omega
                        rw [hdrop, List.append_nil]
                        obtain ⟨uv, w', e1, e2⟩ := append_new (ty := o.type) ht hu hn hb hz h0 hb0 hzl hm hfi hlx hfn hfo ro rn hol hnl h1o h1n hg q1
                        refine ⟨_, uv, w', _, S, by rw [hrun, ea, e1]; rfl, .inl rfl, e2.inj, ?_, e2.prot, e2.fresh, e2.step, ?_, ?_, e2.rep, ?_⟩
                        · intro i hi
                          have := e2.news i hi
                          simpa [Mem.new, Mem.put] using this
                        · rintro b hb ⟨i, bx, q, g1, g2⟩
                          refine e2.own b hb ⟨i, bx, q, ?_, g2⟩
                          simp only [Mem.new, Mem.put, Tr.get_set] at g1 ⊢
                          split at g1
                          · rw [if_pos (by assumption)]; exact g1
                          · rw [if_neg (by assumption)]
                            split at g1
                            · simp at g1
                            · exact g1
                        · refine e2.mem.less (fun i bx hi => ?_)
                          simp only [Mem.new, Mem.put, Tr.get_set] at hi ⊢
                          split at hi
                          · rw [if_pos (by assumption)]; exact hi
                          · rw [if_neg (by assumption)]
                            split at hi
                            · simp at hi
                            · exact hi
                        · refine ⟨by simp [Mem.new, Mem.put], by simp [Mem.new, Mem.put]; omega, fun i hi => ?_⟩
                          simp only [Mem.new, Mem.put, Tr.get_set]
                          by_cases e : i = id
                          · left; omega
                          · right; rw [if_neg (by omega), if_neg e]
                      · have hc0 : sCap ≠ 0 := by clear hroom; omega
                        obtain rfl := had hc0
                        obtain ⟨cs2, el2, hb2, hsz2, hsz3⟩ := hroom (.inl hc0)
                        rw [hbb] at hb2
                        simp only [Option.some.injEq, Obj.cells.injEq] at hb2
                        obtain ⟨rfl, rfl, _⟩ := hb2
                        have hsz4 := hsz3 rfl
                        clear hroom hsz3
                        have hle2 : (len + k) * esz ≤ sCap * esz := Nat.mul_le_mul_right _ (by omega)
                        have hnl2 : news.length = k * esz := hnl
                        rw [Nat.add_mul] at hle2
                        have hst := run_storeCells_at P b0 (p + off + len * esz) elt news 0 vs w hbb (by omega) (repL_one rn h1n)
                        simp only [Nat.add_zero] at hst
                        generalize hg2 : (vs.toList.take (p + off + len * esz) ++ news ++ vs.toList.drop (p + off + len * esz + news.length)) = L2 at hst
                        have hsize : L2.toArray.size = vs.size := by subst hg2; simp; omega
                        have hfit := run_append_fit (P := P) (w := w) (w' := w.setRow b0 L2.toArray) (ty := o.type) (base := some ⟨b0, p + off, none⟩) (sLen := len) (sCap := sCap) ht hu g1 hlx (by rw [hsz]; exact hfn w rfl) (by omega) (by simp only [hsz, addr_add_mk]; exact hst)
                        refine ⟨_, .slice (some ⟨b0, p + off, none⟩) (len + k) sCap, w.setRow b0 L2.toArray, ι.put m.next (b0, p + off), S, by rw [hrun, ea, eb, hfit]; rfl, .inl rfl, ?_⟩
                        have hlen3 : (old ++ new).length = len * esz + k * esz := by rw [List.length_append, ro.length, rn.length, hol, hnl]
                        have hcl := hrep.length
                        have htl : (cells.drop (off + (len + k) * esz)).length = cells.length - (off + (len * esz + k * esz)) := by rw [List.length_drop, Nat.add_mul]
                        have hlen4 : (old ++ new ++ cells.drop (off + (len + k) * esz)).length = max (len * esz + k * esz) (cells.length - off) := by
                          rw [List.length_append, hlen3, htl]
                          omega
                        refine post_move hm (cells_spec hcells) hid hbb hsize hfi (by rw [hsize, hlen4]; omega) ?_ (fun c hc => by
                          rw [List.mem_append, List.mem_append] at hc
                          rcases hc with (hc | hc) | hc
                          · exact h1o c hc
                          · exact h1n c hc
                          · exact hone c (List.mem_of_mem_drop hc)) (.sl (Inj.put_same _ _ _) (by omega) (by simp) (fun _ => by simp) (fun _ => ⟨_, elt, setRow_heap w b0 _ _ _ _ hbb, by rw [hsize]; omega, fun _ => by rw [hsize]; omega⟩))
                        have hRO : RepL ι S w old ((vs.toList.drop (p + off)).take (len * esz)) := by
                          have := hrep.seg hold
                          rw [List.drop_take, List.take_take, List.drop_drop] at this
                          rw [Nat.min_eq_left (by omega)] at this
                          exact this
                        have hRT : RepL ι S w (cells.drop (off + (len + k) * esz)) ((vs.toList.drop (p + off + (len * esz + k * esz))).take (cells.length - (off + (len * esz + k * esz)))) := by
                          have := hrep.drop (off + (len + k) * esz)
                          rw [List.drop_take, List.drop_drop, Nat.add_mul] at this
                          rw [Nat.add_mul, Nat.add_assoc]
                          exact this
                        have : (L2.toArray.toList.drop (p + off)).take (old ++ new ++ cells.drop (off + (len + k) * esz)).length = (vs.toList.drop (p + off)).take (len * esz) ++ news ++ (vs.toList.drop (p + off + (len * esz + k * esz))).take (cells.length - (off + (len * esz + k * esz))) := by
                          rw [hlen4, ← hg2]
                          have hvl : vs.toList.length = vs.size := by simp
                          have e1 : (vs.toList.take (p + off + len * esz) ++ news ++ vs.toList.drop (p + off + len * esz + news.length)).drop (p + off) = (vs.toList.drop (p + off)).take (len * esz) ++ news ++ vs.toList.drop (p + off + (len * esz + k * esz)) := by
                            rw [List.append_assoc, List.drop_append_of_le_length (by rw [List.length_take]; omega), List.drop_take, hnl2, List.append_assoc, show p + off + len * esz - (p + off) = len * esz by omega, show p + off + len * esz + k * esz = p + off + (len * esz + k * esz) by omega]
                          rw [e1, List.take_append, List.take_of_length_le (by rw [List.length_append, List.length_take, List.length_drop]; omega)]
                          congr 2
                          rw [List.length_append, List.length_take, List.length_drop]
                          omega
                        rw [this]
                        exact (hRO.append rn).append hRT
                    · simp at hold
                  · simp at hv
                · simp at hv
            · simp at hv
          · simp at hv
        · simp at hv
    · simp at hv
  · simp at hv

theorem ok_copy {t e : TypeId} {c : Call} {x y : Operand} {n : Nat} {tys : List TypeId} (ho : o.op = .call c) (hc : c.callee = .builtin .copy) (hargs : c.args.toList = [x, y]) (htys : c.argTypes.toList = t :: tys)
    (ht : P.underlying t = some (.slice e)) (hn : szOf P e = some n) (hx : compArg x = some ax) (hy : compArg y = some ay) (hv : opVal s m (.copy n ax ay) = some (v, m')) (hs : SRel ι S w s.get a.tmps) (hm : MRel ι S m.heap.get w) : OpOk P ι S w a m o v m' := by
  have hrun := run_copy_op (P := P) (w := w) (a := a) ho hc hargs
  have et : c.argTypes[0]? = some t := by rw [← Array.getElem?_toList, htys]; rfl
  simp only [opVal] at hv
  split at hv
  · rename_i id off len esz cap vx hax hay
    have ra := arg_rep hx hs hax
    have rx := arg_rep hy hs hay
    split at hv
    · rename_i k hk
      split at hv
      · rename_i he
        subst he
        split at hv
        · rename_i cs new hcs hnew
          split at hv
          · rename_i hq
            simp only [Option.some.injEq, Prod.mk.injEq] at hv
            obtain ⟨rfl, rfl⟩ := hv
            have hlx := lenOf_rep (P := P) rx hk
            obtain ⟨b0, p, cc, ad, ea, hid, hlc, hkk, had, hroom⟩ := rep_sl ra
            obtain ⟨news, rn, hnl, h1n, hfn⟩ := sliceCells_run (P := P) rx hm hk (Nat.min_le_left _ _) hnew
            obtain ⟨vs, elt, hbb, hlen, hrep, hone, hnS⟩ := box_cells hm hcs hid
            have hnew2 : new.length = min k len * esz := by rw [rn.length, hnl]
            have hmin : Nat.min k len = min k len := rfl
            by_cases hz : len = 0
            · subst hz
              have hnn : news = [] := List.eq_nil_of_length_eq_zero (by rw [hnl]; simp)
              have hnn2 : new = [] := List.eq_nil_of_length_eq_zero (by rw [hnew2]; simp)
              subst hnn hnn2
              have hps : putSeg cs off [] = cs := by simp [putSeg]
              rw [hps]
              have e1 : (Builtin.copy_ c.argTypes o.type #[a.eval x, a.eval y]).run P w = .ok (goInt 0) w := by
                simp only [Nat.min_zero] at hfn
                simp [Builtin.copy_, et, ea, run_underlying ht, hlx, run_sizeOf_some hn, hfn w rfl, storeCells]
              refine ⟨_, goInt 0, w, ι, S, by rw [hrun, e1]; rfl, .inl rfl, InjLe.refl _, fun _ h => .inl h, fun _ h => h, fun _ h => .inl h, WStep.refl _ _, ?_, ?_, by simp; exact .sc rfl, ?_⟩
              · rintro x hx ⟨i, bi, q, g1, g2⟩
                simp only [Mem.put, Tr.get_set] at g1
                split at g1
                · rename_i e; exact ⟨i, _, q, e ▸ cells_spec hcs, g2⟩
                · exact ⟨i, bi, q, g1, g2⟩
              · refine ⟨fun i bx hi => ?_, fun i j bi bj b o b' o' h1 h2 => ?_, hm.prot⟩
                · simp only [Mem.put, Tr.get_set] at hi
                  split at hi
                  · rename_i e
                    simp at hi
                    subst hi e
                    exact hm.box i _ (cells_spec hcs)
                  · exact hm.box i bx hi
                · simp only [Mem.put, Tr.get_set] at h1 h2
                  have k1 : ∃ x, m.heap.get i = some x := by
                    split at h1
                    · rename_i e; exact ⟨_, e ▸ cells_spec hcs⟩
                    · exact ⟨_, h1⟩
                  have k2 : ∃ x, m.heap.get j = some x := by
                    split at h2
                    · rename_i e; exact ⟨_, e ▸ cells_spec hcs⟩
                    · exact ⟨_, h2⟩
                  obtain ⟨x1, k1⟩ := k1
                  obtain ⟨x2, k2⟩ := k2
                  exact hm.apart i j x1 x2 b o b' o' k1 k2
              · refine ⟨by simp [Mem.put], by simp [Mem.put]; omega, fun i hi => ?_⟩
                simp only [Mem.put, Tr.get_set]
                by_cases e : i = id
                · left; omega
                · right; rw [if_neg e]
            · have hc0 : cc ≠ 0 := by clear hroom; omega
              obtain rfl := had hc0
              clear hroom
              have hst := run_storeCells_at P b0 (p + off) elt news 0 vs w hbb (by omega) (repL_one rn h1n)
              simp only [Nat.add_zero] at hst
              have hpl := putSeg_length (new := new) (off := off) (cs := cs) (by rw [hnew2]; exact hq.1)
              have hRL := hrep.putSeg rn (by rw [hnew2]; exact hq.1) (by simpa using hlen)
              generalize hg2 : (vs.toList.take (p + off) ++ news ++ vs.toList.drop (p + off + news.length)) = L2 at hst hRL
              have hsize : L2.toArray.size = vs.size := by subst hg2; simp; omega
              have e1 : (Builtin.copy_ c.argTypes o.type #[a.eval x, a.eval y]).run P w = .ok (goInt (min k len : Nat)) (w.setRow b0 L2.toArray) := by
                simp [Builtin.copy_, et, ea, run_underlying ht, hlx, run_sizeOf_some hn, hmin, hfn w rfl, hst]
              refine ⟨_, goInt (min k len : Nat), w.setRow b0 L2.toArray, ι, S, by rw [hrun, e1]; rfl, .inl rfl, ?_⟩
              refine post_put hm (cells_spec hcs) hid hbb hsize (by rw [hpl, hsize]; exact hlen) ?_ (putSeg_one hone h1n) (.inr trivial) (.sc rfl)
              rw [hpl]
              exact hRL
          · simp at hv
        · simp at hv
      · simp at hv
    · simp at hv
  · simp at hv

theorem ok_clear {t e : TypeId} {c : Call} {x : Operand} {n : Nat} {z : List AVal} (ho : o.op = .call c) (hc : c.callee = .builtin .clear) (hargs : c.args.toList = [x]) (htys : c.argTypes.toList = [t])
    (ht : P.underlying t = some (.slice e)) (hn : szOf P e = some n) (hz : zeroOf P e = some z) (h0 : 0 < n) (hzl : z.length = n) (hx : compArg x = some ax) (hv : opVal s m (.clear n z ax) = some (v, m')) (hs : SRel ι S w s.get a.tmps) (hm : MRel ι S m.heap.get w) : OpOk P ι S w a m o v m' := by
  have hrun := run_clear_op (P := P) (w := w) (a := a) ho hc hargs
  have et : c.argTypes[0]? = some t := by rw [← Array.getElem?_toList, htys]; rfl
  obtain ⟨i, zu, g1, g2, g3, g4⟩ := zeroOf_some hz
  simp only [opVal] at hv
  split at hv
  · rename_i hax
    simp only [Option.some.injEq, Prod.mk.injEq] at hv
    obtain ⟨rfl, rfl⟩ := hv
    have e1 := rep_nil (arg_rep hx hs hax)
    exact OpOk.value (u := .tuple #[]) (by rw [hrun, e1]; simp [Builtin.clear_, et, run_underlying ht]) hm (.tup rfl (fun j c v hc => by simp at hc))
  · rename_i id off len esz cap hax
    have ra := arg_rep hx hs hax
    obtain ⟨b0, p, cc, ad, ea, hid, hlc, hkk, had, hroom⟩ := rep_sl ra
    split at hv
    · rename_i hl0
      subst hl0
      simp only [Option.some.injEq, Prod.mk.injEq] at hv
      obtain ⟨rfl, rfl⟩ := hv
      exact OpOk.value (u := .tuple #[]) (by rw [hrun, ea]; simp [Builtin.clear_, et, run_underlying ht]) hm (.tup rfl (fun j c v hc => by simp at hc))
    · rename_i hl0
      split at hv
      · rename_i he
        subst he
        split at hv
        · rename_i cs hcs
          split at hv
          · rename_i hq
            simp only [Option.some.injEq, Prod.mk.injEq] at hv
            obtain ⟨rfl, rfl⟩ := hv
            have hc0 : cc ≠ 0 := by clear hroom; omega
            obtain rfl := had hc0
            clear hroom
            obtain ⟨vs, elt, hbb, hlen, hrep, hone, hnS⟩ := box_cells hm hcs hid
            have hzs : zu.cells.size = esz := by have := (g3 ι S w).length; simp at this; omega
            have rn : RepL ι S w (List.flatten (List.replicate len z)) (Builtin.zeroCells zu.cells len).toList := by
              have := made_rep (k := len) (g3 ι S w) hzl h0
              simpa [Builtin.zeroCells, hzs] using this
            have hnl : (Builtin.zeroCells zu.cells len).toList.length = len * esz := by simp [size_zeroCells, hzs]
            have hnew2 : (List.flatten (List.replicate len z)).length = len * esz := by rw [flat_length, hzl]
            have h1n := made_one (k := len) g4
            have hst := run_storeCells_at P b0 (p + off) elt (Builtin.zeroCells zu.cells len).toList 0 vs w hbb (by rw [hnl]; omega) (repL_one rn h1n)
            simp only [Nat.add_zero] at hst
            have hpl := putSeg_length (new := List.flatten (List.replicate len z)) (off := off) (cs := cs) (by rw [hnew2]; exact hq)
            have hRL := hrep.putSeg rn (by rw [hnew2]; exact hq) (by simpa using hlen)
            generalize hg2 : (vs.toList.take (p + off) ++ (Builtin.zeroCells zu.cells len).toList ++ vs.toList.drop (p + off + (Builtin.zeroCells zu.cells len).toList.length)) = L2 at hst hRL
            have hsize : L2.toArray.size = vs.size := by subst hg2; simp [size_zeroCells, hzs]; omega
            have e1 : (Builtin.clear_ c.argTypes o.type #[a.eval x]).run P w = .ok (.tuple #[]) (w.setRow b0 L2.toArray) := by
              match len, hl0 with
              | len + 1, _ => simp [Builtin.clear_, et, ea, run_underlying ht, run_zeroValue_some g1 g2, hst]
            refine ⟨_, .tuple #[], w.setRow b0 L2.toArray, ι, S, by rw [hrun, e1]; rfl, .inl rfl, ?_⟩
            refine post_put hm (cells_spec hcs) hid hbb hsize (by rw [hpl, hsize]; exact hlen) ?_ (putSeg_one hone h1n) (.inr trivial) (.tup rfl (fun j c v hc => by simp at hc))
            rw [hpl]
            exact hRL
          · simp at hv
        · simp at hv
      · simp at hv
  · simp at hv

/-! ### min and max -/
theorem minmaxGo_run (mx : Bool) : ∀ (vs : List AVal) (us : List Value) (k : IntKind) (z : Int) (r : AVal), RepL ι S w vs us → minmaxGo mx k z vs = some r →
    ∃ q, r = .sc (.int k q) ∧ (us.foldlM (if mx then Builtin.max2 else Builtin.min2) (.int k z)).run P w = .ok (.int k q) w
  | [], us, k, z, r, hr, hv => by
    simp [minmaxGo] at hv
    subst hv
    have : us = [] := List.eq_nil_of_length_eq_zero (by rw [← hr.length]; rfl)
    subst this
    exact ⟨z, rfl, rfl⟩
  | x :: vs, us, k, z, r, hr, hv => by
    unfold minmaxGo at hv
    split at hv
    · rename_i heq; simp at heq
    · rename_i j b r' heq
      simp only [List.cons.injEq] at heq
      obtain ⟨rfl, rfl⟩ := heq
      match us, hr with
      | u :: us', hr =>
        have e := rep_int (hr.2 0 _ _ rfl rfl)
        subst e
        obtain ⟨q, e1, e2⟩ := minmaxGo_run mx vs us' k _ r ⟨by have := hr.1; simp at this; exact this, fun j c v hc hv => hr.2 (j + 1) c v (by simpa using hc) (by simpa using hv)⟩ hv
        refine ⟨q, e1, ?_⟩
        rw [List.foldlM_cons, Sem.run_bind]
        cases mx
        · simp only [Bool.false_eq_true, if_false, Builtin.min2, Sem.run_pure, Result.andThen_ok] at e2 ⊢
          exact e2
        · simp only [if_true, Builtin.max2, Sem.run_pure, Result.andThen_ok] at e2 ⊢
          exact e2
      | [], hr => exact absurd hr.1 (by simp)
    · simp at hv

theorem ok_minmax {mx : Bool} {c : Call} {asq : List Arg} (ho : o.op = .call c) (hc : c.callee = .builtin (if mx then .max else .min)) (hx : compArgs c.args.toList = some asq)
    (hv : opVal s m (.minmax mx asq) = some (v, m')) (hs : SRel ι S w s.get a.tmps) (hm : MRel ι S m.heap.get w) : OpOk P ι S w a m o v m' := by
  have hrun := run_max_op (P := P) (w := w) (a := a) ho hc
  simp only [opVal] at hv
  split at hv
  · rename_i vs hvs
    simp only [Option.map_eq_some_iff, Prod.mk.injEq] at hv
    obtain ⟨r, hr, rfl, rfl⟩ := hv
    have hR := args_rep hx hs hvs
    unfold minmaxA at hr
    split at hr
    · rename_i k z rest
      have hl : (c.args.map a.eval).toList = c.args.toList.map a.eval := by simp
      generalize c.args.toList.map a.eval = us at hR hl
      match us, hR with
      | u :: us', hR =>
        have e := rep_int (hR.2 0 _ _ rfl rfl)
        subst e
        obtain ⟨q, e1, e2⟩ := minmaxGo_run (P := P) mx rest us' k z r ⟨by have := hR.1; simp at this; exact this, fun j c v hc hv => hR.2 (j + 1) c v (by simpa using hc) (by simpa using hv)⟩ hr
        subst e1
        refine OpOk.value (u := .int k q) ?_ hm (.sc rfl)
        rw [hrun]
        cases mx
        · simp only [Bool.false_eq_true, if_false] at e2 ⊢
          simp only [Builtin.min_, hl, e2, Result.andThen_ok]
        · simp only [if_true] at e2 ⊢
          simp only [Builtin.max_, hl, e2, Result.andThen_ok]
      | [], hR => exact absurd hR.1 (by simp)
    · simp at hr
  · simp at hv
end
end Go.Am
