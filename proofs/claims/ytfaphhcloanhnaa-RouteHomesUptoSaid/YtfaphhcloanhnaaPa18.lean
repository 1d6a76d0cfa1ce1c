/- Parts of the proof, joined by program: AmOps8, AmReg. -/
import Derived.Test.YtfaphhcloanhnaaPa17
import Derived.Laws.StructEq
import Derived.Orders
import Derived.LoopN
import Derived.Scope
set_option linter.unusedSimpArgs false
set_option linter.unusedVariables false
namespace Go.Am
section
variable {P : Program} {ι : Inj} {S : Nat → Prop} {w : World} {s : Tr AVal} {a : Act} {m m' : Mem} {v : AVal} {o : Oper} {ax ay az : Arg}

theorem sameAll_length : ∀ {ls : List LK} {asq bs : List AVal} {b : Bool}, sameAll ls asq bs = some b → asq.length = ls.length ∧ bs.length = ls.length
  | [], [], [], _, _ => ⟨rfl, rfl⟩
  | [], [], _ :: _, _, h => by simp [sameAll] at h
  | [], _ :: _, _, _, h => by simp [sameAll] at h
  | _ :: _, [], _, _, h => by simp [sameAll] at h
  | _ :: _, _ :: _, [], _, h => by simp [sameAll] at h
  | l :: ls, x :: asq, y :: bs, b, h => by
    unfold sameAll at h
    split at h
    · rename_i p q h1 h2
      obtain ⟨e1, e2⟩ := sameAll_length h2
      simp [e1, e2]
    · simp at h
theorem sameAll_append : ∀ {l k : List LK} {asq bs : List AVal} {b : Bool}, sameAll (l ++ k) asq bs = some b →
    ∃ p q, sameAll l (asq.take l.length) (bs.take l.length) = some p ∧ sameAll k (asq.drop l.length) (bs.drop l.length) = some q ∧ b = (p && q)
  | [], k, asq, bs, b, h => ⟨true, b, by simp [sameAll], by simpa using h, by simp⟩
  | x :: l, k, asq, bs, b, h => by
    rw [List.cons_append] at h
    match asq, bs with
    | [], _ => simp [sameAll] at h
    | _ :: _, [] => simp [sameAll] at h
    | y :: asq, z :: bs =>
      unfold sameAll at h
      split at h
      · rename_i p q h1 h2
        simp only [Option.some.injEq] at h
        subst h
        obtain ⟨p', q', e1, e2, e3⟩ := sameAll_append h2
        refine ⟨p && p', q', ?_, by simpa using e2, by rw [e3, Bool.and_assoc]⟩
        simp [sameAll, h1, e1]
      · simp at h

/-- '==' of variables of a type comes to what is asked leaf by leaf. -/
def EqOk (P : Program) (ι : Inj) (S : Nat → Prop) (w : World) (D : Nat) (t : TypeId) (ls : List LK) : Prop :=
  ∀ g, aggOf P t = some g → ∀ (asq bs : List AVal) (x y : AVal) (X Y : Value) (b : Bool), asVar g asq = some x → asVar g bs = some y → Rep ι S w x X → Rep ι S w y Y → sameAll ls asq bs = some b → (Op.equalIn D t X Y).run P w = .ok b w

theorem eq_part {D : Nat} {t : TypeId} {l : List LK} {n : Nat} {off : Nat} {asq bs : List AVal} {xs ys : Array Value} {b : Bool} (ih : EqOk P ι S w D t l) (hg : ∃ g, aggOf P t = some g ∧ (g = false → n = 1)) (hn : szOf P t = some n) (hl : n = l.length)
    (hx : RepL ι S w asq (xs.toList.drop off)) (hy : RepL ι S w bs (ys.toList.drop off)) (h : sameAll l (asq.take l.length) (bs.take l.length) = some b) :
    ∃ u v, (part t xs off).run P w = .ok u w ∧ (part t ys off).run P w = .ok v w ∧ (Op.equalIn D t u v).run P w = .ok b w := by
  obtain ⟨g, hg, h1⟩ := hg
  obtain ⟨e1, e2⟩ := sameAll_length h
  have key : ∀ {zs : Array Value} {cs : List AVal}, RepL ι S w cs (zs.toList.drop off) → (cs.take l.length).length = l.length → ∃ z u, (part t zs off).run P w = .ok u w ∧ asVar g (cs.take l.length) = some z ∧ Rep ι S w z u := by
    intro zs cs hz hlen
    have hlen2 : l.length ≤ cs.length := by simp at hlen; omega
    have hq := hz.length
    simp at hq
    -- the cells ahead of off count for nothing
    cases g with
    | true =>
      refine ⟨.agg (cs.take l.length), .agg (zs.extract off (off + n)), by simp [part, run_isAgg_some hg, run_sizeOf_some hn], rfl, rep_agg_mk ?_⟩
      have := hz.take n
      rw [← hl]
      simpa [Array.toList_extract, List.extract] using this
    | false =>
      have n1 := h1 rfl
      have l1 : l.length = 1 := by omega
      rw [l1] at hlen2 ⊢
      match cs, hz with
      | c :: cs', hz =>
        have hlt : off < zs.size := by simp at hq; omega
        refine ⟨c, zs[off], by simp [part, run_isAgg_some hg, hlt], rfl, hz.2 0 c _ rfl (by simp [hlt])⟩
      | [], hz => simp at hlen2
  obtain ⟨x, u, hu, ax, rx⟩ := key hx e1
  obtain ⟨y, v, hv, ay, ry⟩ := key hy e2
  exact ⟨u, v, hu, hv, ih g hg _ _ x y u v b ax ay rx ry h⟩

theorem leavesOf_agg {d : Nat} {t : TypeId} {l : List LK} (h : leavesOf P d t = some l) : ∃ g, aggOf P t = some g ∧ (g = false → l.length = 1) := by
  cases d with
  | zero => simp [leavesOf] at h
  | succ d =>
    unfold leavesOf at h
    unfold aggOf
    cases hu : P.underlying t with
    | none => simp [hu] at h
    | some x => cases x <;> simp [hu] at h ⊢ <;> (try subst h) <;> (try rfl)

theorem eq_fields {D : Nat} {lv : TypeId → Option (List LK)} (ih : ∀ t l, lv t = some l → EqOk P ι S w D t l) (hagg : ∀ t l, lv t = some l → ∃ g, aggOf P t = some g ∧ (g = false → l.length = 1)) {xs ys : Array Value} :
    ∀ {fs : List Field} {off : Nat} {ls : List LK} {asq bs : List AVal} {b : Bool}, leavesFs P lv fs off = some ls → RepL ι S w asq (xs.toList.drop off) → RepL ι S w bs (ys.toList.drop off) → sameAll ls asq bs = some b → (Op.eqFields D xs ys fs).run P w = .ok b w
  | [], off, ls, asq, bs, b, hl, hx, hy, h => by
    simp [leavesFs] at hl
    subst hl
    match asq, bs with
    | [], [] => simp [sameAll] at h; subst h; simp [Op.eqFields]
    | [], _ :: _ => simp [sameAll] at h
    | _ :: _, _ => simp [sameAll] at h
  | f :: fs, off, ls, asq, bs, b, hl, hx, hy, h => by
    unfold leavesFs at hl
    split at hl
    · simp at hl
    · rename_i hname
      split at hl
      · rename_i l n h1 h2
        split at hl
        · rename_i hq
          split at hl
          · rename_i k h3
            simp only [Option.some.injEq] at hl
            subst hl
            obtain ⟨p, q, e1, e2, rfl⟩ := sameAll_append h
            obtain ⟨hoff, hn⟩ := hq
            obtain ⟨g, hg1, hg2⟩ := hagg _ _ h1
            obtain ⟨u, v, hu, hv, he⟩ := eq_part (ih _ _ h1) ⟨g, hg1, fun e => by rw [hn]; exact hg2 e⟩ h2 hn hx hy e1
            have hr := eq_fields ih hagg (off := off + l.length) h3 (by have := hx.drop l.length; rwa [List.drop_drop] at this) (by have := hy.drop l.length; rwa [List.drop_drop] at this) e2
            rw [Op.eqFields, if_pos hname]
            rw [hoff]
            simp only [Sem.run_bind, hu, hv, he, Result.andThen_ok]
            cases p
            · simp
            · simpa using hr
          · simp at hl
        · simp at hl
      · simp at hl

theorem eq_elems {D : Nat} {e : TypeId} {z : Nat} {r : List LK} (ih : EqOk P ι S w D e r) (hagg : ∃ g, aggOf P e = some g ∧ (g = false → z = 1)) (hz : szOf P e = some z) (hzr : z = r.length) {xs ys : Array Value} :
    ∀ (k i : Nat) {asq bs : List AVal} {b : Bool}, RepL ι S w asq (xs.toList.drop (i * z)) → RepL ι S w bs (ys.toList.drop (i * z)) → sameAll (List.flatten (List.replicate k r)) asq bs = some b →
      (forIn (m := Sem) (List.range' i k) ((none, ()) : Option Bool × Unit) fun i _ => do
        let x ← part e xs (i * z)
        let y ← part e ys (i * z)
        let q ← Op.equalIn D e x y
        if (!q) = true then pure (ForInStep.done (some false, ())) else pure (ForInStep.yield (none, ()))).run P w = .ok (if b then none else some false, ()) w
  | 0, i, asq, bs, b, hx, hy, h => by
    simp [sameAll] at h
    match asq, bs with
    | [], [] => simp [sameAll] at h; subst h; simp
    | [], _ :: _ => simp [sameAll] at h
    | _ :: _, _ => simp [sameAll] at h
  | k + 1, i, asq, bs, b, hx, hy, h => by
    rw [List.replicate_succ, List.flatten_cons] at h
    obtain ⟨p, q, e1, e2, rfl⟩ := sameAll_append h
    obtain ⟨u, v, hu, hv, he⟩ := eq_part ih hagg hz hzr hx hy e1
    have ei : i * z + r.length = (i + 1) * z := by rw [Nat.add_mul, hzr]; omega
    have hr := eq_elems ih hagg hz hzr k (i + 1) (by have := hx.drop r.length; rwa [List.drop_drop, ei] at this) (by have := hy.drop r.length; rwa [List.drop_drop, ei] at this) e2
    rw [List.range'_succ, List.forIn_cons]
    simp only [Sem.run_bind, hu, hv, he, Result.andThen_ok]
    cases p
    · simp
    · simp only [Bool.not_true, Bool.false_eq_true, if_false, Sem.run_pure, Result.andThen_ok, Bool.true_and]
      exact hr

theorem sameSc_bool {x y : AVal} {b : Bool} (h : sameSc .bool x y = some b) : ∃ p q, x = .sc (.bool p) ∧ y = .sc (.bool q) ∧ b = (p == q) := by
  unfold sameSc at h
  split at h <;> simp_all
theorem sameSc_int {x y : AVal} {b : Bool} (h : sameSc .int x y = some b) : ∃ k p q, x = .sc (.int k p) ∧ y = .sc (.int k q) ∧ b = (p == q) := by
  unfold sameSc at h
  split at h
  · simp_all
  · rename_i j p k q _
    split at h
    · rename_i e
      subst e
      simp at h
      exact ⟨j, p, q, rfl, rfl, h.symm⟩
    · simp at h
  · simp_all
  · simp at h
theorem sameSc_string {x y : AVal} {b : Bool} (h : sameSc .string x y = some b) : ∃ p q, x = .sc (.string p) ∧ y = .sc (.string q) ∧ b = (p == q) := by
  unfold sameSc at h
  split at h <;> simp_all
theorem sameAll_one {l : LK} {x y : AVal} {b : Bool} (h : sameAll [l] [x] [y] = some b) : sameSc l x y = some b := by
  simp only [sameAll] at h
  split at h
  · rename_i p q h1 h2
    simp at h2 h
    subst h2
    simp at h
    rw [h1, h]
  · simp at h

theorem leaves_ok : ∀ (d : Nat) {t : TypeId} {ls : List LK}, leavesOf P d t = some ls → ∀ D, d ≤ D → EqOk P ι S w D t ls
  | 0, t, ls, h, D, hD => by simp [leavesOf] at h
  | d + 1, t, ls, h, D, hD => by
    obtain ⟨D, rfl⟩ : ∃ k, D = k + 1 := ⟨D - 1, by omega⟩
    intro g hg asq bs x y X Y b hx hy rx ry hs
    have ih := fun (t : TypeId) (l : List LK) (h : leavesOf P d t = some l) => leaves_ok d h D (by omega)
    unfold leavesOf at h
    have hg' := hg
    unfold aggOf at hg
    split at h
    · rename_i hu
      simp only [hu, Option.some.injEq] at hg
      subst hg
      simp only [Option.some.injEq] at h
      subst h
      rw [asVar_false hx, asVar_false hy] at hs
      obtain ⟨p, q, rfl, rfl, rfl⟩ := sameSc_bool (sameAll_one hs)
      rw [rep_bool rx, rep_bool ry]
      exact equalIn_bool D hu p q
    · rename_i k hu
      simp only [hu, Option.some.injEq] at hg
      subst hg
      simp only [Option.some.injEq] at h
      subst h
      rw [asVar_false hx, asVar_false hy] at hs
      obtain ⟨j, p, q, rfl, rfl, rfl⟩ := sameSc_int (sameAll_one hs)
      rw [rep_int rx, rep_int ry]
      exact run_equalIn_int w D t j k p q hu
    · rename_i hu
      simp only [hu, Option.some.injEq] at hg
      subst hg
      simp only [Option.some.injEq] at h
      subst h
      rw [asVar_false hx, asVar_false hy] at hs
      obtain ⟨p, q, rfl, rfl, rfl⟩ := sameSc_string (sameAll_one hs)
      rw [rep_string rx, rep_string ry, run_equalIn_string w D t p q hu, ← beq_toListBytes]
    · rename_i fs hu
      simp only [hu, Option.some.injEq] at hg
      subst hg
      split at h
      · simp at h
      · rename_i hp
        obtain rfl := asVar_true hx
        obtain rfl := asVar_true hy
        obtain ⟨xs, rfl, hX⟩ := rep_agg rx
        obtain ⟨ys, rfl, hY⟩ := rep_agg ry
        have hf : P.fieldsOf t = fs := by simp [Program.fieldsOf, hu]
        rw [run_equalIn_struct (P := P) w D t xs ys (by rw [hf]; exact hu) (by simpa using hp), hf]
        exact eq_fields ih (fun t l h => leavesOf_agg h) h (by simpa using hX) (by simpa using hY) hs
    · rename_i n e hu
      simp only [hu, Option.some.injEq] at hg
      subst hg
      split at h
      · rename_i r z g' h1 h2 h3
        split at h
        · rename_i hq
          simp only [Option.some.injEq] at h
          subst h
          obtain rfl := asVar_true hx
          obtain rfl := asVar_true hy
          obtain ⟨xs, rfl, hX⟩ := rep_agg rx
          obtain ⟨ys, rfl, hY⟩ := rep_agg ry
          have := eq_elems (P := P) (w := w) (ih _ _ h1) ⟨g', h3, hq.2⟩ h2 hq.1 n 0 (by simpa using hX) (by simpa using hY) hs
          rw [Op.equalIn]
          simp only [Sem.run_bind, run_underlying hu, Result.andThen_ok, run_sizeOf_some h2]
          simp only [Std.Legacy.Range.forIn_eq_forIn_range', Std.Legacy.Range.size, Nat.sub_zero, Nat.add_one_sub_one, Nat.div_one]
          rw [this]
          cases b <;> rfl
        · simp at h
      · simp at h
    · simp at h

theorem ok_eqAgg {op : BinOp} {neg : Bool} {t yt : TypeId} {x y : Operand} {ls : List LK} (ho : o.op = .binOp op t x y yt) (hop : op = if neg then .neq else .eql) (ht : aggOf P t = some true) (hgd : P.eqGuardType P.depth t = false) (hls : leavesOf P 20 t = some ls)
    (hx : compArg x = some ax) (hy : compArg y = some ay) (hv : opVal s m (.eqAgg neg ls ax ay) = some (v, m')) (hs : SRel ι S w s.get a.tmps) (hm : MRel ι S m.heap.get w) : OpOk P ι S w a m o v m' := by
  simp only [opVal] at hv
  split at hv
  · rename_i asq bs h1 h2
    simp only [Option.map_eq_some_iff, Prod.mk.injEq] at hv
    obtain ⟨b, hb, rfl, rfl⟩ := hv
    have r1 := arg_rep hx hs h1
    have r2 := arg_rep hy hs h2
    obtain ⟨xs, e1, _⟩ := rep_agg r1
    obtain ⟨ys, e2, _⟩ := rep_agg r2
    rw [e1] at r1
    rw [e2] at r2
    have he := leaves_ok (P := P) (w := w) 20 hls 10000 (by omega) true ht asq bs _ _ _ _ b rfl rfl r1 r2 hb
    refine OpOk.value (u := .bool (if neg then !b else b)) ?_ hm (.sc rfl)
    simp only [execOp, ho, Sem.run_bind, e1, e2, run_eqGuard_agg w op t x y xs ys hgd, Result.andThen_ok]
    cases neg <;> simp only [Bool.false_eq_true, if_true, if_false] at hop ⊢ <;> subst hop
    · rw [run_eql_struct, he]; rfl
    · rw [run_neq_struct, he]; rfl
  · simp at hv

/-! ### All together -/
theorem compArgs_one {xs : List Operand} {x : Arg} (h : compArgs xs = some [x]) : ∃ p, xs = [p] ∧ compArg p = some x := by
  match xs with
  | [] => simp [compArgs] at h
  | p :: r =>
    unfold compArgs at h
    split at h
    · rename_i q qs h1 h2
      simp only [Option.some.injEq, List.cons.injEq] at h
      obtain ⟨rfl, rfl⟩ := h
      match r with
      | [] => exact ⟨p, rfl, h1⟩
      | p2 :: r2 =>
        unfold compArgs at h2
        split at h2 <;> simp at h2
    · simp at h
theorem compArgs_two {xs : List Operand} {x y : Arg} (h : compArgs xs = some [x, y]) : ∃ p q, xs = [p, q] ∧ compArg p = some x ∧ compArg q = some y := by
  match xs with
  | [] => simp [compArgs] at h
  | p :: r =>
    unfold compArgs at h
    split at h
    · rename_i q qs h1 h2
      simp only [Option.some.injEq, List.cons.injEq] at h
      obtain ⟨rfl, rfl⟩ := h
      obtain ⟨p2, rfl, h3⟩ := compArgs_one h2
      exact ⟨p, p2, rfl, h1, h3⟩
    · simp at h

theorem op_ok (aop : AOp) (hc : compOp P o = some aop) (hv : opVal s m aop = some (v, m')) (hs : SRel ι S w s.get a.tmps) (hm : MRel ι S m.heap.get w) (hf : ∀ id, m.next ≤ id → id < m'.next → ι id = none) : OpOk P ι S w a m o v m' := by
  have hc0 := hc
  unfold compOp at hc
  split at hc
  · rename_i x ho
    simp only [Option.map_eq_some_iff] at hc
    obtain ⟨ax, hx, rfl⟩ := hc
    exact ok_move (.inl ho) hc0 hv hs hm
  · rename_i x ho
    simp only [Option.map_eq_some_iff] at hc
    obtain ⟨ax, hx, rfl⟩ := hc
    exact ok_move (.inr ho) hc0 hv hs hm
  · rename_i x y z ho
    split at hc
    · simp only [Option.some.injEq] at hc
      subst hc
      exact ok_pick ho (by assumption) (by assumption) (by assumption) hv hs hm
    · simp at hc
  · rename_i t ho
    simp only [Option.map_eq_some_iff] at hc
    obtain ⟨z, hz, rfl⟩ := hc
    exact ok_alloc ho hz hv hm hf
  · rename_i t x ho
    simp only [Option.map_eq_some_iff] at hc
    obtain ⟨ax, hx, rfl⟩ := hc
    exact ok_box ho hx hv hs hm hf
  · rename_i t parts ho
    split at hc
    · split at hc
      · simp only [Option.map_eq_some_iff] at hc
        obtain ⟨aps, hp, rfl⟩ := hc
        exact ok_build_struct ho (by assumption) (by assumption) (by assumption) hp hv hs hm
      · simp at hc
    · split at hc
      · simp only [Option.map_eq_some_iff] at hc
        obtain ⟨aps, hp, rfl⟩ := hc
        exact ok_build_array ho (by assumption) (by assumption) (by assumption) hp hv hs hm
      · simp at hc
    · simp at hc
  · rename_i t len parts ho
    split at hc
    · split at hc
      · split at hc
        · rename_i hq
          simp only [Option.map_eq_some_iff] at hc
          obtain ⟨aps, hp, rfl⟩ := hc
          exact ok_buildSlice ho (by assumption) (by assumption) (by assumption) hq.1 hq.2.1 hq.2.2 hp hv hs hm hf
        · simp at hc
      · simp at hc
    · simp at hc
  · rename_i t x ho
    split at hc
    · simp only [Option.some.injEq] at hc
      subst hc
      exact ok_load ho (by assumption) (by assumption) (by assumption) hv hs hm
    · simp at hc
  · rename_i t x y ho
    split at hc
    · simp only [Option.some.injEq] at hc
      subst hc
      exact ok_store ho (by assumption) (by assumption) (by assumption) hv hs hm
    · simp at hc
  · rename_i x ho
    simp only [Option.map_eq_some_iff] at hc
    obtain ⟨ax, hx, rfl⟩ := hc
    exact ok_nilCheck ho hx hv hs hm
  · rename_i op t x y yt ho
    split at hc
    · rename_i ax ay hx hy
      split at hc
      · simp only [Option.some.injEq] at hc
        subst hc
        exact ok_bin ho hx hy hv hs hm
      · simp only [Option.some.injEq] at hc
        subst hc
        exact ok_bin ho hx hy hv hs hm
      · simp only [Option.some.injEq] at hc
        subst hc
        exact ok_bin ho hx hy hv hs hm
      · simp only [Option.some.injEq] at hc
        subst hc
        exact ok_bin ho hx hy hv hs hm
      · rename_i ht
        split at hc <;> simp only [Option.some.injEq, reduceCtorEq] at hc <;> subst hc
        · exact ok_eqBool ho rfl ht hx hy hv hs hm
        · exact ok_eqBool ho rfl ht hx hy hv hs hm
      · rename_i e ht
        split at hc <;> simp only [Option.some.injEq, reduceCtorEq] at hc <;> subst hc
        · exact ok_eqNil (k := .ptr) ho rfl ⟨e, ht⟩ hx hy hv hs hm
        · exact ok_eqNil (k := .ptr) ho rfl ⟨e, ht⟩ hx hy hv hs hm
      · rename_i e ht
        split at hc <;> simp only [Option.some.injEq, reduceCtorEq] at hc <;> subst hc
        · exact ok_eqNil (k := .slice) ho rfl ⟨e, ht⟩ hx hy hv hs hm
        · exact ok_eqNil (k := .slice) ho rfl ⟨e, ht⟩ hx hy hv hs hm
      · rename_i e f g ht
        split at hc <;> simp only [Option.some.injEq, reduceCtorEq] at hc <;> subst hc
        · exact ok_eqNil (k := .func) ho rfl ⟨e, f, g, ht⟩ hx hy hv hs hm
        · exact ok_eqNil (k := .func) ho rfl ⟨e, f, g, ht⟩ hx hy hv hs hm
      · rename_i e f ht
        split at hc <;> simp only [Option.some.injEq, reduceCtorEq] at hc <;> subst hc
        · exact ok_eqNil (k := .map) ho rfl ⟨e, f, ht⟩ hx hy hv hs hm
        · exact ok_eqNil (k := .map) ho rfl ⟨e, f, ht⟩ hx hy hv hs hm
      · rename_i fs ht
        split at hc
        · simp at hc
        · rename_i hgd
          have hag : aggOf P t = some true := by simp [aggOf, ht]
          split at hc <;> simp only [Option.some.injEq, reduceCtorEq] at hc <;> subst hc
          · exact ok_eqAgg ho rfl hag (by simpa using hgd) (by assumption) hx hy hv hs hm
          · exact ok_eqAgg ho rfl hag (by simpa using hgd) (by assumption) hx hy hv hs hm
      · rename_i n e ht
        split at hc
        · simp at hc
        · rename_i hgd
          have hag : aggOf P t = some true := by simp [aggOf, ht]
          split at hc <;> simp only [Option.some.injEq, reduceCtorEq] at hc <;> subst hc
          · exact ok_eqAgg ho rfl hag (by simpa using hgd) (by assumption) hx hy hv hs hm
          · exact ok_eqAgg ho rfl hag (by simpa using hgd) (by assumption) hx hy hv hs hm
      · simp at hc
    · simp at hc
  · rename_i op t x ho
    simp only [Option.map_eq_some_iff] at hc
    obtain ⟨ax, hx, rfl⟩ := hc
    exact ok_un ho hx hv hs hm
  · rename_i sd dd x ho
    split at hc <;> simp only [Option.some.injEq, reduceCtorEq] at hc <;> subst hc
    · exact ok_conv_int ho (by assumption) (by assumption) (by assumption) hv hs hm
    · exact ok_conv_string ho (by assumption) (by assumption) (by assumption) hv hs hm
    · exact ok_conv_float ho (.inl ⟨_, by assumption⟩) (by assumption) (by assumption) hv hs hm
    · exact ok_conv_float ho (.inr ⟨_, by assumption⟩) (by assumption) (by assumption) hv hs hm
  · rename_i f p q ho
    split at hc
    · simp only [Option.some.injEq] at hc
      subst hc
      exact ok_makeFunc ho (by assumption) (by assumption) hv hs hm
    · simp at hc
  · rename_i t x y ho
    split at hc
    · split at hc
      · split at hc
        · rename_i hq
          simp only [Option.some.injEq] at hc
          subst hc
          exact ok_makeSlice ho (by assumption) (by assumption) (by assumption) (by assumption) hq.1 hq.2 (by assumption) (by assumption) hv hs hm hf
        · simp at hc
      · simp at hc
    · simp at hc
  · rename_i t x lo hi mx ho
    split at hc
    · rename_i h1 h2 h3 h4 h5
      split at hc
      · split at hc
        · rename_i hq
          split at hc
          · simp only [Option.some.injEq] at hc
            subst hc
            exact ok_sliceB ho h1 (by assumption) hq h2 h3 h4 h5 hv hs hm
          · simp only [Option.some.injEq] at hc
            subst hc
            exact ok_slice ho h1 (by assumption) hq h2 h3 h4 h5 hv hs hm
        · simp at hc
      · simp at hc
    · rename_i h1 h2 h3 h4 h5
      simp only [Option.some.injEq] at hc
      subst hc
      have hmx : mx = none := by
        cases mx with
        | none => rfl
        | some q => simp [compOpt] at h5
      subst hmx
      exact ok_sliceStr ho h1 h2 h3 h4 hv hs hm
    · simp at hc
  · rename_i t x i ho
    split at hc
    · split at hc
      · split at hc
        · split at hc
          · rename_i hq
            simp only [Option.some.injEq] at hc
            subst hc
            exact ok_fieldAddr ho (by assumption) (by assumption) (by assumption) hq (by assumption) hv hs hm
          · simp at hc
        · simp at hc
      · simp at hc
    · simp at hc
  · rename_i t x i ho
    split at hc
    · split at hc
      · split at hc
        · simp only [Option.some.injEq] at hc
          subst hc
          exact ok_field ho (by assumption) (by assumption) (by assumption) (by assumption) (by assumption) hv hs hm
        · simp at hc
      · simp at hc
    · simp at hc
  · rename_i t x i ho
    split at hc
    · rename_i hx hi
      split at hc
      · split at hc
        · split at hc
          · rename_i hq
            simp only [Option.some.injEq] at hc
            subst hc
            exact ok_indexAddr_array ho (by assumption) (by assumption) hq hx hi hv hs hm
          · simp at hc
        · simp at hc
      · split at hc
        · split at hc
          · rename_i hq
            simp only [Option.some.injEq] at hc
            subst hc
            exact ok_indexAddr_slice ho (by assumption) (by assumption) hq hx hi hv hs hm
          · simp at hc
        · simp at hc
      · simp at hc
    · simp at hc
  · rename_i t x i ho
    split at hc
    · rename_i hx hi
      split at hc
      · split at hc
        · split at hc
          · rename_i hq
            simp only [Option.some.injEq] at hc
            subst hc
            exact ok_index ho (by assumption) (by assumption) (by assumption) hq hx hi hv hs hm
          · simp at hc
        · simp at hc
      · simp only [Option.some.injEq] at hc
        subst hc
        exact ok_indexStr ho (by assumption) hx hi hv hs hm
      · simp at hc
    · simp at hc
  · rename_i x i ho
    simp only [Option.map_eq_some_iff] at hc
    obtain ⟨ax, hx, rfl⟩ := hc
    exact ok_extract ho hx hv hs hm
  · rename_i c ho
    split at hc
    · split at hc
      · simp only [Option.some.injEq] at hc
        subst hc
        simp [opVal] at hv
      · simp at hc
    · simp at hc
    · rename_i b hcal
      split at hc
      · rename_i x t hargs htys
        obtain ⟨p, hp, hx⟩ := compArgs_one hargs
        split at hc <;> simp only [Option.some.injEq, reduceCtorEq] at hc <;> subst hc
        · exact ok_lenStr ho hcal hp htys (by assumption) hx hv hs hm
        · exact ok_len ho hcal hp htys (by assumption) hx hv hs hm
        · exact ok_lenC ho hcal hp htys (by assumption) hv hm
      · rename_i x t hargs htys
        obtain ⟨p, hp, hx⟩ := compArgs_one hargs
        split at hc <;> simp only [Option.some.injEq, reduceCtorEq] at hc <;> subst hc
        exact ok_cap ho hcal hp htys (by assumption) hx hv hs hm
      · rename_i x y t u hargs htys
        obtain ⟨p, q, hp, hx, hy⟩ := compArgs_two hargs
        split at hc
        · split at hc
          · split at hc
            · rename_i hq
              simp only [Option.some.injEq] at hc
              subst hc
              exact ok_append ho hcal hp htys (by assumption) (by assumption) (by assumption) (by assumption) (by assumption) hq.1 hq.2.1 hq.2.2 hx hy hv hs hm hf
            · simp at hc
          · simp at hc
        · split at hc
          · split at hc
            · rename_i hq
              simp only [Option.some.injEq] at hc
              subst hc
              exact ok_appendZeros ho hcal hp htys (by assumption) (by assumption) (by assumption) (by assumption) (by assumption) hq.1 hq.2.1 hq.2.2 hx hy hv hs hm hf
            · simp at hc
          · simp at hc
        · simp at hc
      · rename_i x y t tys hargs htys
        obtain ⟨p, q, hp, hx, hy⟩ := compArgs_two hargs
        split at hc
        · split at hc
          · split at hc
            · simp only [Option.some.injEq] at hc
              subst hc
              exact ok_copy ho hcal hp htys (by assumption) (by assumption) hx hy hv hs hm
            · simp at hc
          · simp at hc
        · simp at hc
      · rename_i x t hargs htys
        obtain ⟨p, hp, hx⟩ := compArgs_one hargs
        split at hc
        · split at hc
          · split at hc
            · rename_i hq
              simp only [Option.some.injEq] at hc
              subst hc
              exact ok_clear ho hcal hp htys (by assumption) (by assumption) (by assumption) hq.1 hq.2 hx hv hs hm
            · simp at hc
          · simp at hc
        · simp at hc
      · rename_i x hargs
        simp only [Option.some.injEq] at hc
        subst hc
        obtain ⟨p, hp, hx⟩ := compArgs_one hargs
        exact ok_real (im := false) ho hcal hp hx hv hs hm
      · rename_i x hargs
        simp only [Option.some.injEq] at hc
        subst hc
        obtain ⟨p, hp, hx⟩ := compArgs_one hargs
        exact ok_real (im := true) ho hcal hp hx hv hs hm
      · rename_i x y hargs
        simp only [Option.some.injEq] at hc
        subst hc
        obtain ⟨p, q, hp, hx, hy⟩ := compArgs_two hargs
        exact ok_cplx ho hcal hp hx hy hv hs hm
      · rename_i xs hargs
        simp only [Option.some.injEq] at hc
        subst hc
        exact ok_minmax (mx := true) ho hcal hargs hv hs hm
      · rename_i xs hargs
        simp only [Option.some.injEq] at hc
        subst hc
        exact ok_minmax (mx := false) ho hcal hargs hv hs hm
      · simp at hc
  · simp only [Option.some.injEq] at hc
    subst hc
    simp [opVal, Arg.get] at hv
  · simp only [Option.some.injEq] at hc
    subst hc
    simp [opVal, Arg.get] at hv
  · simp at hc
end
end Go.Am
namespace Go.Am

/-! ### What the evaluator alone keeps -/
theorem grow_new (m : Mem) (b : Box) : Grow m (m.new b) := ⟨by simp [Mem.new], by simp [Mem.new], fun id h => .inr (by simp only [Mem.new, Tr.get_set]; rw [if_neg (by omega)])⟩
theorem grow_put (m : Mem) (id : Nat) (b : Option Box) : Grow m (m.put id b) := ⟨by simp [Mem.put], by simp [Mem.put]; omega, fun i h => by
  simp only [Mem.put, Tr.get_set]
  by_cases e : i = id
  · left; omega
  · right; rw [if_neg e]⟩

theorem opVal_grow {s : Tr AVal} {m m' : Mem} {v : AVal} {o : AOp} (h : opVal s m o = some (v, m')) : Grow m m' := by
  cases o <;> simp only [opVal] at h
  all_goals (repeat' (split at h))
  all_goals (try (simp only [reduceCtorEq] at h; done))
  all_goals (try simp only [Option.map_eq_some_iff, Option.some.injEq, Prod.mk.injEq] at h)
  all_goals first
    | (obtain ⟨_, _, _, rfl⟩ := h; exact Grow.refl _)
    | (obtain ⟨_, rfl⟩ := h; exact Grow.refl _)
    | (obtain ⟨_, rfl⟩ := h; exact grow_new _ _)
    | (obtain ⟨_, rfl⟩ := h; exact grow_put _ _ _)
    | (obtain ⟨_, rfl⟩ := h; exact (grow_put _ _ _).trans (grow_new _ _))

/-- What a call must come to, in the model. -/
def Sim (P : Program) (f : FuncId) (args : List AVal) (m : Mem) (v : AVal) (m' : Mem) : Prop :=
  ∀ (ι : Inj) (S : Nat → Prop) (w : World) (vargs : List Value), RepL ι S w args vargs → MRel ι S m.heap.get w → (∀ id, m.next ≤ id → id < m'.next → ι id = none) →
    Calls P f vargs.toArray w fun e w' => ∃ u ι' S', e = .returned u ∧ Post ι S m w v m' u ι' S' w'

structure CfOk (P : Program) (cf : CallF) : Prop where
  grow : ∀ g args m v m', cf g args m = some (v, m') → Grow m m'
  sim : ∀ g args m v m', cf g args m = some (v, m') → ∃ f fn, g = .func f ∧ P.funcs[f]? = some fn ∧ (fn.name == "runtime.NumGoroutine") = false ∧ fn.body.isSome = true ∧ Sim P f args m v m'

section
variable {P : Program} {cf : CallF} {ι : Inj} {S : Nat → Prop} {w : World} {s : Tr AVal} {a : Act} {m m' : Mem} {v : AVal} {o : Oper}

theorem stepVal_grow (hcf : CfOk P cf) {op : AOp} (h : stepVal cf s m op = some (v, m')) : Grow m m' := by
  unfold stepVal at h
  split at h
  · split at h
    · exact hcf.grow _ _ _ _ _ h
    · simp at h
  · exact opVal_grow h

/-- An operation, a call among them. -/
theorem step_wp (hcf : CfOk P cf) {aop : AOp} (hc : compOp P o = some aop) (hv : stepVal cf s m aop = some (v, m')) (hs : SRel ι S w s.get a.tmps) (hm : MRel ι S m.heap.get w) (hf : ∀ id, m.next ≤ id → id < m'.next → ι id = none)
    {next : Act → World → Prop} {Q : Exit → Act → World → Prop} (K : ∀ u w' ι' S', Post ι S m w v m' u ι' S' w' → next (a.put o.dst u) w') : o.wp P a w next Q := by
  unfold stepVal at hv
  split at hv
  · rename_i f args
    split at hv
    · rename_i g first cap vs hfv hvs
      obtain ⟨fid, fn, rfl, hfn, hname, hbody, hsim⟩ := hcf.sim _ _ _ _ _ hv
      -- the operation is a call of a value
      unfold compOp at hc
      split at hc
      all_goals (try (simp only [Option.map_eq_some_iff, reduceCtorEq, and_false, exists_false] at hc; done))
      all_goals (try ((repeat' (split at hc)) <;> (try simp only [Option.map_eq_some_iff, Option.some.injEq, reduceCtorEq, and_false, exists_false] at hc) <;> done))
      rename_i c ho
      split at hc
      · rename_i fo hcal
        split at hc
        · rename_i af asq hf1 has1
          simp only [Option.some.injEq, AOp.call.injEq] at hc
          obtain ⟨rfl, rfl⟩ := hc
          obtain ⟨vf, vc, e1, r1, r2⟩ := rep_fn (arg_rep hf1 hs hfv)
          have r3 := args_rep has1 hs hvs
          have hb : fn.body.isNone = false := by cases hq : fn.body <;> simp_all
          have hrun : (execOp a.eval o).run P w = .ok (.enter fid (vf ++ c.args.map a.eval ++ vc)) w := by
            simp only [execOp, ho, resolve, hcal, e1, Deferred.ofValue, invoke, callFunc, Sem.run_bind, Sem.run_pure, Result.andThen_ok, run_program, hfn, hname, hb, Bool.false_eq_true, if_false]
          unfold Oper.wp
          rw [hrun]
          show Calls P fid _ w _
          have hR : RepL ι S w (first ++ vs ++ cap) (vf.toList ++ c.args.toList.map a.eval ++ vc.toList) := (r1.append r3).append r2
          have := hsim ι S w _ hR hm hf
          have ea : (vf.toList ++ c.args.toList.map a.eval ++ vc.toList).toArray = vf ++ c.args.map a.eval ++ vc := by
            apply Array.ext'
            simp
          rw [ea] at this
          refine this.mono fun e w' ⟨u, ι', S', he, hp⟩ => ?_
          subst he
          exact K u w' ι' S' hp
        · simp at hc
      · simp at hc
      · exfalso
        (repeat' (split at hc)) <;> simp at hc
    · simp at hv
  · obtain ⟨nx, u, w', ι', S', h1, h2, h3⟩ := op_ok aop hc hv hs hm hf
    unfold Oper.wp
    rw [h1]
    rcases h2 with rfl | ⟨rfl, rfl⟩
    · exact K u w' ι' S' h3
    · exact K undef w' ι' S' h3

/-! ### Steps one behind the other -/
structure Sp (ι : Inj) (S : Nat → Prop) (m : Mem) (w : World) (m' : Mem) (ι' : Inj) (S' : Nat → Prop) (w' : World) : Prop where
  inj : InjLe ι ι'
  news : ∀ id, ι' id ≠ none → ι id ≠ none ∨ (m.next ≤ id ∧ id < m'.next)
  prot : ∀ b, S b → S' b
  fresh : ∀ b, S' b → S b ∨ w.heap.size ≤ b
  step : WStep (Own ι m.heap.get) w w'
  own : ∀ b, b < w.heap.size → Own ι' m'.heap.get b → Own ι m.heap.get b
  grow : Grow m m'

theorem Post.sp {u : Value} {ι' : Inj} {S' : Nat → Prop} {w' : World} (h : Post ι S m w v m' u ι' S' w') : Sp ι S m w m' ι' S' w' := ⟨h.inj, h.news, h.prot, h.fresh, h.step, h.own, h.grow⟩
theorem Sp.refl (ι : Inj) (S : Nat → Prop) (m : Mem) (w : World) : Sp ι S m w m ι S w := ⟨InjLe.refl _, fun _ h => .inl h, fun _ h => h, fun _ h => .inl h, WStep.refl _ _, fun _ _ h => h, Grow.refl _⟩
theorem Sp.drawn_ (ι : Inj) (S : Nat → Prop) (m : Mem) (w : World) (n : Nat) : Sp ι S m w m ι S { w with drawn := n } := ⟨InjLe.refl _, fun _ h => .inl h, fun _ h => h, fun _ h => .inl h, WStep.drawn_ _ _ _, fun _ _ h => h, Grow.refl _⟩
theorem Sp.trans {ι1 ι2 : Inj} {S1 S2 : Nat → Prop} {m1 m2 : Mem} {w1 w2 : World} (h : Sp ι S m w m1 ι1 S1 w1) (k : Sp ι1 S1 m1 w1 m2 ι2 S2 w2) : Sp ι S m w m2 ι2 S2 w2 where
  inj := h.inj.trans k.inj
  news := fun id hid => by
    rcases k.news id hid with e | e
    · rcases h.news id e with e' | e'
      · exact .inl e'
      · exact .inr ⟨e'.1, Nat.lt_of_lt_of_le e'.2 k.grow.next⟩
    · exact .inr ⟨Nat.le_trans h.grow.next e.1, e.2⟩
  prot := fun b hb => k.prot b (h.prot b hb)
  fresh := fun b hb => by
    rcases k.fresh b hb with e | e
    · exact h.fresh b e
    · exact .inr (Nat.le_trans h.step.size e)
  step := (h.step.trans k.step).mono fun b hb e => by
    rcases e with e | e
    · exact e
    · exact h.own b hb e.1
  own := fun b hb e => h.own b hb (k.own b (Nat.lt_of_lt_of_le hb h.step.size) e)
  grow := h.grow.trans k.grow

/-- What stood for a value ahead of a step does so behind it. -/
theorem Sp.rep {ι' : Inj} {S' : Nat → Prop} {w' : World} {x : AVal} {u : Value} (h : Sp ι S m w m' ι' S' w') (hm : MRel ι S m.heap.get w) (hr : Rep ι S w x u) : Rep ι' S' w' x u :=
  hr.up hm h.inj h.prot h.step (fun b hb => hm.notS hb)
theorem Sp.srel {ι' : Inj} {S' : Nat → Prop} {w' : World} {f : Nat → Option AVal} {t : Array Value} (h : Sp ι S m w m' ι' S' w') (hm : MRel ι S m.heap.get w) (hr : SRel ι S w f t) : SRel ι' S' w' f t :=
  fun i x hi => by
    obtain ⟨u, h1, h2⟩ := hr i x hi
    exact ⟨u, h1, h.rep hm h2⟩
theorem srel_put {ι' : Inj} {S' : Nat → Prop} {w' : World} {d : Option Tmp} {u : Value} (hs : SRel ι' S' w' s.get a.tmps) (hr : Rep ι' S' w' v u) (hd : ∀ k, d = some k → k < a.tmps.size) : SRel ι' S' w' (setDst s d v).get (a.put d u).tmps := by
  intro i x hi
  cases d with
  | none => exact hs i x hi
  | some k =>
    simp only [setDst, Tr.get_set] at hi
    simp only [Act.put]
    split at hi
    · rename_i e
      simp at hi
      subst hi e
      exact ⟨u, by simp [hd _ rfl], hr⟩
    · rename_i e
      obtain ⟨u', h1, h2⟩ := hs i x hi
      refine ⟨u', ?_, h2⟩
      rw [Array.getElem?_setIfInBounds_ne (fun h => e h.symm)]
      exact h1

theorem wanted_ok {ops : Array Oper} {g : Option (Nat × Bool)} {b : Bool} (hs : SRel ι S w s.get a.tmps) (hg : o.guard = g) (h : wantedA s (g.map fun g => ((ops[g.1]?).bind (·.dst), g.2)) = some b) : Region.wanted o (yielded ops a.tmps) = b := by
  unfold Region.wanted
  rw [hg]
  cases g with
  | none => simp [wantedA] at h; simp [h]
  | some p =>
    obtain ⟨j, want⟩ := p
    simp only [Option.map_some] at h
    simp only [yielded]
    cases hd : (ops[j]?).bind (·.dst) with
    | none =>
      rw [hd] at h
      simp [wantedA] at h
      simp [← h]
    | some d =>
      rw [hd] at h
      simp only [wantedA] at h
      split at h
      · rename_i q hq
        simp at h
        obtain ⟨u, h1, h2⟩ := hs d _ hq
        have e := rep_bool h2
        subst e
        simp [h1, ← h]
      · rename_i hq
        simp at h
        obtain ⟨u, h1, h2⟩ := hs d _ hq
        obtain ⟨vs, rfl, _⟩ := rep_tup h2
        simp [h1, ← h]
      · simp at h

theorem compAO_spec {nt : Nat} {ops : Array Oper} {bf : Array Nat} {i : Nat} {ao : AO} (h : compAO P nt ops bf i o = some ao) :
    compOp P o = some ao.op ∧ ao.dst = o.dst ∧ (∀ d, o.dst = some d → d < nt) ∧ ao.guard = o.guard.map (fun g => ((ops[g.1]?).bind (·.dst), g.2)) ∧ ao.after = bf.getD i 0 := by
  unfold compAO at h
  split at h
  · simp at h
  · rename_i op hop
    split at h
    · rename_i hd
      simp only [Option.some.injEq] at h
      subst h
      refine ⟨hop, rfl, fun d e => ?_, rfl, rfl⟩
      rw [e] at hd
      simpa [dstOk] using hd
    · simp at h

theorem put_size (a : Act) (d : Option Tmp) (u : Value) : (a.put d u).tmps.size = a.tmps.size := by cases d <;> simp [Act.put]
theorem put_defers (a : Act) (d : Option Tmp) (u : Value) : (a.put d u).defers = a.defers := by cases d <;> rfl

theorem stepO_grow (hcf : CfOk P cf) {ao : AO} {s s' : St} (h : stepO cf ao s = some s') : Grow s.mem s'.mem := by
  unfold stepO at h
  split at h
  · split at h
    · rename_i v m hv
      simp at h
      subst h
      exact stepVal_grow hcf hv
    · simp at h
  · simp at h
    subst h
    exact Grow.refl _
  · simp at h
theorem stepOs_grow (hcf : CfOk P cf) : ∀ {l : List AO} {s s' : St}, stepOs cf l s = some s' → Grow s.mem s'.mem
  | [], s, s', h => by
    simp [stepOs] at h
    subst h
    exact Grow.refl _
  | o :: l, s, s', h => by
    unfold stepOs at h
    split at h
    · rename_i s1 h1
      exact (stepO_grow hcf h1).trans (stepOs_grow hcf h)
    · simp at h

structure StRel (ι : Inj) (S : Nat → Prop) (w : World) (s : St) (a : Act) (nt : Nat) : Prop where
  slots : SRel ι S w s.slots.get a.tmps
  mem : MRel ι S s.mem.heap.get w
  size : nt ≤ a.tmps.size
  defers : a.defers = []

theorem stepOs_wp (hcf : CfOk P cf) {nt : Nat} {ops : Array Oper} {bf : Array Nat} {Q : Exit → Act → World → Prop} : ∀ (rest : List Oper) (i : Nat) (l : List AO) (s s' : St) (ι : Inj) (S : Nat → Prop) (w : World) (a : Act),
    ops.toList.drop i = rest → compOs P nt ops bf i rest = some l → stepOs cf l s = some s' → StRel ι S w s a nt → (∀ id, s.mem.next ≤ id → id < s'.mem.next → ι id = none) →
    (∀ a' w' ι' S', Sp ι S s.mem w s'.mem ι' S' w' → StRel ι' S' w' s' a' nt → Q .normal a' w') → wpOps P ops Q (List.range' i rest.length) a w
  | [], i, l, s, s', ι, S, w, a, hd, hc, hv, hr, hf, K => by
    simp [compOs] at hc
    subst hc
    simp [stepOs] at hv
    subst hv
    exact K a w ι S (Sp.refl _ _ _ _) hr
  | o :: rest, i, l, s, s', ι, S, w, a, hd, hc, hv, hr, hf, K => by
    unfold compOs at hc
    split at hc
    · rename_i ao l' h1 h2
      simp only [Option.some.injEq] at hc
      subst hc
      obtain ⟨c1, c2, c3, c4, _⟩ := compAO_spec h1
      have hget : ops[i]? = some o := by
        have := congrArg (fun l => l[0]?) hd
        simpa using this
      have hdrop : ops.toList.drop (i + 1) = rest := by
        have := congrArg (fun l => l.drop 1) hd
        simpa [List.drop_drop] using this
      unfold stepOs at hv
      split at hv
      · rename_i s1 hs1
        have hg2 := stepOs_grow hcf hv
        rw [List.length_cons, List.range'_succ]
        simp only [wpOps, hget]
        unfold stepO at hs1
        split at hs1
        · rename_i hw
          split at hs1
          · rename_i v m1 hv1
            simp only [Option.some.injEq] at hs1
            subst hs1
            have hg1 := stepVal_grow hcf hv1
            rw [wanted_ok (ops := ops) hr.slots rfl (c4 ▸ hw)]
            simp only [if_true]
            left
            refine step_wp hcf c1 hv1 hr.slots hr.mem (fun id g1 g2 => hf id g1 (Nat.lt_of_lt_of_le g2 hg2.next)) fun u w1 ι1 S1 hp => ?_
            refine stepOs_wp hcf rest (i + 1) l' _ s' ι1 S1 w1 _ hdrop h2 hv ⟨?_, hp.mem, by rw [put_size]; exact hr.size, by rw [put_defers]; exact hr.defers⟩ (fun id g1 g2 => ?_) fun a' w' ι' S' hsp hst => K a' w' ι' S' (hp.sp.trans hsp) hst
            · rw [c2]
              exact srel_put (hp.sp.srel hr.mem hr.slots) hp.rep (fun k e => Nat.lt_of_lt_of_le (c3 k e) hr.size)
            · simp only at g1
              apply Classical.byContradiction
              intro hne
              rcases hp.news id hne with e | e
              · exact e (hf id (Nat.le_trans hg1.next g1) g2)
              · omega
          · simp at hs1
        · rename_i hw
          simp only [Option.some.injEq] at hs1
          subst hs1
          rw [wanted_ok (ops := ops) hr.slots rfl (c4 ▸ hw)]
          simp only [Bool.false_eq_true, if_false]
          refine stepOs_wp hcf rest (i + 1) l' _ s' ι S w _ hdrop h2 hv ⟨?_, hr.mem, by rw [put_size]; exact hr.size, by rw [put_defers]; exact hr.defers⟩ hf K
          rw [c2]
          exact srel_put hr.slots (.tup rfl (fun j c v hc => by simp at hc)) (fun k e => Nat.lt_of_lt_of_le (c3 k e) hr.size)
        · simp at hs1
      · simp at hv
    · simp at hc
end
end Go.Am
