/- Parts of the proof, joined by program: AmOps1. -/
import Derived.Test.YtfaphhcloanhnaaPa12
import Derived.Laws.Append
import Derived.Laws.AppendOwn
import Derived.Laws.CopyRow
import Derived.Laws.MakeOwn
import Derived.Laws.Slices
set_option linter.unusedSimpArgs false
set_option linter.unusedVariables false
namespace Go.Am

structure Grow (m m' : Mem) : Prop where
  next : m.next ≤ m'.next
  low : m'.low ≤ m.low
  same : ∀ id, id < m.next → m'.low ≤ id ∨ m'.heap.get id = m.heap.get id

theorem Grow.refl (m : Mem) : Grow m m := ⟨Nat.le_refl _, Nat.le_refl _, fun _ _ => .inr rfl⟩
theorem Grow.trans {a b c : Mem} (h : Grow a b) (k : Grow b c) : Grow a c :=
  ⟨Nat.le_trans h.next k.next, Nat.le_trans k.low h.low, fun id hid => by
    rcases k.same id (Nat.lt_of_lt_of_le hid h.next) with e | e
    · exact .inl e
    · rcases h.same id hid with e' | e'
      · exact .inl (Nat.le_trans k.low e')
      · exact .inr (e.trans e')⟩

/-- Behind a step: 'ι', 'S' may have grown. -/
structure Post (ι : Inj) (S : Nat → Prop) (m : Mem) (w : World) (v : AVal) (m' : Mem) (u : Value) (ι' : Inj) (S' : Nat → Prop) (w' : World) : Prop where
  inj : InjLe ι ι'
  news : ∀ id, ι' id ≠ none → ι id ≠ none ∨ (m.next ≤ id ∧ id < m'.next)
  prot : ∀ b, S b → S' b
  fresh : ∀ b, S' b → S b ∨ w.heap.size ≤ b
  step : WStep (Own ι m.heap.get) w w'
  own : ∀ b, b < w.heap.size → Own ι' m'.heap.get b → Own ι m.heap.get b
  mem : MRel ι' S' m'.heap.get w'
  rep : Rep ι' S' w' v u
  grow : Grow m m'

theorem Post.val {ι : Inj} {S : Nat → Prop} {m : Mem} {w : World} {v : AVal} {u : Value} (hm : MRel ι S m.heap.get w) (h : Rep ι S w v u) : Post ι S m w v m u ι S w :=
  ⟨InjLe.refl _, fun _ h => .inl h, fun _ h => h, fun _ h => .inl h, WStep.refl _ _, fun _ _ h => h, hm, h, Grow.refl _⟩

/-! ### Constants, operands -/
theorem scAll_rep {ι : Inj} {S : Nat → Prop} {w : World} : ∀ {vs : List Value} {asq : List AVal}, scAll vs = some asq → RepL ι S w asq vs ∧ ∀ a ∈ asq, a.one = true
  | [], asq, h => by
    simp [scAll] at h
    subst h
    exact ⟨⟨rfl, fun j c v h => by simp at h⟩, by simp⟩
  | v :: r, asq, h => by
    unfold scAll at h
    cases h1 : scal v with
    | none => simp [h1] at h
    | some a =>
      cases h2 : scAll r with
      | none => simp [h1, h2] at h
      | some as' =>
        simp [h1, h2] at h
        subst h
        obtain ⟨⟨hl, hr⟩, ho⟩ := scAll_rep (ι := ι) (S := S) (w := w) h2
        refine ⟨⟨by simp [hl], fun j c u hc hu => ?_⟩, by
          intro a ha
          simp at ha
          rcases ha with rfl | ha
          · rfl
          · exact ho a ha⟩
        cases j with
        | zero => simp at hc hu; subst hc hu; exact .sc h1
        | succ j => exact hr j c u (by simpa using hc) (by simpa using hu)

theorem ofConst_rep {v : Value} {a : AVal} (h : ofConst v = some a) (ι : Inj) (S : Nat → Prop) (w : World) : Rep ι S w a v := by
  cases v
  case agg cs =>
    simp only [ofConst, Option.map_eq_some_iff] at h
    obtain ⟨asq, h1, rfl⟩ := h
    obtain ⟨⟨hl, hr⟩, _⟩ := scAll_rep (ι := ι) (S := S) (w := w) h1
    exact .agg (by simpa using hl) (fun j c v hc hv => hr j c v hc (by simpa using hv))
  case tuple vs =>
    simp only [ofConst] at h
    split at h
    · simp at h
      subst h
      have : vs = #[] := Array.eq_empty_of_size_eq_zero (by assumption)
      subst this
      exact .tup rfl (fun j c v hc => by simp at hc)
    · simp at h
  case func f a b =>
    simp only [ofConst] at h
    split at h
    · simp at h
      subst h
      rename_i hh
      obtain ⟨h1, h2⟩ := hh
      have e1 : a = #[] := Array.eq_empty_of_size_eq_zero h1
      have e2 : b = #[] := Array.eq_empty_of_size_eq_zero h2
      subst e1 e2
      exact .fn rfl rfl (fun j c v hc => by simp at hc) (fun j c v hc => by simp at hc)
    · simp at h
  all_goals
    simp only [ofConst, Option.map_eq_some_iff] at h
    obtain ⟨x, h1, rfl⟩ := h
    exact .sc h1

section
variable {P : Program} {ι : Inj} {S : Nat → Prop} {w : World} {s : Tr AVal} {a : Act} {m m' : Mem} {v : AVal}

theorem arg_rep {x : Operand} {ax : Arg} (hc : compArg x = some ax) (hs : SRel ι S w s.get a.tmps) (hv : ax.get s = some v) : Rep ι S w v (a.eval x) := by
  cases x with
  | tmp t =>
    simp [compArg] at hc
    subst hc
    simp only [Arg.get] at hv
    obtain ⟨u, h1, h2⟩ := hs t v hv
    have : a.eval (.tmp t) = u := by simp [Act.eval, h1]
    rw [this]
    exact h2
  | const c =>
    simp only [compArg, Option.map_eq_some_iff] at hc
    obtain ⟨k, h1, rfl⟩ := hc
    simp only [Arg.get, Option.some.injEq] at hv
    subst hv
    exact ofConst_rep h1 _ _ _
  | global g => simp [compArg] at hc
  | func f =>
    simp [compArg] at hc
    subst hc
    simp only [Arg.get, Option.some.injEq] at hv
    subst hv
    exact .fn rfl rfl (fun j c v hc => by simp at hc) (fun j c v hc => by simp at hc)

theorem args_rep {xs : List Operand} : ∀ {asq : List Arg} {vs : List AVal}, compArgs xs = some asq → SRel ι S w s.get a.tmps → argAll s asq = some vs → RepL ι S w vs (xs.map a.eval) := by
  induction xs with
  | nil =>
    intro asq vs hc hs hv
    simp [compArgs] at hc
    subst hc
    simp [argAll] at hv
    subst hv
    exact ⟨rfl, fun j c v h => by simp at h⟩
  | cons x r ih =>
    intro asq vs hc hs hv
    unfold compArgs at hc
    cases h1 : compArg x with
    | none => simp [h1] at hc
    | some ax =>
      cases h2 : compArgs r with
      | none => simp [h1, h2] at hc
      | some ar =>
        simp [h1, h2] at hc
        subst hc
        unfold argAll at hv
        cases h3 : ax.get s with
        | none => simp [h3] at hv
        | some u =>
          cases h4 : argAll s ar with
          | none => simp [h3, h4] at hv
          | some us =>
            simp [h3, h4] at hv
            subst hv
            obtain ⟨hl, hr⟩ := ih h2 hs h4
            refine ⟨by simp [hl], fun j c v hc hv => ?_⟩
            cases j with
            | zero => simp at hc hv; subst hc hv; exact arg_rep h1 hs h3
            | succ j => exact hr j c v (by simpa using hc) (by simpa using hv)

/-! ### What a value must be -/
theorem rep_int {k : IntKind} {n : Int} {u : Value} (h : Rep ι S w (.sc (.int k n)) u) : u = .int k n := by
  cases h with
  | sc h => unfold scal at h; split at h <;> simp_all
theorem rep_bool {b : Bool} {u : Value} (h : Rep ι S w (.sc (.bool b)) u) : u = .bool b := by
  cases h with
  | sc h => unfold scal at h; split at h <;> simp_all
theorem rep_string {b : ByteArray} {u : Value} (h : Rep ι S w (.sc (.string b)) u) : u = .string b := by
  cases h with
  | sc h => unfold scal at h; split at h <;> simp_all
theorem rep_nil {u : Value} (h : Rep ι S w (.sc (.slice none 0 0)) u) : u = .slice none 0 0 := by
  cases h with
  | sc h => unfold scal at h; split at h <;> simp_all
theorem rep_int' {x : AVal} {n : Int} {u : Value} (h : Rep ι S w x u) (hx : x.int? = some n) : ∃ k, u = .int k n := by
  unfold AVal.int? at hx
  split at hx
  · simp at hx
    subst hx
    exact ⟨_, rep_int h⟩
  · simp at hx
theorem rep_int_mk (k : IntKind) (n : Int) : Rep ι S w (.sc (.int k n)) (.int k n) := .sc rfl
/-! ### The plain ones -/
def OpOk (P : Program) (ι : Inj) (S : Nat → Prop) (w : World) (a : Act) (m : Mem) (o : Oper) (v : AVal) (m' : Mem) : Prop :=
  ∃ nx u w' ι' S', (execOp a.eval o).run P w = .ok nx w' ∧ (nx = .value u ∨ (nx = .skip ∧ u = undef)) ∧ Post ι S m w v m' u ι' S' w'

theorem OpOk.value {o : Oper} {u : Value} (he : (execOp a.eval o).run P w = .ok (.value u) w) (hm : MRel ι S m.heap.get w) (hr : Rep ι S w v u) : OpOk P ι S w a m o v m :=
  ⟨_, u, w, ι, S, he, .inl rfl, Post.val hm hr⟩

/-- Numbers may have been drawn on the way. -/
theorem OpOk.drew {o : Oper} {u : Value} {n : Nat} (he : (execOp a.eval o).run P w = .ok (.value u) { w with drawn := n }) (hm : MRel ι S m.heap.get w) (hr : ∀ w', Rep ι S w' v u) : OpOk P ι S w a m o v m :=
  ⟨_, u, { w with drawn := n }, ι, S, he, .inl rfl, InjLe.refl _, fun _ h => .inl h, fun _ h => h, fun _ h => .inl h, WStep.drawn_ _ _ _, fun _ _ h => h, hm.still (InjLe.refl _) (owned := fun _ => False) (WStep.drawn_ _ _ _) (fun _ _ h => h), hr _, Grow.refl _⟩

variable {o : Oper} {ax ay az : Arg}
theorem ok_move {x : Operand} (ho : o.op = .move x ∨ o.op = .assign x) (hc : compOp P o = some (.mov ax)) (hv : opVal s m (.mov ax) = some (v, m')) (hs : SRel ι S w s.get a.tmps) (hm : MRel ι S m.heap.get w) : OpOk P ι S w a m o v m' := by
  have hx : compArg x = some ax := by
    rcases ho with ho | ho <;> simpa [compOp, ho] using hc
  simp only [opVal, Option.map_eq_some_iff, Prod.mk.injEq] at hv
  obtain ⟨y, h1, rfl, rfl⟩ := hv
  refine OpOk.value (u := a.eval x) ?_ hm (arg_rep hx hs h1)
  rcases ho with ho | ho <;> simp [execOp, ho]

theorem ok_pick {x y z : Operand} (ho : o.op = .pick x y z) (hx : compArg x = some ax) (hy : compArg y = some ay) (hz : compArg z = some az) (hv : opVal s m (.pick ax ay az) = some (v, m')) (hs : SRel ι S w s.get a.tmps) (hm : MRel ι S m.heap.get w) : OpOk P ι S w a m o v m' := by
  simp only [opVal] at hv
  split at hv
  · rename_i hb
    simp only [Option.map_eq_some_iff, Prod.mk.injEq] at hv
    obtain ⟨y', h1, rfl, rfl⟩ := hv
    have e := rep_bool (arg_rep hx hs hb)
    exact OpOk.value (u := a.eval y) (by simp [execOp, ho, e, asBool]) hm (arg_rep hy hs h1)
  · rename_i hb
    simp only [Option.map_eq_some_iff, Prod.mk.injEq] at hv
    obtain ⟨y', h1, rfl, rfl⟩ := hv
    have e := rep_bool (arg_rep hx hs hb)
    exact OpOk.value (u := a.eval z) (by simp [execOp, ho, e, asBool]) hm (arg_rep hz hs h1)
  · simp at hv


theorem rep_ptr {id off : Nat} {u : Value} (h : Rep ι S w (.ptr id off) u) : ∃ b o, ι id = some (b, o) ∧ u = .pointer (some ⟨b, o + off, none⟩) := by
  cases h with
  | ptr h => exact ⟨_, _, h, rfl⟩
theorem rep_ro {cells : List AVal} {u : Value} (h : Rep ι S w (.ro cells) u) : ∃ (a : Addr) (vs : Nat → Value), u = .pointer (some a) ∧ (0 < cells.length → a.spot = none ∧ S a.block) ∧
    (∀ j, j < cells.length → w.cell? ⟨a.block, a.off + j, none⟩ = some (vs j)) ∧ (∀ (j : Nat) c, cells[j]? = some c → Rep ι S w c (vs j)) ∧ (∀ c ∈ cells, c.one = true) := by
  cases h with
  | ro vs h1 h2 h3 h4 => exact ⟨_, vs, rfl, h1, h2, h3, h4⟩
theorem rep_sl {id off len esz : Nat} {cap : Option Nat} {u : Value} (h : Rep ι S w (.sl id off len esz cap) u) : ∃ b o c a, u = .slice (some a) len c ∧ ι id = some (b, o) ∧ len ≤ c ∧ (∀ k, cap = some k → c = k) ∧
    (c ≠ 0 → a = ⟨b, o + off, none⟩) ∧ (c ≠ 0 ∨ cap = none → ∃ cs el, w.heap[b]? = some (.cells cs el (0, 0)) ∧ o + off + c * esz ≤ cs.size ∧ (cap = none → o + off + c * esz = cs.size)) := by
  cases h with
  | sl h hl hk ha hr => exact ⟨_, _, _, _, rfl, h, hl, hk, ha, hr⟩
theorem rep_rs {cells : List AVal} {len : Nat} {cap : Option Nat} {u : Value} (h : Rep ι S w (.rs cells len cap) u) : ∃ (a : Addr) (c : Nat) (vs : Nat → Value), u = .slice (some a) len c ∧ len ≤ c ∧ (∀ k, cap = some k → c = k) ∧ (0 < cells.length → a.spot = none ∧ S a.block) ∧
    (∀ j, j < cells.length → w.cell? ⟨a.block, a.off + j, none⟩ = some (vs j)) ∧ (∀ (j : Nat) c, cells[j]? = some c → Rep ι S w c (vs j)) ∧ (∀ c ∈ cells, c.one = true) := by
  cases h with
  | rs vs hl hk h1 h2 h3 h4 => exact ⟨_, _, vs, rfl, hl, hk, h1, h2, h3, h4⟩
theorem rep_fn {f : Fn} {x y : List AVal} {u : Value} (h : Rep ι S w (.fn f x y) u) : ∃ vf vc, u = .func f vf vc ∧ RepL ι S w x vf.toList ∧ RepL ι S w y vc.toList := by
  cases h with
  | fn h1 h2 h3 h4 => exact ⟨_, _, rfl, ⟨by simpa using h1, fun j c v hc hv => h3 j c v hc (by simpa using hv)⟩, ⟨by simpa using h2, fun j c v hc hv => h4 j c v hc (by simpa using hv)⟩⟩
theorem rep_agg {cells : List AVal} {u : Value} (h : Rep ι S w (.agg cells) u) : ∃ vs, u = .agg vs ∧ RepL ι S w cells vs.toList := by
  cases h with
  | agg h1 h2 => exact ⟨_, rfl, by simpa using h1, fun j c v hc hv => h2 j c v hc (by simpa using hv)⟩
theorem rep_tup {cells : List AVal} {u : Value} (h : Rep ι S w (.tup cells) u) : ∃ vs, u = .tuple vs ∧ RepL ι S w cells vs.toList := by
  cases h with
  | tup h1 h2 => exact ⟨_, rfl, by simpa using h1, fun j c v hc hv => h2 j c v hc (by simpa using hv)⟩
theorem rep_agg_mk {cells : List AVal} {vs : Array Value} (h : RepL ι S w cells vs.toList) : Rep ι S w (.agg cells) (.agg vs) := .agg (by simpa using h.1) (fun j c v hc hv => h.2 j c v hc (by simpa using hv))

theorem RepL.length {cs : List AVal} {vs : List Value} (h : RepL ι S w cs vs) : cs.length = vs.length := h.1
theorem RepL.take {cs : List AVal} {vs : List Value} (h : RepL ι S w cs vs) (n : Nat) : RepL ι S w (cs.take n) (vs.take n) :=
  ⟨by simp [h.1], fun j c v hc hv => by
    rw [List.getElem?_take] at hc hv
    split at hc <;> simp_all
    exact h.2 j c v hc hv⟩
theorem RepL.drop {cs : List AVal} {vs : List Value} (h : RepL ι S w cs vs) (n : Nat) : RepL ι S w (cs.drop n) (vs.drop n) :=
  ⟨by simp [h.1], fun j c v hc hv => by
    rw [List.getElem?_drop] at hc hv
    exact h.2 _ c v hc hv⟩
theorem RepL.append {cs cs' : List AVal} {vs vs' : List Value} (h : RepL ι S w cs vs) (h' : RepL ι S w cs' vs') : RepL ι S w (cs ++ cs') (vs ++ vs') :=
  ⟨by simp [h.1, h'.1], fun j c v hc hv => by
    rw [List.getElem?_append] at hc hv
    rw [h.1] at hc
    split at hc
    · rename_i hj
      rw [if_pos hj] at hv
      exact h.2 j c v hc hv
    · rename_i hj
      rw [if_neg hj] at hv
      exact h'.2 _ c v hc hv⟩
theorem seg_spec {cs r : List AVal} {off n : Nat} (h : seg cs off n = some r) : off + n ≤ cs.length ∧ r = (cs.drop off).take n := by
  unfold seg at h
  split at h
  · simp at h
    exact ⟨by assumption, h.symm⟩
  · simp at h
theorem RepL.seg {cs r : List AVal} {off n : Nat} {vs : List Value} (h : RepL ι S w cs vs) (hs : seg cs off n = some r) : RepL ι S w r ((vs.drop off).take n) := by
  obtain ⟨_, rfl⟩ := seg_spec hs
  exact (h.drop off).take n
theorem asVar_true {r : List AVal} {x : AVal} (h : asVar true r = some x) : x = .agg r := by simpa [asVar] using h.symm
theorem asVar_false {r : List AVal} {x : AVal} (h : asVar false r = some x) : r = [x] := by
  unfold asVar at h
  split at h <;> simp_all

theorem ok_nilCheck {x : Operand} (ho : o.op = .nilCheck x) (hx : compArg x = some ax) (hv : opVal s m (.nilCheck ax) = some (v, m')) (hs : SRel ι S w s.get a.tmps) (hm : MRel ι S m.heap.get w) : OpOk P ι S w a m o v m' := by
  simp only [opVal] at hv
  split at hv
  · rename_i h1
    simp only [Option.some.injEq, Prod.mk.injEq] at hv
    obtain ⟨rfl, rfl⟩ := hv
    have hr := arg_rep hx hs h1
    obtain ⟨b, o', _, e⟩ := rep_ptr hr
    exact OpOk.value (u := a.eval x) (by simp [execOp, ho, e]) hm hr
  · rename_i h1
    simp only [Option.some.injEq, Prod.mk.injEq] at hv
    obtain ⟨rfl, rfl⟩ := hv
    have hr := arg_rep hx hs h1
    obtain ⟨ad, vs, e, _⟩ := rep_ro hr
    exact OpOk.value (u := a.eval x) (by simp [execOp, ho, e]) hm hr
  · rename_i h1
    simp only [Option.some.injEq, Prod.mk.injEq] at hv
    obtain ⟨rfl, rfl⟩ := hv
    have hr := arg_rep hx hs h1
    obtain ⟨vf, vc, e, _⟩ := rep_fn hr
    exact OpOk.value (u := a.eval x) (by simp [execOp, ho, e]) hm hr
  · simp at hv

theorem pureOf_eq {α : Type} {x : Sem α} {y : α} (h : pureOf x = some y) : x = .pure y := by
  cases x <;> simp [pureOf] at h
  rw [h]

theorem pure_div {op : BinOp} {k : IntKind} {x y : Int} {r : Value} (h : pureOf (Op.intDiv op k x y) = some r) : scal r = some r := by
  unfold Op.intDiv at h
  split at h
  · simp [runtimePanic, program, pureOf, bind, Sem.bind] at h
  · split at h <;> simp [pure, pureOf, stuck] at h
    all_goals (subst h; rfl)
theorem pure_shift {op : BinOp} {k yk : IntKind} {x y : Int} {r : Value} (h : pureOf (Op.shift op k x yk y) = some r) : scal r = some r := by
  unfold Op.shift at h
  split at h
  · simp [runtimePanic, program, pureOf, bind, Sem.bind] at h
  · simp only at h
    split at h <;> simp [pure, pureOf, stuck] at h
    all_goals (subst h; rfl)
theorem bin_int {op : BinOp} {j k : IntKind} {x y : Int} {r : Value} (h : pureOf (binOp op 0 (.int j x) (.int k y)) = some r) (t : TypeId) :
    binOp op t (.int j x) (.int k y) = .pure r ∧ scal r = some r := by
  have e : binOp op t (.int j x) (.int k y) = binOp op 0 (.int j x) (.int k y) := by cases op <;> rfl
  rw [e]
  refine ⟨pureOf_eq h, ?_⟩
  by_cases hk : j = k
  · subst hk
    cases op <;> simp only [binOp, ne_eq, not_true_eq_false, if_false] at h
    case quo => exact pure_div h
    case rem => exact pure_div h
    case shl => exact pure_shift h
    case shr => exact pure_shift h
    all_goals
      simp only [Op.intArith, Op.intBits, Op.intCmp, pure, pureOf, Option.some.injEq] at h
      subst h
      rfl
  · cases op <;> simp only [binOp, ne_eq, hk, not_false_eq_true, if_true] at h
    case shl => exact pure_shift h
    case shr => exact pure_shift h
    all_goals simp [stuck, pureOf] at h
theorem bin_string {op : BinOp} {x y : ByteArray} {r : Value} (h : pureOf (binOp op 0 (.string x) (.string y)) = some r) (t : TypeId) :
    binOp op t (.string x) (.string y) = .pure r ∧ scal r = some r := by
  have e : binOp op t (.string x) (.string y) = binOp op 0 (.string x) (.string y) := by cases op <;> rfl
  rw [e]
  refine ⟨pureOf_eq h, ?_⟩
  cases op <;> simp only [binOp, Op.stringOp] at h
  case add =>
    split at h <;> simp [pure, pureOf, unsupported] at h
    subst h
    rfl
  all_goals
    simp only [pure, pureOf, stuck, Option.some.injEq, reduceCtorEq] at h
  all_goals (subst h; rfl)

theorem rep_float {ι : Inj} {S : Nat → Prop} {w : World} {k : FloatKind} {b : Nat} {u : Value} (h : Rep ι S w (.sc (.float k b)) u) : ∃ b', u = .float k b' ∧ canonBits k b' = b := by
  cases h with
  | sc h =>
    unfold scal at h
    split at h <;> simp only [Option.some.injEq, reduceCtorEq, Value.float.injEq] at h
    obtain ⟨rfl, rfl⟩ := h
    exact ⟨_, rfl, rfl⟩
theorem rep_complex {ι : Inj} {S : Nat → Prop} {w : World} {k : FloatKind} {b c : Nat} {u : Value} (h : Rep ι S w (.sc (.complex k b c)) u) : ∃ b' c', u = .complex k b' c' ∧ canonBits k b' = b ∧ canonBits k c' = c := by
  cases h with
  | sc h =>
    unfold scal at h
    split at h <;> simp only [Option.some.injEq, reduceCtorEq, Value.complex.injEq] at h
    obtain ⟨rfl, rfl, rfl⟩ := h
    exact ⟨_, _, rfl, rfl, rfl⟩
theorem eqGuard_float (op : BinOp) (t : TypeId) (x y : Operand) (j k : FloatKind) (p q : Nat) : eqGuard op t x y (.float j p) (.float k q) = pure () := by
  cases op <;> rfl
theorem eqGuard_complex (op : BinOp) (t : TypeId) (x y : Operand) (j k : FloatKind) (p q r s : Nat) : eqGuard op t x y (.complex j p q) (.complex k r s) = pure () := by
  cases op <;> rfl
theorem bin_float {op : BinOp} {a b : Nat} {v : AVal} (h : binS op (.float .f64 (canonBits .f64 a)) (.float .f64 (canonBits .f64 b)) = some v) (t : TypeId) (P : Program) (w : World) :
    ∃ u n, (binOp op t (.float .f64 a) (.float .f64 b)).run P w = .ok u { w with drawn := n } ∧ ∀ ι S w', Rep ι S w' v u := by
  have ar : ∀ op', isArith op' = true → binOp op' t (.float .f64 a) (.float .f64 b) = Op.floatArith op' .f64 a b → ∃ u n, (binOp op' t (.float .f64 a) (.float .f64 b)).run P w = .ok u { w with drawn := n } ∧ ∀ ι S w', Rep ι S w' (.sc (.float .f64 (fOp op' (canonBits .f64 a) (canonBits .f64 b)))) u := by
    intro op' ho he
    obtain ⟨r, n, h1, h2⟩ := run_arith (P := P) (w := w) ho a b
    refine ⟨.float .f64 r, n, by rw [he]; exact h1, fun ι S w' => .sc ?_⟩
    rw [fOp_canon, ← h2]
    rfl
  have cm : ∀ op', binOp op' t (.float .f64 a) (.float .f64 b) = pure (.bool (fCmp op' a b)) → ∃ u n, (binOp op' t (.float .f64 a) (.float .f64 b)).run P w = .ok u { w with drawn := n } ∧ ∀ ι S w', Rep ι S w' (.sc (.bool (fCmp op' (canonBits .f64 a) (canonBits .f64 b)))) u := by
    intro op' he
    refine ⟨.bool (fCmp op' a b), w.drawn, by rw [he]; rfl, fun ι S w' => ?_⟩
    rw [fCmp_canon]
    exact .sc rfl
  cases op <;> simp only [binS, Option.some.injEq, reduceCtorEq] at h
  all_goals subst h
  · exact ar .add rfl rfl
  · exact ar .sub rfl rfl
  · exact ar .mul rfl rfl
  · exact ar .quo rfl rfl
  · exact cm .eql rfl
  · exact cm .neq rfl
  · exact cm .lss rfl
  · exact cm .leq rfl
  · exact cm .gtr rfl
  · exact cm .geq rfl
theorem bin_complex {op : BinOp} {a b c d : Nat} {v : AVal} (h : binS op (.complex .f64 (canonBits .f64 a) (canonBits .f64 b)) (.complex .f64 (canonBits .f64 c) (canonBits .f64 d)) = some v) (t : TypeId) (P : Program) (w : World) :
    ∃ u n, (binOp op t (.complex .f64 a b) (.complex .f64 c d)).run P w = .ok u { w with drawn := n } ∧ ∀ ι S w', Rep ι S w' v u := by
  have sum : ∀ op', isArith op' = true → (binOp op' t (.complex .f64 a b) (.complex .f64 c d) = (do pure (.complex .f64 (← Op.Complex.arith op' .f64 a c) (← Op.Complex.arith op' .f64 b d)))) →
      ∃ u n, (binOp op' t (.complex .f64 a b) (.complex .f64 c d)).run P w = .ok u { w with drawn := n } ∧ ∀ ι S w', Rep ι S w' (.sc (.complex .f64 (fOp op' (canonBits .f64 a) (canonBits .f64 c)) (fOp op' (canonBits .f64 b) (canonBits .f64 d)))) u := by
    intro op' ho he
    obtain ⟨r1, n1, h1, e1⟩ := run_arithC (P := P) (w := w) ho a c
    obtain ⟨r2, n2, h2, e2⟩ := run_arithC (P := P) (w := { w with drawn := n1 }) ho b d
    refine ⟨.complex .f64 r1 r2, n2, by rw [he]; simp [h1, h2], fun ι S w' => .sc ?_⟩
    rw [fOp_canon, fOp_canon, ← e1, ← e2]
    rfl
  cases op <;> simp only [binS, Option.some.injEq, reduceCtorEq] at h
  all_goals subst h
  · exact sum .add rfl rfl
  · exact sum .sub rfl rfl
  · obtain ⟨ac, n1, h1, e1⟩ := run_arithC (P := P) (w := w) (op := .mul) rfl a c
    obtain ⟨bd, n2, h2, e2⟩ := run_arithC (P := P) (w := { w with drawn := n1 }) (op := .mul) rfl b d
    obtain ⟨re, n3, h3, e3⟩ := run_arithC (P := P) (w := { w with drawn := n2 }) (op := .sub) rfl ac bd
    obtain ⟨ad, n4, h4, e4⟩ := run_arithC (P := P) (w := { w with drawn := n3 }) (op := .mul) rfl a d
    obtain ⟨bc, n5, h5, e5⟩ := run_arithC (P := P) (w := { w with drawn := n4 }) (op := .mul) rfl b c
    obtain ⟨im, n6, h6, e6⟩ := run_arithC (P := P) (w := { w with drawn := n5 }) (op := .add) rfl ad bc
    refine ⟨.complex .f64 re im, n6, ?_, fun ι S w' => .sc ?_⟩
    · simp [binOp, Op.complexOp, Op.Complex.conv, Op.Complex.product, Op.Complex.mul, Op.Complex.sub, Op.Complex.add, h1, h2, h3, h4, h5, h6]
    · rw [fOp_canon, fOp_canon, fOp_canon, fOp_canon, ← e1, ← e2, ← e4, ← e5, fOp_canon, fOp_canon, ← e3, ← e6]
      rfl
  · refine ⟨.bool (fCmp .eql a c && fCmp .eql b d), w.drawn, ?_, fun ι S w' => ?_⟩
    · simp [binOp, Op.complexOp, Op.Complex.cmp, Op.floatCmp, asBool, fCmp, fOrd]
    · rw [fCmp_canon, fCmp_canon]
      exact .sc rfl
  · refine ⟨.bool !(fCmp .eql a c && fCmp .eql b d), w.drawn, ?_, fun ι S w' => ?_⟩
    · simp [binOp, Op.complexOp, Op.Complex.cmp, Op.floatCmp, asBool, fCmp, fOrd]
    · rw [fCmp_canon, fCmp_canon]
      exact .sc rfl
theorem eqGuard_int (op : BinOp) (t : TypeId) (x y : Operand) (j k : IntKind) (p q : Int) : eqGuard op t x y (.int j p) (.int k q) = pure () := by
  cases op <;> rfl
theorem eqGuard_string (op : BinOp) (t : TypeId) (x y : Operand) (p q : ByteArray) : eqGuard op t x y (.string p) (.string q) = pure () := by
  cases op <;> rfl

theorem ok_bin {op : BinOp} {t yt : TypeId} {x y : Operand} (ho : o.op = .binOp op t x y yt) (hx : compArg x = some ax) (hy : compArg y = some ay) (hv : opVal s m (.bin op ax ay) = some (v, m')) (hs : SRel ι S w s.get a.tmps) (hm : MRel ι S m.heap.get w) : OpOk P ι S w a m o v m' := by
  simp only [opVal] at hv
  split at hv
  · rename_i p q h1 h2
    simp only [Option.map_eq_some_iff, Prod.mk.injEq] at hv
    obtain ⟨r, hr, rfl, rfl⟩ := hv
    have r1 := arg_rep hx hs h1
    have r2 := arg_rep hy hs h2
    unfold binS at hr
    split at hr
    · simp only [Option.map_eq_some_iff] at hr
      obtain ⟨z, hz, rfl⟩ := hr
      obtain ⟨e, hsc⟩ := bin_int hz t
      have e1 := rep_int r1
      have e2 := rep_int r2
      exact OpOk.value (u := z) (by simp [execOp, ho, e1, e2, eqGuard_int, e]) hm (.sc hsc)
    · simp only [Option.map_eq_some_iff] at hr
      obtain ⟨z, hz, rfl⟩ := hr
      obtain ⟨e, hsc⟩ := bin_string hz t
      have e1 := rep_string r1
      have e2 := rep_string r2
      exact OpOk.value (u := z) (by simp [execOp, ho, e1, e2, eqGuard_string, e]) hm (.sc hsc)
    · obtain ⟨b1, e1, rfl⟩ := rep_float r1
      obtain ⟨b2, e2, rfl⟩ := rep_float r2
      obtain ⟨u, n, hrun, hrep⟩ := bin_float hr t P w
      exact OpOk.drew (u := u) (n := n) (by simp [execOp, ho, e1, e2, eqGuard_float, hrun]) hm (hrep ι S)
    · obtain ⟨b1, c1, e1, rfl, rfl⟩ := rep_complex r1
      obtain ⟨b2, c2, e2, rfl, rfl⟩ := rep_complex r2
      obtain ⟨u, n, hrun, hrep⟩ := bin_complex hr t P w
      exact OpOk.drew (u := u) (n := n) (by simp [execOp, ho, e1, e2, eqGuard_complex, hrun]) hm (hrep ι S)
    · simp at hr
  · simp at hv


theorem run_eqop {op : BinOp} {neg : Bool} {t : TypeId} {x y : Operand} {u1 u2 : Value} {r : Bool} (hop : op = if neg then .neq else .eql) (hg : ∀ op', eqGuard op' t x y u1 u2 = pure ())
    (h1 : binOp .eql t u1 u2 = (Op.equal t u1 u2 >>= fun b => pure (Value.bool b))) (h2 : binOp .neq t u1 u2 = (Op.equal t u1 u2 >>= fun b => pure (Value.bool (!b))))
    (he : (Op.equal t u1 u2).run P w = .ok r w) : (eqGuard op t x y u1 u2 >>= fun _ => binOp op t u1 u2).run P w = .ok (.bool (if neg then !r else r)) w := by
  rw [hg]
  cases neg <;> simp at hop <;> subst hop
  · rw [h1]; simp [he]
  · rw [h2]; simp [he]
theorem ok_eqop {op : BinOp} {neg : Bool} {t yt : TypeId} {x y : Operand} {r : Bool} (ho : o.op = .binOp op t x y yt) (hop : op = if neg then .neq else .eql) (hg : ∀ op', eqGuard op' t x y (a.eval x) (a.eval y) = pure ())
    (h1 : binOp .eql t (a.eval x) (a.eval y) = (Op.equal t (a.eval x) (a.eval y) >>= fun b => pure (Value.bool b))) (h2 : binOp .neq t (a.eval x) (a.eval y) = (Op.equal t (a.eval x) (a.eval y) >>= fun b => pure (Value.bool (!b))))
    (he : (Op.equal t (a.eval x) (a.eval y)).run P w = .ok r w) (hm : MRel ι S m.heap.get w) : OpOk P ι S w a m o (abool (if neg then !r else r)) m :=
  OpOk.value (u := .bool (if neg then !r else r)) (by
    have := run_eqop (P := P) (w := w) hop hg h1 h2 he
    simp only [execOp, ho]
    rw [Sem.run_bind, this]
    rfl) hm (.sc rfl)


theorem equalIn_bool (d : Nat) {t : TypeId} (ht : P.underlying t = some .bool) (p q : Bool) : (Op.equalIn (d + 1) t (.bool p) (.bool q)).run P w = .ok (p == q) w := by
  rw [Op.equalIn]; simp [run_underlying ht]
theorem equalIn_ptr (d : Nat) {t e : TypeId} (ht : P.underlying t = some (.pointer e)) (p q : Option Addr) (h : p.isNone = true ∨ q.isNone = true) : (Op.equalIn (d + 1) t (.pointer p) (.pointer q)).run P w = .ok (p.isNone && q.isNone) w := by
  rw [Op.equalIn]; cases p <;> cases q <;> simp_all [run_underlying ht]
theorem equalIn_map (d : Nat) {t e f : TypeId} (ht : P.underlying t = some (.map e f)) (p q : Option Nat) (h : p.isNone = true ∨ q.isNone = true) : (Op.equalIn (d + 1) t (.map p) (.map q)).run P w = .ok (p.isNone && q.isNone) w := by
  rw [Op.equalIn]; cases p <;> cases q <;> simp_all [run_underlying ht]
theorem equalIn_slice (d : Nat) {t e : TypeId} (ht : P.underlying t = some (.slice e)) (p q : Option Addr) (i j k l : Nat) (h : p.isNone = true ∨ q.isNone = true) : (Op.equalIn (d + 1) t (.slice p i j) (.slice q k l)).run P w = .ok (p.isNone && q.isNone) w := by
  rw [Op.equalIn]; cases p <;> cases q <;> simp_all [run_underlying ht]
theorem equalIn_nilFunc (d : Nat) {t : TypeId} {e f : Array TypeId} {g : Bool} (ht : P.underlying t = some (.func e f g)) : (Op.equalIn (d + 1) t .nilFunc .nilFunc).run P w = .ok true w := by
  rw [Op.equalIn]; simp [run_underlying ht]
theorem equalIn_func1 (d : Nat) {t : TypeId} {e f : Array TypeId} {g : Bool} (ht : P.underlying t = some (.func e f g)) (fn : Fn) (p q : Array Value) : (Op.equalIn (d + 1) t .nilFunc (.func fn p q)).run P w = .ok false w := by
  rw [Op.equalIn]; simp [run_underlying ht]
theorem equalIn_func2 (d : Nat) {t : TypeId} {e f : Array TypeId} {g : Bool} (ht : P.underlying t = some (.func e f g)) (fn : Fn) (p q : Array Value) : (Op.equalIn (d + 1) t (.func fn p q) .nilFunc).run P w = .ok false w := by
  rw [Op.equalIn]; simp [run_underlying ht]

theorem ok_eqBool {op : BinOp} {neg : Bool} {t yt : TypeId} {x y : Operand} (ho : o.op = .binOp op t x y yt) (hop : op = if neg then .neq else .eql) (ht : P.underlying t = some .bool) (hx : compArg x = some ax) (hy : compArg y = some ay) (hv : opVal s m (.eqBool neg ax ay) = some (v, m')) (hs : SRel ι S w s.get a.tmps) (hm : MRel ι S m.heap.get w) : OpOk P ι S w a m o v m' := by
  simp only [opVal] at hv
  split at hv
  · rename_i p q h1 h2
    simp only [Option.some.injEq, Prod.mk.injEq] at hv
    obtain ⟨rfl, rfl⟩ := hv
    have e1 := rep_bool (arg_rep hx hs h1)
    have e2 := rep_bool (arg_rep hy hs h2)
    have := ok_eqop (P := P) (r := p == q) ho hop (by intro op'; rw [e1, e2]; cases op' <;> rfl) (by rw [e1, e2]; rfl) (by rw [e1, e2]; rfl) (by
      rw [e1, e2]
      exact equalIn_bool 9999 ht p q) hm
    cases neg <;> exact this
  · simp at hv

/-- What '==' of the model's says where one side is nil. -/
theorem nil_some {k : NK} {x : AVal} {b : Bool} {u : Value} (h : Rep ι S w x u) (hn : x.nil? k = some b) :
    match k with
    | .ptr => ∃ p, u = .pointer p ∧ p.isNone = b
    | .slice => (b = true ∧ u = .slice none 0 0) ∨ (b = false ∧ ∃ ad n c, u = .slice (some ad) n c)
    | .map => ∃ p, u = .map p ∧ p.isNone = b
    | .func => (b = true ∧ u = .nilFunc) ∨ (b = false ∧ ∃ f p q, u = .func f p q) := by
  unfold AVal.nil? at hn
  split at hn <;> simp only [Option.some.injEq, reduceCtorEq] at hn <;> subst hn <;> cases h <;> simp_all
  all_goals (rename_i hsc; unfold scal at hsc; split at hsc <;> simp_all)

theorem ok_eqNil {op : BinOp} {k : NK} {neg : Bool} {t yt : TypeId} {x y : Operand} (ho : o.op = .binOp op t x y yt) (hop : op = if neg then .neq else .eql)
    (ht : match k with | .ptr => ∃ e, P.underlying t = some (.pointer e) | .slice => ∃ e, P.underlying t = some (.slice e) | .map => ∃ e f, P.underlying t = some (.map e f) | .func => ∃ e f g, P.underlying t = some (.func e f g))
    (hx : compArg x = some ax) (hy : compArg y = some ay) (hv : opVal s m (.eqNil k neg ax ay) = some (v, m')) (hs : SRel ι S w s.get a.tmps) (hm : MRel ι S m.heap.get w) : OpOk P ι S w a m o v m' := by
  simp only [opVal] at hv
  split at hv
  · rename_i p q h1 h2
    split at hv
    · rename_i b c hb hc
      split at hv
      · rename_i hbc
        simp only [Option.some.injEq, Prod.mk.injEq] at hv
        obtain ⟨rfl, rfl⟩ := hv
        have r1 := nil_some (arg_rep hx hs h1) hb
        have r2 := nil_some (arg_rep hy hs h2) hc
        refine ok_eqop (P := P) (r := b && c) ho hop ?_ ?_ ?_ ?_ hm
        · intro op'
          cases k
          · obtain ⟨p1, e1, _⟩ := r1; obtain ⟨p2, e2, _⟩ := r2; rw [e1, e2]; cases op' <;> rfl
          · rcases r1 with ⟨_, e1⟩ | ⟨_, _, _, _, e1⟩ <;> rcases r2 with ⟨_, e2⟩ | ⟨_, _, _, _, e2⟩ <;> rw [e1, e2] <;> cases op' <;> rfl
          · rcases r1 with ⟨_, e1⟩ | ⟨_, _, _, _, e1⟩ <;> rcases r2 with ⟨_, e2⟩ | ⟨_, _, _, _, e2⟩ <;> rw [e1, e2] <;> cases op' <;> rfl
          · obtain ⟨p1, e1, _⟩ := r1; obtain ⟨p2, e2, _⟩ := r2; rw [e1, e2]; cases op' <;> rfl
        · cases k
          · obtain ⟨p1, e1, _⟩ := r1; obtain ⟨p2, e2, _⟩ := r2; rw [e1, e2]; rfl
          · rcases r1 with ⟨_, e1⟩ | ⟨_, _, _, _, e1⟩ <;> rcases r2 with ⟨_, e2⟩ | ⟨_, _, _, _, e2⟩ <;> rw [e1, e2] <;> rfl
          · rcases r1 with ⟨_, e1⟩ | ⟨_, _, _, _, e1⟩ <;> rcases r2 with ⟨_, e2⟩ | ⟨_, _, _, _, e2⟩ <;> rw [e1, e2] <;> rfl
          · obtain ⟨p1, e1, _⟩ := r1; obtain ⟨p2, e2, _⟩ := r2; rw [e1, e2]; rfl
        · cases k
          · obtain ⟨p1, e1, _⟩ := r1; obtain ⟨p2, e2, _⟩ := r2; rw [e1, e2]; rfl
          · rcases r1 with ⟨_, e1⟩ | ⟨_, _, _, _, e1⟩ <;> rcases r2 with ⟨_, e2⟩ | ⟨_, _, _, _, e2⟩ <;> rw [e1, e2] <;> rfl
          · rcases r1 with ⟨_, e1⟩ | ⟨_, _, _, _, e1⟩ <;> rcases r2 with ⟨_, e2⟩ | ⟨_, _, _, _, e2⟩ <;> rw [e1, e2] <;> rfl
          · obtain ⟨p1, e1, _⟩ := r1; obtain ⟨p2, e2, _⟩ := r2; rw [e1, e2]; rfl
        · cases k
          · obtain ⟨p1, e1, f1⟩ := r1
            obtain ⟨p2, e2, f2⟩ := r2
            obtain ⟨e, ht⟩ := ht
            rw [e1, e2, ← f1, ← f2]
            exact equalIn_ptr 9999 ht p1 p2 (by simpa [f1, f2] using hbc)
          · obtain ⟨e, ht⟩ := ht
            rcases r1 with ⟨f1, e1⟩ | ⟨f1, _, _, _, e1⟩ <;> rcases r2 with ⟨f2, e2⟩ | ⟨f2, _, _, _, e2⟩ <;> rw [e1, e2, f1, f2] <;> rw [f1, f2] at hbc
            · exact equalIn_slice 9999 ht none none 0 0 0 0 (.inl rfl)
            · exact equalIn_slice 9999 ht none (some _) 0 0 _ _ (.inl rfl)
            · exact equalIn_slice 9999 ht (some _) none _ _ 0 0 (.inr rfl)
            · simp at hbc
          · obtain ⟨e, f, g, ht⟩ := ht
            rcases r1 with ⟨f1, e1⟩ | ⟨f1, _, _, _, e1⟩ <;> rcases r2 with ⟨f2, e2⟩ | ⟨f2, _, _, _, e2⟩ <;> rw [e1, e2, f1, f2] <;> rw [f1, f2] at hbc
            · exact equalIn_nilFunc 9999 ht
            · exact equalIn_func1 9999 ht _ _ _
            · exact equalIn_func2 9999 ht _ _ _
            · simp at hbc
          · obtain ⟨p1, e1, f1⟩ := r1
            obtain ⟨p2, e2, f2⟩ := r2
            obtain ⟨e, f, ht⟩ := ht
            rw [e1, e2, ← f1, ← f2]
            exact equalIn_map 9999 ht p1 p2 (by simpa [f1, f2] using hbc)
      · simp at hv
    · simp at hv
  · simp at hv

theorem ok_makeFunc {f : Fn} {p q : Array Operand} {ap aq : List Arg} (ho : o.op = .makeFunc f p q) (hx : compArgs p.toList = some ap) (hy : compArgs q.toList = some aq) (hv : opVal s m (.makeFunc f ap aq) = some (v, m')) (hs : SRel ι S w s.get a.tmps) (hm : MRel ι S m.heap.get w) : OpOk P ι S w a m o v m' := by
  simp only [opVal] at hv
  split at hv
  · rename_i x y h1 h2
    simp only [Option.some.injEq, Prod.mk.injEq] at hv
    obtain ⟨rfl, rfl⟩ := hv
    obtain ⟨l1, r1⟩ := args_rep hx hs h1
    obtain ⟨l2, r2⟩ := args_rep hy hs h2
    refine OpOk.value (u := .func f (p.map a.eval) (q.map a.eval)) (by simp [execOp, ho, Instr.makeFunc]) hm (.fn (by simpa using l1) (by simpa using l2) (fun j c v hc hv => r1 j c v hc ?_) (fun j c v hc hv => r2 j c v hc ?_))
    · rw [← Array.toList_map]; simpa using hv
    · rw [← Array.toList_map]; simpa using hv
  · simp at hv

theorem ok_conv_int {sd dd : TypeId} {k k0 : IntKind} {x : Operand} (ho : o.op = .convert sd dd x) (h0 : P.underlying sd = some (.int k0)) (h1 : P.underlying dd = some (.int k)) (hx : compArg x = some ax) (hv : opVal s m (.conv (.int k) ax) = some (v, m')) (hs : SRel ι S w s.get a.tmps) (hm : MRel ι S m.heap.get w) : OpOk P ι S w a m o v m' := by
  simp only [opVal] at hv
  split at hv
  · rename_i p h2
    simp only [Option.map_eq_some_iff, Prod.mk.injEq] at hv
    obtain ⟨r, hr, rfl, rfl⟩ := hv
    cases p <;> simp only [convS, Option.some.injEq, reduceCtorEq] at hr
    subst hr
    rename_i j n
    have e := rep_int (arg_rep hx hs h2)
    exact OpOk.value (u := .int k (k.wrap n)) (by simp [execOp, ho, e, convert, underlying, h0, h1, Conv.intToInt]) hm (.sc rfl)
  · simp at hv
theorem ok_conv_string {sd dd : TypeId} {x : Operand} (ho : o.op = .convert sd dd x) (h0 : P.underlying sd = some .string) (h1 : P.underlying dd = some .string) (hx : compArg x = some ax) (hv : opVal s m (.conv .same ax) = some (v, m')) (hs : SRel ι S w s.get a.tmps) (hm : MRel ι S m.heap.get w) : OpOk P ι S w a m o v m' := by
  simp only [opVal] at hv
  split at hv
  · rename_i p h2
    simp only [Option.map_eq_some_iff, Prod.mk.injEq] at hv
    obtain ⟨r, hr, rfl, rfl⟩ := hv
    cases p <;> simp only [convS, Option.some.injEq, reduceCtorEq] at hr
    subst hr
    rename_i b
    have e := rep_string (arg_rep hx hs h2)
    exact OpOk.value (u := .string b) (by simp [execOp, ho, e, convert, underlying, h0, h1]) hm (.sc rfl)
  · simp at hv

theorem ok_conv_float {sd dd : TypeId} {k : FloatKind} {x : Operand} (ho : o.op = .convert sd dd x) (h0 : (∃ k0, P.underlying sd = some (.int k0)) ∨ ∃ k0, P.underlying sd = some (.float k0)) (h1 : P.underlying dd = some (.float k)) (hx : compArg x = some ax) (hv : opVal s m (.conv (.float k) ax) = some (v, m')) (hs : SRel ι S w s.get a.tmps) (hm : MRel ι S m.heap.get w) : OpOk P ι S w a m o v m' := by
  simp only [opVal] at hv
  split at hv
  · rename_i p h2
    simp only [Option.map_eq_some_iff, Prod.mk.injEq] at hv
    obtain ⟨r, hr, rfl, rfl⟩ := hv
    unfold convS at hr
    split at hr <;> simp only [Option.some.injEq, reduceCtorEq] at hr
    · rename_i heq
      cases heq
    · rename_i heq
      cases heq
    · rename_i j n heq
      cases heq
      subst hr
      have e := rep_int (arg_rep hx hs h2)
      have hq : scal (.float .f64 (FloatKind.f64.nearest n)) = some (.float .f64 (FloatKind.f64.nearest n)) := by
        simp only [scal, Option.some.injEq, Value.float.injEq, true_and]
        exact canon_nearest n
      refine OpOk.value (u := .float .f64 (FloatKind.f64.nearest n)) ?_ hm (.sc hq)
      rcases h0 with ⟨k0, h0⟩ | ⟨k0, h0⟩ <;> simp [execOp, ho, e, convert, underlying, h0, h1, Conv.intToFloat]
    · rename_i b heq
      cases heq
      subst hr
      obtain ⟨b', e, rfl⟩ := rep_float (arg_rep hx hs h2)
      refine OpOk.value (u := .float .f64 b') ?_ hm (.sc rfl)
      rcases h0 with ⟨k0, h0⟩ | ⟨k0, h0⟩ <;> simp [execOp, ho, e, convert, underlying, h0, h1, Conv.floatToFloat]
  · simp at hv
theorem ok_un {op : UnOp} {t : TypeId} {x : Operand} (ho : o.op = .unOp op t x) (hx : compArg x = some ax) (hv : opVal s m (.un op ax) = some (v, m')) (hs : SRel ι S w s.get a.tmps) (hm : MRel ι S m.heap.get w) : OpOk P ι S w a m o v m' := by
  simp only [opVal] at hv
  split at hv
  · rename_i p h2
    simp only [Option.map_eq_some_iff, Prod.mk.injEq] at hv
    obtain ⟨r, hr, rfl, rfl⟩ := hv
    unfold unS at hr
    split at hr
    · have e := rep_int (arg_rep hx hs h2)
      have e2 := pureOf_eq hr
      refine OpOk.value (u := r) (by simp [execOp, ho, e, e2]) hm (.sc ?_)
      cases op <;> simp [Op.unary, Op.intArith, Op.intBits, pure, pureOf, stuck] at hr <;> (try subst hr) <;> (try rfl)
    · have e := rep_bool (arg_rep hx hs h2)
      have e2 := pureOf_eq hr
      refine OpOk.value (u := r) (by simp [execOp, ho, e, e2]) hm (.sc ?_)
      cases op <;> simp [Op.unary, pure, pureOf, stuck] at hr
      subst hr
      rfl
    · obtain ⟨b', e, rfl⟩ := rep_float (arg_rep hx hs h2)
      cases op <;> simp only [Option.some.injEq, reduceCtorEq] at hr
      subst hr
      refine OpOk.value (u := .float .f64 (Op.negFloat .f64 b')) (by simp [execOp, ho, e, Op.unary]) hm (.sc ?_)
      simp only [scal, Option.some.injEq, Value.float.injEq, true_and]
      exact (neg_canon b').symm
    · obtain ⟨b', c', e, rfl, rfl⟩ := rep_complex (arg_rep hx hs h2)
      cases op <;> simp only [Option.some.injEq, reduceCtorEq] at hr
      subst hr
      refine OpOk.value (u := .complex .f64 (Op.negFloat .f64 b') (Op.negFloat .f64 c')) (by simp [execOp, ho, e, Op.unary]) hm (.sc ?_)
      simp only [scal, Option.some.injEq, Value.complex.injEq, true_and]
      exact ⟨(neg_canon b').symm, (neg_canon c').symm⟩
    · simp at hr
  · simp at hv
theorem one_arg {c : Call} {x : Operand} (hargs : c.args.toList = [x]) : c.args = #[x] := by rw [← Array.toArray_toList (xs := c.args), hargs]
theorem ok_real {c : Call} {im : Bool} {x : Operand} (ho : o.op = .call c) (hc : c.callee = .builtin (if im then .imag else .real)) (hargs : c.args.toList = [x])
    (hx : compArg x = some ax) (hv : opVal s m (.real im ax) = some (v, m')) (hs : SRel ι S w s.get a.tmps) (hm : MRel ι S m.heap.get w) : OpOk P ι S w a m o v m' := by
  have ea := one_arg hargs
  simp only [opVal] at hv
  split at hv
  · rename_i p h2
    simp only [Option.map_eq_some_iff, Prod.mk.injEq] at hv
    obtain ⟨r, hr, rfl, rfl⟩ := hv
    unfold realS at hr
    split at hr <;> simp only [Option.some.injEq, reduceCtorEq] at hr
    subst hr
    obtain ⟨b', c', e, rfl, rfl⟩ := rep_complex (arg_rep hx hs h2)
    have hb1 : ∀ l y, Builtin.imag_ l y #[.complex .f64 b' c'] = pure (.float .f64 c') := fun _ _ => rfl
    have hb2 : ∀ l y, Builtin.real_ l y #[.complex .f64 b' c'] = pure (.float .f64 b') := fun _ _ => rfl
    cases im with
    | true => exact OpOk.value (u := .float .f64 c') (by simp [execOp, ho, resolve, hc, ea, invoke, builtin, hb1, e]) hm (.sc rfl)
    | false => exact OpOk.value (u := .float .f64 b') (by simp [execOp, ho, resolve, hc, ea, invoke, builtin, hb2, e]) hm (.sc rfl)
  · simp at hv
theorem ok_cplx {c : Call} {x y : Operand} (ho : o.op = .call c) (hc : c.callee = .builtin .complex) (hargs : c.args.toList = [x, y])
    (hx : compArg x = some ax) (hy : compArg y = some ay) (hv : opVal s m (.cplx ax ay) = some (v, m')) (hs : SRel ι S w s.get a.tmps) (hm : MRel ι S m.heap.get w) : OpOk P ι S w a m o v m' := by
  have ea : c.args = #[x, y] := by rw [← Array.toArray_toList (xs := c.args), hargs]
  simp only [opVal] at hv
  split at hv
  · rename_i p q h2 h3
    simp only [Option.map_eq_some_iff, Prod.mk.injEq] at hv
    obtain ⟨r, hr, rfl, rfl⟩ := hv
    unfold cplxS at hr
    split at hr <;> simp only [Option.some.injEq, reduceCtorEq] at hr
    subst hr
    obtain ⟨b', e, rfl⟩ := rep_float (arg_rep hx hs h2)
    obtain ⟨c', e', rfl⟩ := rep_float (arg_rep hy hs h3)
    have hb : ∀ l y, Builtin.complex_ l y #[.float .f64 b', .float .f64 c'] = pure (.complex .f64 b' c') := fun _ _ => rfl
    exact OpOk.value (u := .complex .f64 b' c') (by simp [execOp, ho, resolve, hc, ea, invoke, builtin, hb, e, e']) hm (.sc rfl)
  · simp at hv
end
end Go.Am
