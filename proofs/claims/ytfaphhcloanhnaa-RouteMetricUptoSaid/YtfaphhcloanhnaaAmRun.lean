/- The abstract machine, part 17: what the evaluator answers, the model does. -/
import Derived.Test.YtfaphhcloanhnaaAmView
set_option linter.unusedSimpArgs false
set_option linter.unusedVariables false
namespace Go.Am

structure EnvOk (P : Program) (E : Env) : Prop where
  orders : P.follows .mixedOrders = true
  fns : ∀ f fn', E.fns f = some fn' → ∃ fn, P.funcs[f]? = some fn ∧ (fn.name == "runtime.NumGoroutine") = false ∧ compFn P fn = some fn'
  grow : ∀ f args m v m', E.known f args m = some (v, m') → Grow m m'
  known : ∀ f args m v m', E.known f args m = some (v, m') → ∃ fn, P.funcs[f]? = some fn ∧ (fn.name == "runtime.NumGoroutine") = false ∧ fn.body.isSome = true ∧ Sim P f args m v m'

def exOf : Ex → Exit
  | .normal => .normal
  | .exit id => .exit id
  | .ret => .ret

section
variable {P : Program} {E : Env} {ι ι1 : Inj} {S S1 : Nat → Prop} {w w1 : World} {m m1 m2 : Mem}

theorem fresh_fst (hf : ∀ id, m.next ≤ id → id < m2.next → ι id = none) (h : Grow m1 m2) : ∀ id, m.next ≤ id → id < m1.next → ι id = none :=
  fun id h1 h2 => hf id h1 (Nat.lt_of_lt_of_le h2 h.next)
theorem fresh_snd (hf : ∀ id, m.next ≤ id → id < m2.next → ι id = none) (h : Sp ι S m w m1 ι1 S1 w1) : ∀ id, m1.next ≤ id → id < m2.next → ι1 id = none := by
  intro id h1 h2
  apply Classical.byContradiction
  intro hne
  rcases h.news id hne with e | e
  · exact e (hf id (Nat.le_trans h.grow.next h1) h2)
  · omega

theorem compFn_spec {fn : Func} {afn : AFn} (h : compFn P fn = some afn) : ∃ c, fn.body = some c ∧ comp P fn.ntmps c = some afn.code ∧ compRes P fn.results.toList = some afn.results ∧ afn.ntmps = fn.ntmps := by
  unfold compFn at h
  split at h
  · simp at h
  · rename_i c hc
    split at h
    · rename_i ac ar h1 h2
      simp only [Option.some.injEq] at h
      subst h
      exact ⟨c, hc, h1, h2, rfl⟩
    · simp at h

theorem argSlots_get : ∀ (l : List AVal) (i : Nat) (t : Tr AVal) (j : Nat), (argSlots l i t).get j = if i ≤ j ∧ j < i + l.length then l[j - i]? else t.get j
  | [], i, t, j => by simp [argSlots]; intros; omega
  | v :: r, i, t, j => by
    rw [argSlots, argSlots_get r (i + 1) _ j, Tr.get_set]
    by_cases h1 : i + 1 ≤ j ∧ j < i + 1 + r.length
    · rw [if_pos h1, if_pos ⟨by omega, by simp; omega⟩]
      have : j - i = (j - (i + 1)) + 1 := by omega
      rw [this, List.getElem?_cons_succ]
    · rw [if_neg h1]
      by_cases h2 : j = i
      · subst h2
        simp
      · rw [if_neg h2, if_neg (by simp; omega)]

/-- What an answer of the evaluator's says of code. -/
def CodeOk (P : Program) (c : Code) (nt : Nat) (s : St) (ex : Ex) (s' : St) : Prop :=
  Grow s.mem s'.mem ∧ ∀ (ι : Inj) (S : Nat → Prop) (w : World) (a : Act) (Q : Exit → Act → World → Prop), StRel ι S w s a nt → (∀ id, s.mem.next ≤ id → id < s'.mem.next → ι id = none) →
    (∀ a' w' ι' S', Sp ι S s.mem w s'.mem ι' S' w' → StRel ι' S' w' s' a' nt → Q (exOf ex) a' w') → c.wp P Q a w
def LoopOk (P : Program) (c : Code) (nt n : Nat) (s : St) (ex : Ex) (s' : St) : Prop :=
  Grow s.mem s'.mem ∧ ∀ (ι : Inj) (S : Nat → Prop) (w : World) (a : Act) (Q : Exit → Act → World → Prop), StRel ι S w s a nt → (∀ id, s.mem.next ≤ id → id < s'.mem.next → ι id = none) →
    (∀ a' w' ι' S', Sp ι S s.mem w s'.mem ι' S' w' → StRel ι' S' w' s' a' nt → Q (exOf ex) a' w') → Code.rounds P c Q n a w
def BodyOk (P : Program) (fn : Func) (args : List AVal) (m : Mem) (v : AVal) (m' : Mem) : Prop :=
  Grow m m' ∧ ∀ (f : FuncId) (ι : Inj) (S : Nat → Prop) (w : World) (vargs : List Value), P.funcs[f]? = some fn → RepL ι S w args vargs → MRel ι S m.heap.get w → (∀ id, m.next ≤ id → id < m'.next → ι id = none) →
    Calls P f vargs.toArray w fun e w' => ∃ u ι' S', e = .returned u ∧ Post ι S m w v m' u ι' S' w'

structure Claim (P : Program) (E : Env) (n : Nat) : Prop where
  code : ∀ (c : Code) ac nt s ex s', comp P nt c = some ac → run E n ac s = some (ex, s') → CodeOk P c nt s ex s'
  loop : ∀ (c : Code) ac nt s ex s', comp P nt c = some ac → run E n (.loop ac) s = some (ex, s') → LoopOk P c nt n s ex s'
  call : CfOk P (callF E n)
  body : ∀ fn afn args m v m', compFn P fn = some afn → body E n afn args m = some (v, m') → BodyOk P fn args m v m'

theorem claim_loop {n : Nat} (ih : Claim P E n) {c : Code} {ac : AC} {nt : Nat} {s : St} {ex : Ex} {s' : St} (hc : comp P nt c = some ac) (h : run E (n + 1) (.loop ac) s = some (ex, s')) : LoopOk P c nt (n + 1) s ex s' := by
  simp only [run] at h
  split at h
  · rename_i s1 h1
    obtain ⟨g1, k1⟩ := ih.code c ac nt s _ _ hc h1
    obtain ⟨g2, k2⟩ := ih.loop c ac nt s1 ex s' hc h
    refine ⟨g1.trans g2, fun ι S w a Q hr hf K => ?_⟩
    rw [rounds_succ]
    exact k1 ι S w a _ hr (fresh_fst hf g2) fun a' w' ι' S' hsp hst => k2 ι' S' w' a' Q hst (fresh_snd hf hsp) fun a'' w'' ι'' S'' hsp' hst' => K a'' w'' ι'' S'' (hsp.trans hsp') hst'
  · rename_i r hne
    obtain ⟨g1, k1⟩ := ih.code c ac nt s _ _ hc h
    refine ⟨g1, fun ι S w a Q hr hf K => ?_⟩
    rw [rounds_succ]
    refine k1 ι S w a _ hr hf fun a' w' ι' S' hsp hst => ?_
    have := K a' w' ι' S' hsp hst
    cases ex with
    | normal => exact absurd h (hne s')
    | exit id => exact this
    | ret => exact this

theorem claim_code {n : Nat} (ih : Claim P E n) (hP : P.follows .mixedOrders = true) {c : Code} {ac : AC} {nt : Nat} {s : St} {ex : Ex} {s' : St} (hc : comp P nt c = some ac) (h : run E (n + 1) ac s = some (ex, s')) : CodeOk P c nt s ex s' := by
  cases c <;> simp only [comp, reduceCtorEq] at hc
  case skip =>
    simp only [Option.some.injEq] at hc
    subst hc
    simp only [run, Option.some.injEq, Prod.mk.injEq] at h
    obtain ⟨rfl, rfl⟩ := h
    exact ⟨Grow.refl _, fun ι S w a Q hr hf K => wp_skip (K a w ι S (Sp.refl _ _ _ _) hr)⟩
  case label l =>
    simp only [Option.some.injEq] at hc
    subst hc
    simp only [run, Option.some.injEq, Prod.mk.injEq] at h
    obtain ⟨rfl, rfl⟩ := h
    exact ⟨Grow.refl _, fun ι S w a Q hr hf K => wp_label (K a w ι S (Sp.refl _ _ _ _) hr)⟩
  case ret =>
    simp only [Option.some.injEq] at hc
    subst hc
    simp only [run, Option.some.injEq, Prod.mk.injEq] at h
    obtain ⟨rfl, rfl⟩ := h
    exact ⟨Grow.refl _, fun ι S w a Q hr hf K => wp_ret (K a w ι S (Sp.refl _ _ _ _) hr)⟩
  case exit id =>
    simp only [Option.some.injEq] at hc
    subst hc
    simp only [run, Option.some.injEq, Prod.mk.injEq] at h
    obtain ⟨rfl, rfl⟩ := h
    exact ⟨Grow.refl _, fun ι S w a Q hr hf K => wp_exit (K a w ι S (Sp.refl _ _ _ _) hr)⟩
  case region id ops d =>
    cases d with
    | true =>
      simp only at hc
      split at hc
      · rename_i hok
        simp only [Option.map_eq_some_iff] at hc
        obtain ⟨l, hl, rfl⟩ := hc
        simp only [run] at h
        split at h
        · rename_i s1 h1
          simp only [Option.some.injEq, Prod.mk.injEq] at h
          obtain ⟨rfl, rfl⟩ := h
          obtain ⟨es, hL⟩ : ∃ es, Laid (callF E n) l s s1 es := by
            cases hst : still E l with
            | true =>
              rw [hst] at h1
              exact still_laid ih.call hst h1
            | false =>
              rw [hst] at h1
              exact laid_of ih.call h1
          exact ⟨hL.grow, fun ι S w a Q hr hf K => laid_wp ih.call hP hl hok.1 hok.2 hL hr hf K⟩
        · simp at h
      · simp at hc
    | false =>
      simp only [Option.map_eq_some_iff] at hc
      obtain ⟨l, hl, rfl⟩ := hc
      simp only [run, Bool.false_and, Bool.false_eq_true, if_false] at h
      split at h
      · rename_i s1 h1
        simp only [Option.some.injEq, Prod.mk.injEq] at h
        obtain ⟨rfl, rfl⟩ := h
        refine ⟨stepOs_grow ih.call h1, fun ι S w a Q hr hf K => wp_region ?_⟩
        rw [List.range_eq_range', show ops.size = ops.toList.length by simp]
        exact stepOs_wp ih.call (ops := ops) ops.toList 0 l s s1 ι S w a rfl hl h1 hr hf K
      · simp at h
  case seq x y =>
    split at hc
    · rename_i ax ay hx hy
      simp only [Option.some.injEq] at hc
      subst hc
      simp only [run] at h
      split at h
      · rename_i s1 h1
        obtain ⟨g1, k1⟩ := ih.code x ax nt s _ _ hx h1
        obtain ⟨g2, k2⟩ := ih.code y ay nt s1 ex s' hy h
        exact ⟨g1.trans g2, fun ι S w a Q hr hf K => wp_seq (k1 ι S w a _ hr (fresh_fst hf g2) fun a' w' ι' S' hsp hst => k2 ι' S' w' a' Q hst (fresh_snd hf hsp) fun a'' w'' ι'' S'' hsp' hst' => K a'' w'' ι'' S'' (hsp.trans hsp') hst')⟩
      · rename_i r hne
        obtain ⟨g1, k1⟩ := ih.code x ax nt s _ _ hx h
        refine ⟨g1, fun ι S w a Q hr hf K => wp_seq (k1 ι S w a _ hr hf fun a' w' ι' S' hsp hst => ?_)⟩
        have := K a' w' ι' S' hsp hst
        cases ex with
        | normal => exact absurd h (hne s')
        | exit id => exact this
        | ret => exact this
    · simp at hc
  case cond cc x y =>
    split at hc
    · rename_i acc ax ay hcc hx hy
      simp only [Option.some.injEq] at hc
      subst hc
      simp only [run] at h
      split at h
      · rename_i hb
        obtain ⟨g1, k1⟩ := ih.code x ax nt s _ _ hx h
        exact ⟨g1, fun ι S w a Q hr hf K => wp_cond_true (rep_bool (arg_rep hcc hr.slots hb)) (k1 ι S w a Q hr hf K)⟩
      · rename_i hb
        obtain ⟨g1, k1⟩ := ih.code y ay nt s _ _ hy h
        exact ⟨g1, fun ι S w a Q hr hf K => wp_cond_false (rep_bool (arg_rep hcc hr.slots hb)) (k1 ι S w a Q hr hf K)⟩
      · simp at h
    · simp at hc
  case block id x =>
    simp only [Option.map_eq_some_iff] at hc
    obtain ⟨ax, hx, rfl⟩ := hc
    simp only [run] at h
    split at h
    · rename_i j s1 h1
      obtain ⟨g1, k1⟩ := ih.code x ax nt s _ _ hx h1
      split at h
      · rename_i hj
        subst hj
        simp only [Option.some.injEq, Prod.mk.injEq] at h
        obtain ⟨rfl, rfl⟩ := h
        refine ⟨g1, fun ι S w a Q hr hf K => wp_block (k1 ι S w a _ hr hf fun a' w' ι' S' hsp hst => ?_)⟩
        simp only [exOf, Exit.inBlock, if_true]
        exact K a' w' ι' S' hsp hst
      · rename_i hj
        simp only [Option.some.injEq, Prod.mk.injEq] at h
        obtain ⟨rfl, rfl⟩ := h
        refine ⟨g1, fun ι S w a Q hr hf K => wp_block (k1 ι S w a _ hr hf fun a' w' ι' S' hsp hst => ?_)⟩
        simp only [exOf, Exit.inBlock, if_neg hj]
        exact K a' w' ι' S' hsp hst
    · rename_i r hne
      obtain ⟨g1, k1⟩ := ih.code x ax nt s _ _ hx h
      refine ⟨g1, fun ι S w a Q hr hf K => wp_block (k1 ι S w a _ hr hf fun a' w' ι' S' hsp hst => ?_)⟩
      have := K a' w' ι' S' hsp hst
      cases ex with
      | normal => exact this
      | exit id => exact absurd h (hne id s')
      | ret => exact this
  case loop x =>
    simp only [Option.map_eq_some_iff] at hc
    obtain ⟨ax, hx, rfl⟩ := hc
    obtain ⟨g1, k1⟩ := claim_loop ih hx h
    exact ⟨g1, fun ι S w a Q hr hf K => wp_loop_rounds (n + 1) (k1 ι S w a Q hr hf K)⟩
  case scope x =>
    simp only [Option.map_eq_some_iff] at hc
    obtain ⟨ax, hx, rfl⟩ := hc
    simp only [run] at h
    obtain ⟨g1, k1⟩ := ih.code x ax nt s _ _ hx h
    refine ⟨g1, fun ι S w a Q hr hf K => wp_scope_straight (k1 ι S w a _ hr hf fun a' w' ι' S' hsp hst => ?_)⟩
    have := K a' w' ι' S' hsp hst
    cases ex <;> exact this

theorem claim_body {n : Nat} (ih : Claim P E n) {fn : Func} {afn : AFn} {args : List AVal} {m m' : Mem} {v : AVal} (hc : compFn P fn = some afn) (h : body E (n + 1) afn args m = some (v, m')) : BodyOk P fn args m v m' := by
  obtain ⟨c, hb, hcode, hres, hnt⟩ := compFn_spec hc
  simp only [body] at h
  split at h
  · rename_i hlen
    have main : ∀ {ex : Ex} {s : St}, (ex = .normal ∨ ex = .ret) → run E n afn.code ⟨argSlots args 0 .nil, m⟩ = some (ex, s) → (results1 s afn.results).map (fun vs => (resultV vs, s.mem)) = some (v, m') → BodyOk P fn args m v m' := by
      intro ex s hex hrun hres'
      simp only [Option.map_eq_some_iff, Prod.mk.injEq] at hres'
      obtain ⟨vs, hvs, rfl, rfl⟩ := hres'
      obtain ⟨g1, k1⟩ := ih.code c _ _ _ _ _ hcode hrun
      refine ⟨g1, fun f ι S w vargs hf hr hm hfr => calls_of_wp hf hb ?_⟩
      have hl := hr.1
      refine k1 ι S w _ _ ⟨fun j x hj => ?_, hm, by simp; omega, rfl⟩ hfr fun a' w' ι' S' hsp hst => ?_
      · rw [argSlots_get] at hj
        split at hj
        · rename_i hjl
          simp only [Nat.sub_zero] at hj
          have hlt : j < vargs.length := by omega
          refine ⟨vargs[j], ?_, hr.2 j x _ hj (by simp [hlt])⟩
          rw [Array.getElem?_append_left (by simpa using hlt)]
          simp [hlt]
        · rw [Tr.get_nil] at hj
          simp at hj
      · obtain ⟨u, hu, hru⟩ := results_ok (fn := fn) hst.slots hst.mem hres hvs
        have : bodyPost P fn (fun e w' => ∃ u ι' S', e = .returned u ∧ Post ι S m w (resultV vs) s.mem u ι' S' w') .normal a' w' :=
          ⟨hst.defers, u, hu, u, ι', S', rfl, ⟨hsp.inj, hsp.news, hsp.prot, hsp.fresh, hsp.step, hsp.own, hst.mem, hru, hsp.grow⟩⟩
        rcases hex with rfl | rfl
        · exact this
        · exact this
    split at h
    · rename_i s hrun
      exact main (.inl rfl) hrun h
    · rename_i s hrun
      exact main (.inr rfl) hrun h
    · simp at h
  · simp at h
end
end Go.Am
