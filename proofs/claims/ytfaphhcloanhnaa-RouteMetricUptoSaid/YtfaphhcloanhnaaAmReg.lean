/- The abstract machine, part 12: rows of operations, in the text's order. -/
import Derived.Test.YtfaphhcloanhnaaAmOps8
import Derived.Orders
import Derived.LoopN
import Derived.Scope
set_option linter.unusedSimpArgs false
set_option linter.unusedVariables false
namespace Go.Am

/-! ### What the evaluator alone keeps -/
theorem grow_new (m : Mem) (b : Box) : Grow m (m.new b) := ⟨by simp [Mem.new], by simp [Mem.new], fun id h => .inr (by simp only [Mem.new, Tr.get_set]; rw [if_neg (by omega)])⟩
theorem grow_put (m : Mem) (id : Nat) (b : Option Box) : Grow m (m.put id b) := ⟨by simp [Mem.put], by simp [Mem.put]; omega, fun i h => by
  simp only [Mem.put, Tr.get_set]
  by_cases e : i = id
  · left; omega
  · right; rw [if_neg e]⟩

theorem opVal_grow {s : Tr AVal} {m m' : Mem} {v : AVal} {o : AOp} (h : opVal s m o = some (v, m')) : Grow m m' := by
  cases o <;> simp only [opVal] at h
  all_goals (repeat' (split at h))
  all_goals (try (simp only [reduceCtorEq] at h; done))
  all_goals (try simp only [Option.map_eq_some_iff, Option.some.injEq, Prod.mk.injEq] at h)
  all_goals first
    | (obtain ⟨_, _, _, rfl⟩ := h; exact Grow.refl _)
    | (obtain ⟨_, rfl⟩ := h; exact Grow.refl _)
    | (obtain ⟨_, rfl⟩ := h; exact grow_new _ _)
    | (obtain ⟨_, rfl⟩ := h; exact grow_put _ _ _)
    | (obtain ⟨_, rfl⟩ := h; exact (grow_put _ _ _).trans (grow_new _ _))

/-- What a call must come to, in the model. -/
def Sim (P : Program) (f : FuncId) (args : List AVal) (m : Mem) (v : AVal) (m' : Mem) : Prop :=
  ∀ (ι : Inj) (S : Nat → Prop) (w : World) (vargs : List Value), RepL ι S w args vargs → MRel ι S m.heap.get w → (∀ id, m.next ≤ id → id < m'.next → ι id = none) →
    Calls P f vargs.toArray w fun e w' => ∃ u ι' S', e = .returned u ∧ Post ι S m w v m' u ι' S' w'

structure CfOk (P : Program) (cf : CallF) : Prop where
  grow : ∀ g args m v m', cf g args m = some (v, m') → Grow m m'
  sim : ∀ g args m v m', cf g args m = some (v, m') → ∃ f fn, g = .func f ∧ P.funcs[f]? = some fn ∧ (fn.name == "runtime.NumGoroutine") = false ∧ fn.body.isSome = true ∧ Sim P f args m v m'

section
variable {P : Program} {cf : CallF} {ι : Inj} {S : Nat → Prop} {w : World} {s : Tr AVal} {a : Act} {m m' : Mem} {v : AVal} {o : Oper}

theorem argAll_length : ∀ {as : List Arg} {vs : List AVal}, argAll s as = some vs → True := fun _ => trivial

theorem stepVal_grow (hcf : CfOk P cf) {op : AOp} (h : stepVal cf s m op = some (v, m')) : Grow m m' := by
  unfold stepVal at h
  split at h
  · split at h
    · exact hcf.grow _ _ _ _ _ h
    · simp at h
  · exact opVal_grow h

/-- An operation, a call among them. -/
theorem step_wp (hcf : CfOk P cf) {aop : AOp} (hc : compOp P o = some aop) (hv : stepVal cf s m aop = some (v, m')) (hs : SRel ι S w s.get a.tmps) (hm : MRel ι S m.heap.get w) (hf : ∀ id, m.next ≤ id → id < m'.next → ι id = none)
    {next : Act → World → Prop} {Q : Exit → Act → World → Prop} (K : ∀ u w' ι' S', Post ι S m w v m' u ι' S' w' → next (a.put o.dst u) w') : o.wp P a w next Q := by
  unfold stepVal at hv
  split at hv
  · rename_i f args
    split at hv
    · rename_i g first cap vs hfv hvs
      obtain ⟨fid, fn, rfl, hfn, hname, hbody, hsim⟩ := hcf.sim _ _ _ _ _ hv
      -- the operation is a call of a value
      unfold compOp at hc
      split at hc
      all_goals (try (simp only [Option.map_eq_some_iff, reduceCtorEq, and_false, exists_false] at hc; done))
      all_goals (try ((repeat' (split at hc)) <;> (try simp only [Option.map_eq_some_iff, Option.some.injEq, reduceCtorEq, and_false, exists_false] at hc) <;> done))
      rename_i c ho
      split at hc
      · rename_i fo hcal
        split at hc
        · rename_i af as hf1 has1
          simp only [Option.some.injEq, AOp.call.injEq] at hc
          obtain ⟨rfl, rfl⟩ := hc
          obtain ⟨vf, vc, e1, r1, r2⟩ := rep_fn (arg_rep hf1 hs hfv)
          have r3 := args_rep has1 hs hvs
          have hb : fn.body.isNone = false := by cases hq : fn.body <;> simp_all
          have hrun : (execOp a.eval o).run P w = .ok (.enter fid (vf ++ c.args.map a.eval ++ vc)) w := by
            simp only [execOp, ho, resolve, hcal, e1, Deferred.ofValue, invoke, callFunc, Sem.run_bind, Sem.run_pure, Result.andThen_ok, run_program, hfn, hname, hb, Bool.false_eq_true, if_false]
          unfold Oper.wp
          rw [hrun]
          show Calls P fid _ w _
          have hR : RepL ι S w (first ++ vs ++ cap) (vf.toList ++ c.args.toList.map a.eval ++ vc.toList) := (r1.append r3).append r2
          have := hsim ι S w _ hR hm hf
          have ea : (vf.toList ++ c.args.toList.map a.eval ++ vc.toList).toArray = vf ++ c.args.map a.eval ++ vc := by
            apply Array.ext'
            simp
          rw [ea] at this
          refine this.mono fun e w' ⟨u, ι', S', he, hp⟩ => ?_
          subst he
          exact K u w' ι' S' hp
        · simp at hc
      · simp at hc
      · exfalso
        (repeat' (split at hc)) <;> simp at hc
    · simp at hv
  · obtain ⟨nx, u, w', ι', S', h1, h2, h3⟩ := op_ok aop hc hv hs hm hf
    unfold Oper.wp
    rw [h1]
    rcases h2 with rfl | ⟨rfl, rfl⟩
    · exact K u w' ι' S' h3
    · exact K undef w' ι' S' h3

/-! ### Steps one behind the other -/
structure Sp (ι : Inj) (S : Nat → Prop) (m : Mem) (w : World) (m' : Mem) (ι' : Inj) (S' : Nat → Prop) (w' : World) : Prop where
  inj : InjLe ι ι'
  news : ∀ id, ι' id ≠ none → ι id ≠ none ∨ (m.next ≤ id ∧ id < m'.next)
  prot : ∀ b, S b → S' b
  fresh : ∀ b, S' b → S b ∨ w.heap.size ≤ b
  step : WStep (Own ι m.heap.get) w w'
  own : ∀ b, b < w.heap.size → Own ι' m'.heap.get b → Own ι m.heap.get b
  grow : Grow m m'

theorem Post.sp {u : Value} {ι' : Inj} {S' : Nat → Prop} {w' : World} (h : Post ι S m w v m' u ι' S' w') : Sp ι S m w m' ι' S' w' := ⟨h.inj, h.news, h.prot, h.fresh, h.step, h.own, h.grow⟩
theorem Sp.refl (ι : Inj) (S : Nat → Prop) (m : Mem) (w : World) : Sp ι S m w m ι S w := ⟨InjLe.refl _, fun _ h => .inl h, fun _ h => h, fun _ h => .inl h, WStep.refl _ _, fun _ _ h => h, Grow.refl _⟩
theorem Sp.drawn_ (ι : Inj) (S : Nat → Prop) (m : Mem) (w : World) (n : Nat) : Sp ι S m w m ι S { w with drawn := n } := ⟨InjLe.refl _, fun _ h => .inl h, fun _ h => h, fun _ h => .inl h, WStep.drawn_ _ _ _, fun _ _ h => h, Grow.refl _⟩
theorem Sp.trans {ι1 ι2 : Inj} {S1 S2 : Nat → Prop} {m1 m2 : Mem} {w1 w2 : World} (h : Sp ι S m w m1 ι1 S1 w1) (k : Sp ι1 S1 m1 w1 m2 ι2 S2 w2) : Sp ι S m w m2 ι2 S2 w2 where
  inj := h.inj.trans k.inj
  news := fun id hid => by
    rcases k.news id hid with e | e
    · rcases h.news id e with e' | e'
      · exact .inl e'
      · exact .inr ⟨e'.1, Nat.lt_of_lt_of_le e'.2 k.grow.next⟩
    · exact .inr ⟨Nat.le_trans h.grow.next e.1, e.2⟩
  prot := fun b hb => k.prot b (h.prot b hb)
  fresh := fun b hb => by
    rcases k.fresh b hb with e | e
    · exact h.fresh b e
    · exact .inr (Nat.le_trans h.step.size e)
  step := (h.step.trans k.step).mono fun b hb e => by
    rcases e with e | e
    · exact e
    · exact h.own b hb e.1
  own := fun b hb e => h.own b hb (k.own b (Nat.lt_of_lt_of_le hb h.step.size) e)
  grow := h.grow.trans k.grow

/-- What stood for a value ahead of a step does so behind it. -/
theorem Sp.rep {ι' : Inj} {S' : Nat → Prop} {w' : World} {x : AVal} {u : Value} (h : Sp ι S m w m' ι' S' w') (hm : MRel ι S m.heap.get w) (hr : Rep ι S w x u) : Rep ι' S' w' x u :=
  hr.up hm h.inj h.prot h.step (fun b hb => hm.notS hb)
theorem Sp.srel {ι' : Inj} {S' : Nat → Prop} {w' : World} {f : Nat → Option AVal} {t : Array Value} (h : Sp ι S m w m' ι' S' w') (hm : MRel ι S m.heap.get w) (hr : SRel ι S w f t) : SRel ι' S' w' f t :=
  fun i x hi => by
    obtain ⟨u, h1, h2⟩ := hr i x hi
    exact ⟨u, h1, h.rep hm h2⟩
theorem srel_put {ι' : Inj} {S' : Nat → Prop} {w' : World} {d : Option Tmp} {u : Value} (hs : SRel ι' S' w' s.get a.tmps) (hr : Rep ι' S' w' v u) (hd : ∀ k, d = some k → k < a.tmps.size) : SRel ι' S' w' (setDst s d v).get (a.put d u).tmps := by
  intro i x hi
  cases d with
  | none => exact hs i x hi
  | some k =>
    simp only [setDst, Tr.get_set] at hi
    simp only [Act.put]
    split at hi
    · rename_i e
      simp at hi
      subst hi e
      exact ⟨u, by simp [hd _ rfl], hr⟩
    · rename_i e
      obtain ⟨u', h1, h2⟩ := hs i x hi
      refine ⟨u', ?_, h2⟩
      rw [Array.getElem?_setIfInBounds_ne (fun h => e h.symm)]
      exact h1

theorem wanted_ok {ops : Array Oper} {g : Option (Nat × Bool)} {b : Bool} (hs : SRel ι S w s.get a.tmps) (hg : o.guard = g) (h : wantedA s (g.map fun g => ((ops[g.1]?).bind (·.dst), g.2)) = some b) : Region.wanted o (yielded ops a.tmps) = b := by
  unfold Region.wanted
  rw [hg]
  cases g with
  | none => simp [wantedA] at h; simp [h]
  | some p =>
    obtain ⟨j, want⟩ := p
    simp only [Option.map_some] at h
    simp only [yielded]
    cases hd : (ops[j]?).bind (·.dst) with
    | none =>
      rw [hd] at h
      simp [wantedA] at h
      simp [← h]
    | some d =>
      rw [hd] at h
      simp only [wantedA] at h
      split at h
      · rename_i q hq
        simp at h
        obtain ⟨u, h1, h2⟩ := hs d _ hq
        have e := rep_bool h2
        subst e
        simp [h1, ← h]
      · rename_i hq
        simp at h
        obtain ⟨u, h1, h2⟩ := hs d _ hq
        obtain ⟨vs, rfl, _⟩ := rep_tup h2
        simp [h1, ← h]
      · simp at h

theorem compAO_spec {nt : Nat} {ops : Array Oper} {bf : Array Nat} {i : Nat} {ao : AO} (h : compAO P nt ops bf i o = some ao) :
    compOp P o = some ao.op ∧ ao.dst = o.dst ∧ (∀ d, o.dst = some d → d < nt) ∧ ao.guard = o.guard.map (fun g => ((ops[g.1]?).bind (·.dst), g.2)) ∧ ao.after = bf.getD i 0 := by
  unfold compAO at h
  split at h
  · simp at h
  · rename_i op hop
    split at h
    · rename_i hd
      simp only [Option.some.injEq] at h
      subst h
      refine ⟨hop, rfl, fun d e => ?_, rfl, rfl⟩
      rw [e] at hd
      simpa [dstOk] using hd
    · simp at h

theorem put_size (a : Act) (d : Option Tmp) (u : Value) : (a.put d u).tmps.size = a.tmps.size := by cases d <;> simp [Act.put]
theorem put_defers (a : Act) (d : Option Tmp) (u : Value) : (a.put d u).defers = a.defers := by cases d <;> rfl

theorem stepO_grow (hcf : CfOk P cf) {ao : AO} {s s' : St} (h : stepO cf ao s = some s') : Grow s.mem s'.mem := by
  unfold stepO at h
  split at h
  · split at h
    · rename_i v m hv
      simp at h
      subst h
      exact stepVal_grow hcf hv
    · simp at h
  · simp at h
    subst h
    exact Grow.refl _
  · simp at h
theorem stepOs_grow (hcf : CfOk P cf) : ∀ {l : List AO} {s s' : St}, stepOs cf l s = some s' → Grow s.mem s'.mem
  | [], s, s', h => by
    simp [stepOs] at h
    subst h
    exact Grow.refl _
  | o :: l, s, s', h => by
    unfold stepOs at h
    split at h
    · rename_i s1 h1
      exact (stepO_grow hcf h1).trans (stepOs_grow hcf h)
    · simp at h

structure StRel (ι : Inj) (S : Nat → Prop) (w : World) (s : St) (a : Act) (nt : Nat) : Prop where
  slots : SRel ι S w s.slots.get a.tmps
  mem : MRel ι S s.mem.heap.get w
  size : nt ≤ a.tmps.size
  defers : a.defers = []

theorem stepOs_wp (hcf : CfOk P cf) {nt : Nat} {ops : Array Oper} {bf : Array Nat} {Q : Exit → Act → World → Prop} : ∀ (rest : List Oper) (i : Nat) (l : List AO) (s s' : St) (ι : Inj) (S : Nat → Prop) (w : World) (a : Act),
    ops.toList.drop i = rest → compOs P nt ops bf i rest = some l → stepOs cf l s = some s' → StRel ι S w s a nt → (∀ id, s.mem.next ≤ id → id < s'.mem.next → ι id = none) →
    (∀ a' w' ι' S', Sp ι S s.mem w s'.mem ι' S' w' → StRel ι' S' w' s' a' nt → Q .normal a' w') → wpOps P ops Q (List.range' i rest.length) a w
  | [], i, l, s, s', ι, S, w, a, hd, hc, hv, hr, hf, K => by
    simp [compOs] at hc
    subst hc
    simp [stepOs] at hv
    subst hv
    exact K a w ι S (Sp.refl _ _ _ _) hr
  | o :: rest, i, l, s, s', ι, S, w, a, hd, hc, hv, hr, hf, K => by
    unfold compOs at hc
    split at hc
    · rename_i ao l' h1 h2
      simp only [Option.some.injEq] at hc
      subst hc
      obtain ⟨c1, c2, c3, c4, _⟩ := compAO_spec h1
      have hget : ops[i]? = some o := by
        have := congrArg (fun l => l[0]?) hd
        simpa using this
      have hdrop : ops.toList.drop (i + 1) = rest := by
        have := congrArg (fun l => l.drop 1) hd
        simpa [List.drop_drop] using this
      unfold stepOs at hv
      split at hv
      · rename_i s1 hs1
        have hg2 := stepOs_grow hcf hv
        rw [List.length_cons, List.range'_succ]
        simp only [wpOps, hget]
        unfold stepO at hs1
        split at hs1
        · rename_i hw
          split at hs1
          · rename_i v m1 hv1
            simp only [Option.some.injEq] at hs1
            subst hs1
            have hg1 := stepVal_grow hcf hv1
            rw [wanted_ok (ops := ops) hr.slots rfl (c4 ▸ hw)]
            simp only [if_true]
            left
            refine step_wp hcf c1 hv1 hr.slots hr.mem (fun id g1 g2 => hf id g1 (Nat.lt_of_lt_of_le g2 hg2.next)) fun u w1 ι1 S1 hp => ?_
            refine stepOs_wp hcf rest (i + 1) l' _ s' ι1 S1 w1 _ hdrop h2 hv ⟨?_, hp.mem, by rw [put_size]; exact hr.size, by rw [put_defers]; exact hr.defers⟩ (fun id g1 g2 => ?_) fun a' w' ι' S' hsp hst => K a' w' ι' S' (hp.sp.trans hsp) hst
            · rw [c2]
              exact srel_put (hp.sp.srel hr.mem hr.slots) hp.rep (fun k e => Nat.lt_of_lt_of_le (c3 k e) hr.size)
            · simp only at g1
              apply Classical.byContradiction
              intro hne
              rcases hp.news id hne with e | e
              · exact e (hf id (Nat.le_trans hg1.next g1) g2)
              · omega
          · simp at hs1
        · rename_i hw
          simp only [Option.some.injEq] at hs1
          subst hs1
          rw [wanted_ok (ops := ops) hr.slots rfl (c4 ▸ hw)]
          simp only [Bool.false_eq_true, if_false]
          refine stepOs_wp hcf rest (i + 1) l' _ s' ι S w _ hdrop h2 hv ⟨?_, hr.mem, by rw [put_size]; exact hr.size, by rw [put_defers]; exact hr.defers⟩ hf K
          rw [c2]
          exact srel_put hr.slots (.tup rfl (fun j c v hc => by simp at hc)) (fun k e => Nat.lt_of_lt_of_le (c3 k e) hr.size)
        · simp at hs1
      · simp at hv
    · simp at hc
end
end Go.Am
