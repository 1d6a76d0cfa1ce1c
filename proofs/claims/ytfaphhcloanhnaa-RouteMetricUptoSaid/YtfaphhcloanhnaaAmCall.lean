/- The abstract machine, part 18: calls; the whole: an answer of the evaluator's is one of the model's. -/
import Derived.Test.YtfaphhcloanhnaaAmRun
set_option linter.unusedSimpArgs false
set_option linter.unusedVariables false
namespace Go.Am

section
variable {P : Program} {E : Env} {ι ι1 : Inj} {S S1 : Nat → Prop} {w w1 : World} {m m1 m2 : Mem}

theorem mrel_none (hS : ∀ b, S b → b < w.heap.size) : MRel (fun _ => none) S (Tr.nil : Tr Box).get w :=
  ⟨fun id bx h => by simp [Tr.get_nil] at h, fun i j bi bj b o b' o' h => by simp [Tr.get_nil] at h, hS⟩

theorem own_none {b : Nat} : ¬ Own (fun _ => none) (Tr.nil : Tr Box).get b := by
  rintro ⟨id, bx, o, h, _⟩
  simp [Tr.get_nil] at h

theorem claim_call {n : Nat} (hE : EnvOk P E) (ih : Claim P E n) : CfOk P (callF E (n + 1)) := by
  have key : ∀ g args m v m', callF E (n + 1) g args m = some (v, m') → Grow m m' ∧ ∃ f fn, g = .func f ∧ P.funcs[f]? = some fn ∧ (fn.name == "runtime.NumGoroutine") = false ∧ fn.body.isSome = true ∧ Sim P f args m v m' := by
    intro g args m v m' h
    cases g with
    | func f =>
      simp only [callF] at h
      have hfns : ∀ afn, E.fns f = some afn → ∃ fn, P.funcs[f]? = some fn ∧ (fn.name == "runtime.NumGoroutine") = false ∧ compFn P fn = some afn ∧ fn.body.isSome = true := by
        intro afn hfn
        obtain ⟨fn, h1, h2, h3⟩ := hE.fns f afn hfn
        obtain ⟨c, hb, _⟩ := compFn_spec h3
        exact ⟨fn, h1, h2, h3, by simp [hb]⟩
      split at h
      · obtain ⟨fn, h1, h2, h3, h4⟩ := hE.known f args m v m' h
        exact ⟨hE.grow f args m v m' h, f, fn, rfl, h1, h2, h3, h4⟩
      · -- open
        split at h
        · simp at h
        · rename_i afn hfn
          obtain ⟨fn, h1, h2, h3, hbody⟩ := hfns afn hfn
          split at h
          · rename_i v1 m1 hb
            simp only [Option.some.injEq, Prod.mk.injEq] at h
            obtain ⟨rfl, rfl⟩ := h
            obtain ⟨g1, k1⟩ := ih.body fn afn args _ _ _ h3 hb
            have hg : Grow m ⟨m1.heap, m1.next, min m.low m1.low⟩ := by
              refine ⟨g1.next, by simp only; omega, fun id hid => ?_⟩
              rcases g1.same id hid with e | e
              · left; simp only; omega
              · exact .inr e
            refine ⟨hg, f, fn, rfl, h1, h2, hbody, fun ι S w vargs hr hm hf => (k1 f ι S w vargs h1 hr hm hf).mono fun e w' ⟨u, ι', S', he, hp⟩ => ⟨u, ι', S', he, ?_⟩⟩
            exact ⟨hp.inj, hp.news, hp.prot, hp.fresh, hp.step, hp.own, hp.mem, hp.rep, hg⟩
          · simp at h
      · -- by itself
        rename_i frz _
        split at h
        · simp at h
        · rename_i afn hfn
          obtain ⟨fn, h1, h2, h3, hbody⟩ := hfns afn hfn
          · split at h
            · simp at h
            · rename_i vs hvs
              split at h
              · rename_i v1 m1 hb
                obtain ⟨g1, k1⟩ := ih.body fn afn vs _ _ _ h3 hb
                -- the call, what it was handed protected
                have hcall : ∀ (ι : Inj) (S S1 : Nat → Prop) (w : World) (vargs : List Value), RepL ι S w args vargs → MRel ι S m.heap.get w → RepL (fun _ => none) S1 w vs vargs → (∀ b, S1 b → b < w.heap.size) →
                    Calls P f vargs.toArray w fun e w' => ∃ u ι' S', e = .returned u ∧ Post (fun _ => none) S1 ⟨.nil, 0, 0⟩ w v1 m1 u ι' S' w' := by
                  intro ι S S1 w vargs hr hm hv hS1
                  exact k1 f _ S1 w vargs h1 hv (mrel_none hS1) (fun _ _ _ => rfl)
                have hstill : ∀ {w w' : World} {S1 S' : Nat → Prop} {u : Value} {ι' : Inj}, Post (fun _ => none) S1 ⟨.nil, 0, 0⟩ w v1 m1 u ι' S' w' → WStep (fun _ => False) w w' := fun hp => hp.step.mono fun b _ h => own_none h
                split at h
                · -- its answer frozen
                  rename_i hfrz
                  split at h
                  · rename_i hbare
                    split at h
                    · rename_i v2 hv2
                      simp only [Option.some.injEq, Prod.mk.injEq] at h
                      obtain ⟨rfl, rfl⟩ := h
                      refine ⟨Grow.refl _, f, fn, rfl, h1, h2, hbody, fun ι S w vargs hr hm hf => ?_⟩
                      have hve := viewAll_bare hvs hbare
                      refine (hcall ι S S w vargs hr hm ?_ hm.prot).mono fun e w' ⟨u, ι', S', he, hp⟩ => ?_
                      · rw [hve]
                        exact ⟨hr.1, fun j c x hc hx => bare_rep (hr.2 j c x hc hx) (fun _ h => h) (List.all_eq_true.1 hbare c (List.mem_of_getElem? hc))⟩
                      · have hs := hstill hp
                        have hnew : ∀ b, b < w.heap.size → Own ι' m1.heap.get b → False := fun b hb ho => own_none (hp.own b hb ho)
                        have hm' : MRel ι S m.heap.get w' := hm.still (InjLe.refl _) hs (fun _ _ h => h)
                        refine ⟨u, ι, fun b => S' b ∨ Own ι' m1.heap.get b, he, ⟨InjLe.refl _, fun id h => .inl h, fun b hb => .inl (hp.prot b hb), fun b hb => ?_, hs.mono (fun _ _ h => h.elim), fun b _ h => h, ⟨fun id bx hx => ?_, hm'.apart, fun b hb => ?_⟩, view_rep hp.mem (fun _ h => .inl h) (fun _ h => .inr h) hv2 hp.rep, Grow.refl _⟩⟩
                        · rcases hb with hb | hb
                          · exact hp.fresh b hb
                          · exact .inr (Nat.le_of_not_lt fun hlt => hnew b hlt hb)
                        · obtain ⟨b, o, q1, q2, q3⟩ := hm.box id bx hx
                          obtain ⟨b', o', r1, r2, r3⟩ := hm'.box id bx hx
                          rw [q1] at r1
                          cases r1
                          refine ⟨b, o, q1, fun hb => ?_, r3.mono (InjLe.refl _) (fun b hb => .inl (hp.prot b hb)) (fun _ _ => rfl) (fun _ cs _ _ h => ⟨cs, h, rfl⟩) rfl⟩
                          rcases hb with hb | hb
                          · rcases hp.fresh b hb with e | e
                            · exact q2 e
                            · exact absurd q3.lt (by omega)
                          · exact hnew b q3.lt hb
                        · rcases hb with hb | hb
                          · exact hp.mem.prot b hb
                          · obtain ⟨id, bx, o, k1, k2⟩ := hb
                            obtain ⟨b', o', r1, r2, r3⟩ := hp.mem.box id bx k1
                            rw [k2] at r1
                            cases r1
                            exact r3.lt
                    · simp at h
                  · simp at h
                · split at h
                  · rename_i hor
                    simp only [Option.some.injEq, Prod.mk.injEq] at h
                    obtain ⟨rfl, rfl⟩ := h
                    refine ⟨Grow.refl _, f, fn, rfl, h1, h2, hbody, fun ι S w vargs hr hm hf => ?_⟩
                    by_cases hflat : v1.flat = true
                    · refine (hcall ι S (fun b => S b ∨ Own ι m.heap.get b) w vargs hr hm (viewAll_rep hm (fun _ h => .inl h) (fun _ h => .inr h) hvs hr) (fun b hb => ?_)).mono fun e w' ⟨u, ι', S', he, hp⟩ => ?_
                      · rcases hb with hb | hb
                        · exact hm.prot b hb
                        · obtain ⟨id, bx, o, k1, k2⟩ := hb
                          obtain ⟨b', o', r1, r2, r3⟩ := hm.box id bx k1
                          rw [k2] at r1
                          cases r1
                          exact r3.lt
                      · have hs := hstill hp
                        exact ⟨u, ι, S, he, ⟨InjLe.refl _, fun id h => .inl h, fun b hb => hb, fun b hb => .inl hb, hs.mono (fun _ _ h => h.elim), fun b _ h => h, hm.still (InjLe.refl _) hs (fun _ _ h => h), flat_rep hp.rep hflat, Grow.refl _⟩⟩
                    · have hor' : v1.bare = true ∧ args.all AVal.bare = true := by
                        simpa [hflat] using hor
                      have hve := viewAll_bare hvs hor'.2
                      refine (hcall ι S S w vargs hr hm ?_ hm.prot).mono fun e w' ⟨u, ι', S', he, hp⟩ => ?_
                      · rw [hve]
                        exact ⟨hr.1, fun j c x hc hx => bare_rep (hr.2 j c x hc hx) (fun _ h => h) (List.all_eq_true.1 hor'.2 c (List.mem_of_getElem? hc))⟩
                      · have hs := hstill hp
                        have hm' : MRel ι S m.heap.get w' := hm.still (InjLe.refl _) hs (fun _ _ h => h)
                        refine ⟨u, ι, S', he, ⟨InjLe.refl _, fun id h => .inl h, hp.prot, hp.fresh, hs.mono (fun _ _ h => h.elim), fun b _ h => h, ⟨fun id bx hx => ?_, hm'.apart, hp.mem.prot⟩, bare_rep hp.rep (fun _ h => h) hor'.1, Grow.refl _⟩⟩
                        obtain ⟨b, o, q1, q2, q3⟩ := hm.box id bx hx
                        obtain ⟨b', o', r1, r2, r3⟩ := hm'.box id bx hx
                        rw [q1] at r1
                        cases r1
                        refine ⟨b, o, q1, fun hb => ?_, r3.mono (InjLe.refl _) hp.prot (fun _ _ => rfl) (fun _ cs _ _ h => ⟨cs, h, rfl⟩) rfl⟩
                        rcases hp.fresh b hb with e | e
                        · exact q2 e
                        · exact absurd q3.lt (by omega)
                  · simp at h
              · simp at h
    | _ => simp [callF] at h
  exact ⟨fun g args m v m' h => (key g args m v m' h).1, fun g args m v m' h => (key g args m v m' h).2⟩

theorem claim (hE : EnvOk P E) : ∀ n, Claim P E n
  | 0 => ⟨fun c ac nt s ex s' hc h => by simp [run] at h, fun c ac nt s ex s' hc h => by simp [run] at h, ⟨fun g args m v m' h => by simp [callF] at h, fun g args m v m' h => by simp [callF] at h⟩, fun fn afn args m v m' hc h => by simp [body] at h⟩
  | n + 1 =>
    have ih := claim hE n
    ⟨fun c ac nt s ex s' hc h => claim_code ih hE.orders hc h, fun c ac nt s ex s' hc h => claim_loop ih hc h, claim_call hE ih, fun fn afn args m v m' hc h => claim_body ih hc h⟩

/-- What the evaluator answers, the model does. -/
theorem sim_of (hE : EnvOk P E) {n : Nat} {f : FuncId} {args : List AVal} {m m' : Mem} {v : AVal} (h : callF E n (.func f) args m = some (v, m')) : Sim P f args m v m' := by
  obtain ⟨f', fn, he, h1, h2, h3, h4⟩ := (claim hE n).call.sim _ _ _ _ _ h
  cases he
  exact h4
end
end Go.Am
