/- Parts of the proof, joined by program: AmCall, AmDrc, AmTac2. -/
import Derived.Test.YtfaphhcloanhnaaPa21
import Derived.Test.YtfaphhcloanhnaaPa26
import Derived.Test.YtfaphhcloanhnaaPa8
import Derived.Test.YtfaphhcloanhnaaPa20
set_option linter.unusedSimpArgs false
set_option linter.unusedVariables false
namespace Go.Am

section
variable {P : Program} {E : Env} {ι ι1 : Inj} {S S1 : Nat → Prop} {w w1 : World} {m m1 m2 : Mem}

theorem mrel_none (hS : ∀ b, S b → b < w.heap.size) : MRel (fun _ => none) S (Tr.nil : Tr Box).get w :=
  ⟨fun id bx h => by simp [Tr.get_nil] at h, fun i j bi bj b o b' o' h => by simp [Tr.get_nil] at h, hS⟩

theorem own_none {b : Nat} : ¬ Own (fun _ => none) (Tr.nil : Tr Box).get b := by
  rintro ⟨id, bx, o, h, _⟩
  simp [Tr.get_nil] at h

theorem claim_call {n : Nat} (hE : EnvOk P E) (ih : Claim P E n) : CfOk P (callF E (n + 1)) := by
  have key : ∀ g args m v m', callF E (n + 1) g args m = some (v, m') → Grow m m' ∧ ∃ f fn, g = .func f ∧ P.funcs[f]? = some fn ∧ (fn.name == "runtime.NumGoroutine") = false ∧ fn.body.isSome = true ∧ Sim P f args m v m' := by
    intro g args m v m' h
    cases g with
    | func f =>
      simp only [callF] at h
      have hfns : ∀ afn, E.fns f = some afn → ∃ fn, P.funcs[f]? = some fn ∧ (fn.name == "runtime.NumGoroutine") = false ∧ compFn P fn = some afn ∧ fn.body.isSome = true := by
        intro afn hfn
        obtain ⟨fn, h1, h2, h3⟩ := hE.fns f afn hfn
        obtain ⟨c, hb, _⟩ := compFn_spec h3
        exact ⟨fn, h1, h2, h3, by simp [hb]⟩
      split at h
      · obtain ⟨fn, h1, h2, h3, h4⟩ := hE.known f args m v m' h
        exact ⟨hE.grow f args m v m' h, f, fn, rfl, h1, h2, h3, h4⟩
      · -- open
        split at h
        · simp at h
        · rename_i afn hfn
          obtain ⟨fn, h1, h2, h3, hbody⟩ := hfns afn hfn
          split at h
          · rename_i v1 m1 hb
            simp only [Option.some.injEq, Prod.mk.injEq] at h
            obtain ⟨rfl, rfl⟩ := h
            obtain ⟨g1, k1⟩ := ih.body fn afn args _ _ _ h3 hb
            have hg : Grow m ⟨m1.heap, m1.next, min m.low m1.low⟩ := by
              refine ⟨g1.next, by simp only; omega, fun id hid => ?_⟩
              rcases g1.same id hid with e | e
              · left; simp only; omega
              · exact .inr e
            refine ⟨hg, f, fn, rfl, h1, h2, hbody, fun ι S w vargs hr hm hf => (k1 f ι S w vargs h1 hr hm hf).mono fun e w' ⟨u, ι', S', he, hp⟩ => ⟨u, ι', S', he, ?_⟩⟩
            exact ⟨hp.inj, hp.news, hp.prot, hp.fresh, hp.step, hp.own, hp.mem, hp.rep, hg⟩
          · simp at h
      · -- by itself
        rename_i frz _
        split at h
        · simp at h
        · rename_i afn hfn
          obtain ⟨fn, h1, h2, h3, hbody⟩ := hfns afn hfn
          · split at h
            · simp at h
            · rename_i vs hvs
              split at h
              · rename_i v1 m1 hb
                obtain ⟨g1, k1⟩ := ih.body fn afn vs _ _ _ h3 hb
                -- the call, what it was handed protected
                have hcall : ∀ (ι : Inj) (S S1 : Nat → Prop) (w : World) (vargs : List Value), RepL ι S w args vargs → MRel ι S m.heap.get w → RepL (fun _ => none) S1 w vs vargs → (∀ b, S1 b → b < w.heap.size) →
                    Calls P f vargs.toArray w fun e w' => ∃ u ι' S', e = .returned u ∧ Post (fun _ => none) S1 ⟨.nil, 0, 0⟩ w v1 m1 u ι' S' w' := by
                  intro ι S S1 w vargs hr hm hv hS1
                  exact k1 f _ S1 w vargs h1 hv (mrel_none hS1) (fun _ _ _ => rfl)
                have hstill : ∀ {w w' : World} {S1 S' : Nat → Prop} {u : Value} {ι' : Inj}, Post (fun _ => none) S1 ⟨.nil, 0, 0⟩ w v1 m1 u ι' S' w' → WStep (fun _ => False) w w' := fun hp => hp.step.mono fun b _ h => own_none h
                split at h
                · -- its answer frozen
                  rename_i hfrz
                  split at h
                  · rename_i hbare
                    split at h
                    · rename_i v2 hv2
                      simp only [Option.some.injEq, Prod.mk.injEq] at h
                      obtain ⟨rfl, rfl⟩ := h
                      refine ⟨Grow.refl _, f, fn, rfl, h1, h2, hbody, fun ι S w vargs hr hm hf => ?_⟩
                      have hve := viewAll_bare hvs hbare
                      refine (hcall ι S S w vargs hr hm ?_ hm.prot).mono fun e w' ⟨u, ι', S', he, hp⟩ => ?_
                      · rw [hve]
                        exact ⟨hr.1, fun j c x hc hx => bare_rep (hr.2 j c x hc hx) (fun _ h => h) (List.all_eq_true.1 hbare c (List.mem_of_getElem? hc))⟩
                      · have hs := hstill hp
                        have hnew : ∀ b, b < w.heap.size → Own ι' m1.heap.get b → False := fun b hb ho => own_none (hp.own b hb ho)
                        have hm' : MRel ι S m.heap.get w' := hm.still (InjLe.refl _) hs (fun _ _ h => h)
                        refine ⟨u, ι, fun b => S' b ∨ Own ι' m1.heap.get b, he, ⟨InjLe.refl _, fun id h => .inl h, fun b hb => .inl (hp.prot b hb), fun b hb => ?_, hs.mono (fun _ _ h => h.elim), fun b _ h => h, ⟨fun id bx hx => ?_, hm'.apart, fun b hb => ?_⟩, view_rep hp.mem (fun _ h => .inl h) (fun _ h => .inr h) hv2 hp.rep, Grow.refl _⟩⟩
                        · rcases hb with hb | hb
                          · exact hp.fresh b hb
                          · exact .inr (Nat.le_of_not_lt fun hlt => hnew b hlt hb)
                        · obtain ⟨b, o, q1, q2, q3⟩ := hm.box id bx hx
                          obtain ⟨b', o', r1, r2, r3⟩ := hm'.box id bx hx
                          rw [q1] at r1
                          cases r1
                          refine ⟨b, o, q1, fun hb => ?_, r3.mono (InjLe.refl _) (fun b hb => .inl (hp.prot b hb)) (fun _ _ => rfl) (fun _ cs _ _ h => ⟨cs, h, rfl⟩) rfl⟩
                          rcases hb with hb | hb
                          · rcases hp.fresh b hb with e | e
                            · exact q2 e
                            · exact absurd q3.lt (by omega)
                          · exact hnew b q3.lt hb
                        · rcases hb with hb | hb
                          · exact hp.mem.prot b hb
                          · obtain ⟨id, bx, o, k1, k2⟩ := hb
                            obtain ⟨b', o', r1, r2, r3⟩ := hp.mem.box id bx k1
                            rw [k2] at r1
                            cases r1
                            exact r3.lt
                    · simp at h
                  · simp at h
                · split at h
                  · rename_i hor
                    simp only [Option.some.injEq, Prod.mk.injEq] at h
                    obtain ⟨rfl, rfl⟩ := h
                    refine ⟨Grow.refl _, f, fn, rfl, h1, h2, hbody, fun ι S w vargs hr hm hf => ?_⟩
                    by_cases hflat : v1.flat = true
                    · refine (hcall ι S (fun b => S b ∨ Own ι m.heap.get b) w vargs hr hm (viewAll_rep hm (fun _ h => .inl h) (fun _ h => .inr h) hvs hr) (fun b hb => ?_)).mono fun e w' ⟨u, ι', S', he, hp⟩ => ?_
                      · rcases hb with hb | hb
                        · exact hm.prot b hb
                        · obtain ⟨id, bx, o, k1, k2⟩ := hb
                          obtain ⟨b', o', r1, r2, r3⟩ := hm.box id bx k1
                          rw [k2] at r1
                          cases r1
                          exact r3.lt
                      · have hs := hstill hp
                        exact ⟨u, ι, S, he, ⟨InjLe.refl _, fun id h => .inl h, fun b hb => hb, fun b hb => .inl hb, hs.mono (fun _ _ h => h.elim), fun b _ h => h, hm.still (InjLe.refl _) hs (fun _ _ h => h), flat_rep hp.rep hflat, Grow.refl _⟩⟩
                    · have hor' : v1.bare = true ∧ args.all AVal.bare = true := by
                        simpa [hflat] using hor
                      have hve := viewAll_bare hvs hor'.2
                      refine (hcall ι S S w vargs hr hm ?_ hm.prot).mono fun e w' ⟨u, ι', S', he, hp⟩ => ?_
                      · rw [hve]
                        exact ⟨hr.1, fun j c x hc hx => bare_rep (hr.2 j c x hc hx) (fun _ h => h) (List.all_eq_true.1 hor'.2 c (List.mem_of_getElem? hc))⟩
                      · have hs := hstill hp
                        have hm' : MRel ι S m.heap.get w' := hm.still (InjLe.refl _) hs (fun _ _ h => h)
                        refine ⟨u, ι, S', he, ⟨InjLe.refl _, fun id h => .inl h, hp.prot, hp.fresh, hs.mono (fun _ _ h => h.elim), fun b _ h => h, ⟨fun id bx hx => ?_, hm'.apart, hp.mem.prot⟩, bare_rep hp.rep (fun _ h => h) hor'.1, Grow.refl _⟩⟩
                        obtain ⟨b, o, q1, q2, q3⟩ := hm.box id bx hx
                        obtain ⟨b', o', r1, r2, r3⟩ := hm'.box id bx hx
                        rw [q1] at r1
                        cases r1
                        refine ⟨b, o, q1, fun hb => ?_, r3.mono (InjLe.refl _) hp.prot (fun _ _ => rfl) (fun _ cs _ _ h => ⟨cs, h, rfl⟩) rfl⟩
                        rcases hp.fresh b hb with e | e
                        · exact q2 e
                        · exact absurd q3.lt (by omega)
                  · simp at h
              · simp at h
      · -- handed no box
        split at h
        · simp at h
        · rename_i afn hfn
          obtain ⟨fn, h1, h2, h3, hbody⟩ := hfns afn hfn
          split at h
          · split at h
            · rename_i v1 m1 hb
              simp only [Option.some.injEq, Prod.mk.injEq] at h
              obtain ⟨rfl, rfl⟩ := h
              obtain ⟨g1, k1⟩ := ih.body fn afn args _ _ _ h3 hb
              have hnx : m.next ≤ m1.next := g1.next
              have hlen : m.next + (m1.next - m.next) = m1.next := by omega
              have hM : ∀ id, (mergeNew m.heap m1.heap m.next (m1.next - m.next)).get id = if m.next ≤ id ∧ id < m1.next then m1.heap.get id else m.heap.get id := fun id => by rw [mergeNew_get, hlen]
              have hg : Grow m ⟨mergeNew m.heap m1.heap m.next (m1.next - m.next), m1.next, m.low⟩ := ⟨hnx, Nat.le_refl _, fun id hid => .inr (by show Tr.get _ id = _; rw [hM, if_neg (by omega)])⟩
              refine ⟨hg, f, fn, rfl, h1, h2, hbody, fun ι S w vargs hr hm hf => (k1 f ι S w vargs h1 hr (hm.less fun id bx h => by simp [Tr.get_nil] at h) hf).mono fun e w' ⟨u, ι', S', he, hp⟩ => ⟨u, ι', S', he, ?_⟩⟩
              have hno : ∀ b, ¬ Own ι (Tr.nil : Tr Box).get b := fun b ⟨id, bx, o, h, _⟩ => by simp [Tr.get_nil] at h
              have hs : WStep (fun _ => False) w w' := hp.step.mono fun b _ h => hno b h
              have hnew : ∀ b, b < w.heap.size → Own ι' m1.heap.get b → False := fun b hb ho => hno b (hp.own b hb ho)
              have hold : ∀ id bx, m.heap.get id = some bx → ∃ b o, ι id = some (b, o) ∧ ι' id = some (b, o) ∧ ¬ S' b ∧ BoxAt ι' S' w' b o bx ∧ b < w.heap.size := by
                intro id bx hx
                obtain ⟨b, o, q1, q2, q3⟩ := hm.box id bx hx
                have hlt := q3.lt
                refine ⟨b, o, q1, hp.inj _ _ q1, fun hb => ?_, q3.mono hp.inj hp.prot (fun b hb => hs.keep b (hm.prot b hb) (fun h => h)) hs.shape (hs.keep b hlt (fun h => h)), hlt⟩
                rcases hp.fresh b hb with e | e
                · exact q2 e
                · omega
              have hnewB : ∀ id bx, m1.heap.get id = some bx → ∃ b o, ι' id = some (b, o) ∧ ¬ S' b ∧ BoxAt ι' S' w' b o bx ∧ w.heap.size ≤ b := by
                intro id bx hx
                obtain ⟨b, o, q1, q2, q3⟩ := hp.mem.box id bx hx
                exact ⟨b, o, q1, q2, q3, Nat.le_of_not_lt fun hlt => hnew b hlt ⟨id, bx, o, hx, q1⟩⟩
              refine ⟨hp.inj, hp.news, hp.prot, hp.fresh, hs.mono (fun _ _ h => h.elim), fun b hb ⟨id, bx, o, h, ho⟩ => ?_, ⟨fun id bx hx => ?_, fun i j bi bj b o b' o' hi hj hne hbi hbj => ?_, hp.mem.prot⟩, hp.rep, hg⟩
              · simp only [hM] at h
                split at h
                · exact (hnew b hb ⟨id, bx, o, h, ho⟩).elim
                · obtain ⟨b1, o1, q1, q2, -⟩ := hold id bx h
                  rw [ho] at q2
                  cases q2
                  exact ⟨id, bx, o, h, q1⟩
              · simp only [hM] at hx
                split at hx
                · obtain ⟨b, o, q1, q2, q3, -⟩ := hnewB id bx hx
                  exact ⟨b, o, q1, q2, q3⟩
                · obtain ⟨b, o, -, q1, q2, q3, -⟩ := hold id bx hx
                  exact ⟨b, o, q1, q2, q3⟩
              · simp only [hM] at hi hj
                split at hi
                · split at hj
                  · exact hp.mem.apart i j bi bj b o b' o' hi hj hne hbi hbj
                  · obtain ⟨b1, o1, q1, -, -, q4⟩ := hnewB i bi hi
                    obtain ⟨b2, o2, -, r1, -, -, r4⟩ := hold j bj hj
                    rw [hbi] at q1
                    rw [hbj] at r1
                    cases q1
                    cases r1
                    omega
                · split at hj
                  · obtain ⟨b1, o1, q1, -, -, q4⟩ := hnewB j bj hj
                    obtain ⟨b2, o2, -, r1, -, -, r4⟩ := hold i bi hi
                    rw [hbj] at q1
                    rw [hbi] at r1
                    cases q1
                    cases r1
                    omega
                  · obtain ⟨b1, o1, q0, q1, -⟩ := hold i bi hi
                    obtain ⟨b2, o2, r0, r1, -⟩ := hold j bj hj
                    rw [hbi] at q1
                    rw [hbj] at r1
                    cases q1
                    cases r1
                    exact hm.apart i j bi bj b o b' o' hi hj hne q0 r0
            · simp at h
          · simp at h
    | _ => simp [callF] at h
  exact ⟨fun g args m v m' h => (key g args m v m' h).1, fun g args m v m' h => (key g args m v m' h).2⟩

theorem claim (hE : EnvOk P E) : ∀ n, Claim P E n
  | 0 => ⟨fun c ac nt s ex s' hc h => by simp [run] at h, fun c ac nt s ex s' hc h => by simp [run] at h, ⟨fun g args m v m' h => by simp [callF] at h, fun g args m v m' h => by simp [callF] at h⟩, fun fn afn args m v m' hc h => by simp [body] at h⟩
  | n + 1 =>
    have ih := claim hE n
    ⟨fun c ac nt s ex s' hc h => claim_code ih hE.orders hc h, fun c ac nt s ex s' hc h => claim_loop ih hc h, claim_call hE ih, fun fn afn args m v m' hc h => claim_body ih hc h⟩

/-- What the evaluator answers, the model does. -/
theorem sim_of (hE : EnvOk P E) {n : Nat} {f : FuncId} {args : List AVal} {m m' : Mem} {v : AVal} (h : callF E n (.func f) args m = some (v, m')) : Sim P f args m v m' := by
  obtain ⟨f', fn, he, h1, h2, h3, h4⟩ := (claim hE n).call.sim _ _ _ _ _ h
  cases he
  exact h4
end
end Go.Am
namespace Go.Am
structure Shut (Lc : Hp) (vs : List AVal) : Prop where
  cells : ∀ p ∈ Lc, cloAll (Named Lc) p.2
  vals : cloAll (Named Lc) vs
  size : wtAll vs + unseen [] Lc ≤ 100000
  cov : ∀ ids : List Nat, cloAll (· ∈ ids) vs → (∀ p ∈ Lc, p.1 ∈ ids → cloAll (· ∈ ids) p.2) → ∀ p ∈ Lc, p.1 ∈ ids
structure CfAll (E : Env) : Prop where
  stay : ∀ n, CfStay (callF E n)
  grow : ∀ n g args m v m', callF E n g args m = some (v, m') → Grow m m'
theorem cfAll_of {P : Program} {E : Env} (hE : EnvOk P E) (hk : ∀ f args m v m', E.mode f = .known → E.known f args m = some (v, m') → Stay m m') : CfAll E :=
  ⟨fun n => (stay_all hk n).call, fun n => ((claim hE n).call).grow⟩
theorem cells_iff {m : Mem} {id : Nat} {cs : List AVal} : m.cells id = some cs ↔ id < m.next ∧ m.heap.get id = some (.cells cs) := by
  unfold Mem.cells
  constructor
  · intro h
    split at h
    · rename_i hl
      refine ⟨hl, ?_⟩
      split at h
      · rename_i c hc
        simp only [Option.some.injEq] at h
        rw [hc, h]
      · simp at h
    · simp at h
  · rintro ⟨h1, h2⟩
    rw [if_pos h1, h2]
section
variable {E : Env} {t : Tr AVal} {L : Hp} {K : Tr AVal → Hp → Prop} {l : List AO} {j nx : Nat} {done : List (Nat × Eff)}
theorem dro_fresh (h : Fresh L nx → DrO E j done l t L nx K) : DrO E j done l t L nx K := ⟨fun m hm hn => (h ⟨hm.nd, fun p hp => by have := hm.lt hp; omega⟩).ex m hm hn⟩
theorem shut_reach {Lc : Hp} {vs : List AVal} (hS : Shut Lc vs) {m : Mem} (hm : Ows m Lc) : ∃ ids, reach m.heap 100000 vs [] = some ids ∧ (∀ i ∈ ids, Named Lc i) ∧ ∀ p ∈ Lc, p.1 ∈ ids := by
  obtain ⟨ids, r1, -, r3, r4, r5⟩ := reach_ok (h := m.heap) (L := Lc) (fun p hp => (cells_iff.1 (hm.at_ p hp)).2) hS.cells 100000 vs [] hS.vals hS.size
  exact ⟨ids, r1, fun i hi => (r3 i hi).resolve_left (by simp), hS.cov ids r4 fun p hp hi => (r5 p hp hi).resolve_left (by simp)⟩
theorem stepVal_growA (hA : CfAll E) {n : Nat} {u : Tr AVal} {op : AOp} {m m' : Mem} {v : AVal} (h : stepVal (callF E n) u m op = some (v, m')) : Grow m m' := by
  unfold stepVal at h
  split at h
  · split at h
    · exact hA.grow _ _ _ _ _ _ h
    · simp at h
  · exact opVal_grow h
theorem eff_any {o : AO} (hg : o.guard = none) {ids : List Nat} {m : Mem} (hi : idsOf (restrict t (slotsOf o)) m.heap o.op = some ids) (hl : ∀ i ∈ ids, i < m.next) {cf : CallF} {v : AVal} {m1 : Mem} (hc : stepVal cf (restrict t (slotsOf o)) ⟨restrict m.heap ids, m.next, m.next⟩ o.op = some (v, m1)) :
    effO cf o ⟨t, m⟩ = some ⟨o.dst, v, slotsOf o, ids, decide (m1.low < m.next), m.next, m1.next, m1.low, m1.heap, o.after, false, false⟩ := by
  unfold effO
  simp only [hg, wantedA, hi]
  rw [if_pos (List.all_eq_true.2 fun i hi => decide_eq_true (hl i hi))]
  simp only [hc]
/-- Any step: on the boxes that it can come to, it does what it does. -/
theorem dro_any (hA : CfAll E) {o : AO} {Lc Lr : Hp} {J : AVal → Hp → Prop} (hg : o.guard = none) (hr : L.Perm (Lc ++ Lr))
    (hids : ∀ m, Ows m Lc → ∃ ids, idsOf (restrict t (slotsOf o)) m.heap o.op = some ids ∧ (∀ i ∈ ids, Named Lc i) ∧ ∀ p ∈ Lc, p.1 ∈ ids)
    (hC : ∀ m, Ows m Lc → ∃ n v m1, stepVal (callF E n) (restrict t (slotsOf o)) m o.op = some (v, m1) ∧ ∃ L', Ows m1 L' ∧ J v L')
    (ha : ∀ ids wr hi, (∀ i ∈ ids, Named Lc i) → Fresh L nx → apartFrom (fpOf o ids wr nx hi) done = true)
    (h : ∀ v L' ids wr hi, J v L' → (∀ i ∈ ids, Named Lc i) → nx ≤ hi → DrO E (j + 1) ((j, fpOf o ids wr nx hi) :: done) l (setDst t o.dst v) (L' ++ Lr) hi K) : DrO E j done (o :: l) t L nx K := ⟨fun m hm hn => by
  have hm2 := hm.perm hr
  obtain ⟨ids, r1, r2, r3⟩ := hids m hm2.left
  have h0 : Ows ⟨restrict m.heap ids, m.next, m.next⟩ Lc := ⟨hm2.left.nd, fun p hp => restrict_cells (hm2.left.at_ p hp) (by simpa using r3 p hp)⟩
  have hil : ∀ i ∈ ids, i < m.next := fun i hi => by
    obtain ⟨q, hq, rfl⟩ := r2 i hi
    exact hm2.left.lt hq
  obtain ⟨n1, v, m1, hc, L', h1, hJ⟩ := hC _ h0
  have hst := stepVal_stay (hA.stay n1) hc
  have hgr := stepVal_growA hA hc
  have hnx : m.next ≤ m1.next := hst.next
  let e : Eff := ⟨o.dst, v, slotsOf o, ids, decide (m1.low < m.next), m.next, m1.next, m1.low, m1.heap, o.after, false, false⟩
  have hcov : ∀ id, Eff.cov id e = ((decide (m.next ≤ id) && decide (id < m1.next)) || (decide (m1.low < m.next) && ids.contains id)) := fun id => by simp [Eff.cov, e]
  have hh := fun id => app_heap e ⟨t, m⟩ id rfl hnx
  have old : ∀ id c, m1.cells id = some c → id < m.next → id ∈ ids := by
    intro id c hcc hlt
    by_cases hi : id ∈ ids
    · exact hi
    · have := hst.none_ id hlt (by
        show (restrict m.heap ids).get id = none
        rw [restrict_get, if_neg hi])
      rw [(cells_iff.1 hcc).2] at this
      simp at this
  have k1 : ∀ id c, m1.cells id = some c → (e.app ⟨t, m⟩).mem.cells id = some c := by
    intro id c hcc
    have hcc' := cells_iff.1 hcc
    refine cells_iff.2 ⟨hcc'.1, ?_⟩
    rw [hh]
    split
    · exact hcc'.2
    · rename_i hcv
      rw [hcov] at hcv
      by_cases hlt : id < m.next
      · have hi := old id c hcc hlt
        have hlow : ¬ m1.low < m.next := fun hl => hcv (by simp [hl, hi])
        rcases hgr.same id hlt with h2 | h2
        · omega
        · have h3 : m1.heap.get id = (restrict m.heap ids).get id := h2
          rw [restrict_get, if_pos hi] at h3
          show m.heap.get id = _
          rw [← h3]
          exact hcc'.2
      · exfalso
        refine hcv ?_
        have := hcc'.1
        simp only [Bool.or_eq_true, Bool.and_eq_true, decide_eq_true_eq]
        omega
  have hnd := hm2.nd
  rw [List.map_append, List.nodup_append] at hnd
  have nin : ∀ p ∈ Lr, p.1 ∉ ids := by
    intro p hp hi
    obtain ⟨q, hq, hqe⟩ := r2 _ hi
    exact hnd.2.2 q.1 (List.mem_map_of_mem hq) p.1 (List.mem_map_of_mem hp) hqe
  have k2 : Ows (e.app ⟨t, m⟩).mem (L' ++ Lr) := by
    refine ⟨?_, fun p hp => ?_⟩
    · rw [List.map_append, List.nodup_append]
      refine ⟨h1.nd, hm2.right.nd, fun i hi1 i2 hi2 e => ?_⟩
      subst e
      obtain ⟨p, hp, rfl⟩ := List.mem_map.1 hi1
      obtain ⟨q, hq, hqe⟩ := List.mem_map.1 hi2
      have hql := hm2.right.lt hq
      exact nin q hq (hqe ▸ old p.1 p.2 (h1.at_ p hp) (by omega))
    · rcases List.mem_append.1 hp with hp | hp
      · exact k1 _ _ (h1.at_ p hp)
      · have hc2 := cells_iff.1 (hm2.right.at_ p hp)
        refine cells_iff.2 ⟨Nat.lt_of_lt_of_le hc2.1 hnx, ?_⟩
        rw [hh, if_neg]
        · exact hc2.2
        · rw [hcov]
          have h9 := nin p hp
          have := hc2.1
          simp only [Bool.or_eq_true, Bool.and_eq_true, decide_eq_true_eq, List.contains_iff_mem]
          rintro (⟨h10, -⟩ | ⟨-, h10⟩)
          · omega
          · exact h9 h10
  subst hn
  obtain ⟨n2, s', es, h6, h7, h8⟩ := (h v L' ids (decide (m1.low < m.next)) m1.next hJ r2 hnx).ex (e.app ⟨t, m⟩).mem k2 rfl
  have he : effO (callF E (n1 + n2)) o ⟨t, m⟩ = some e := eff_any hg r1 hil (stepVal_mono (callF_le (Nat.le_add_right _ _)) hc)
  refine ⟨n1 + n2, s', e :: es, ?_, ?_, h8⟩
  · rw [drawOs, he]
    have : e.app ⟨t, m⟩ = ⟨setDst t o.dst v, (e.app ⟨t, m⟩).mem⟩ := rfl
    simp only
    rw [this, drawOs_mono (callF_le (Nat.le_add_left _ _)) h6]
  · unfold allApart
    have e0 : e.fp = fpOf o ids (decide (m1.low < m.next)) m.next m1.next := rfl
    rw [apartFrom_fp, e0, ha ids _ _ r2 ⟨hm.nd, fun p hp => hm.lt hp⟩]
    have := allApart_fp es (j + 1) [] j e done
    simp only [List.nil_append] at this
    rw [this, e0, h7]
    rfl⟩
theorem dro_callO (hA : CfAll E) {d a : Nat} {x : Arg} {asq : List Arg} {f : FuncId} {b1 b2 vs : List AVal} {Lc Lr : Hp} {J : AVal → Hp → Prop}
    (hx : argAll (restrict t (slotsOf ⟨some d, .call x asq, none, a⟩)) (x :: asq) = some (.fn (.func f) b1 b2 :: vs)) (hr : Rem Lc L Lr) (hS : Shut Lc (.fn (.func f) b1 b2 :: vs)) (hC : CallO E f (b1 ++ vs ++ b2) Lc J)
    (ha : ∀ ids wr hi, (∀ i ∈ ids, Named Lc i) → Fresh L nx → apartFrom (fpOf ⟨some d, .call x asq, none, a⟩ ids wr nx hi) done = true)
    (h : ∀ v L' ids wr hi, J v L' → (∀ i ∈ ids, Named Lc i) → nx ≤ hi → DrO E (j + 1) ((j, fpOf ⟨some d, .call x asq, none, a⟩ ids wr nx hi) :: done) l (t.set d (some v)) (L' ++ Lr) hi K) : DrO E j done (⟨some d, .call x asq, none, a⟩ :: l) t L nx K := by
  refine dro_any hA rfl hr.perm (fun m hm => ?_) (fun m hm => ?_) ha h
  · obtain ⟨ids, r1, r2, r3⟩ := shut_reach hS hm
    exact ⟨ids, by simp only [idsOf, hx, r1], r2, r3⟩
  · obtain ⟨n, v, m1, hc, L', h1, hJ⟩ := hC.ex m hm
    refine ⟨n, v, m1, ?_, L', h1, hJ⟩
    unfold argAll at hx
    split at hx
    · rename_i w ws h1 h2
      simp only [Option.some.injEq, List.cons.injEq] at hx
      obtain ⟨rfl, rfl⟩ := hx
      simp only [stepVal, h1, h2, hc]
    · simp at hx
/-- A step that is shown for code in the text's order. -/
theorem dro_op (hA : CfAll E) {d a : Nat} {op : AOp} {Lc Lr : Hp} {J : AVal → Hp → Prop} {ids0 : List Nat} (hr : Rem Lc L Lr)
    (hids : ∀ h, idsOf (restrict t (slotsOf ⟨some d, op, none, a⟩)) h op = some ids0) (hn : (∀ i ∈ ids0, Named Lc i) ∧ ∀ p ∈ Lc, p.1 ∈ ids0)
    (hO : OpsO E [⟨some d, op, none, a⟩] t Lc fun t' L' => ∃ v, t'.get d = some v ∧ J v L')
    (ha : ∀ ids wr hi, (∀ i ∈ ids, Named Lc i) → Fresh L nx → apartFrom (fpOf ⟨some d, op, none, a⟩ ids wr nx hi) done = true)
    (h : ∀ v L' ids wr hi, J v L' → (∀ i ∈ ids, Named Lc i) → nx ≤ hi → DrO E (j + 1) ((j, fpOf ⟨some d, op, none, a⟩ ids wr nx hi) :: done) l (t.set d (some v)) (L' ++ Lr) hi K) : DrO E j done (⟨some d, op, none, a⟩ :: l) t L nx K := by
  refine dro_any hA rfl hr.perm (fun m hm => ⟨ids0, hids _, hn⟩) (fun m hm => ?_) ha h
  obtain ⟨n, s', h1, L', h2, v, h3, h4⟩ := hO.ex m hm
  simp only [stepOs, stepO, wantedA] at h1
  split at h1
  · rename_i s1 hs1
    split at hs1
    · rename_i v' m' hv
      simp only [Option.some.injEq] at h1 hs1
      subst h1 hs1
      simp only [setDst, Tr.get_set_same, Option.some.injEq] at h3
      subst h3
      refine ⟨n, v', m', ?_, L', h2, h4⟩
      rw [← hv]
      exact (stepVal_congr (args_slots (o := ⟨some d, op, none, a⟩))).symm
    · simp at hs1
  · simp at h1
theorem any_sep {ids1 ids : List Nat} (h : ∀ i ∈ ids1, i ∉ ids) (b : Bool) : (b && ids1.any ids.contains) = false := by
  have : ids1.any ids.contains = false := by
    rw [List.any_eq_false]
    intro x hx hc
    exact h x hx (by simpa using hc)
  rw [this, Bool.and_false]
def news (m : Mem) : List (List AVal) → Mem
  | [] => m
  | c :: r => news (m.new (.cells c)) r
/-- A call that makes so many boxes, and writes none. -/
structure CallX (E : Env) (f : FuncId) (args : List AVal) (Lc : Hp) (nx : Nat) (v : AVal) (N : List (List AVal)) : Prop where
  ex : ∀ m, (∀ p ∈ Lc, m.cells p.1 = some p.2) → m.next = nx → CallW E f args m fun v' m' => v' = v ∧ (m'.heap = (news m N).heap ∧ m'.next = (news m N).next ∧ m'.low = min m.low m.next)
end
end Go.Am
namespace Go.Am
theorem dro_loadA {E : Env} {t : Tr AVal} {L : Hp} {K : Tr AVal → Hp → Prop} {l : List AO} {j nx : Nat} {done : List (Nat × Eff)} {d a id off k : Nat} {x : Arg} {cs r : List AVal} (hx : x.get (restrict t (slotsOf ⟨some d, .load true k x, none, a⟩)) = some (.ptr id off)) (hin : In id cs L) (hv : seg cs off k = some r)
    (ha : Fresh L nx → apartFrom (fpOf ⟨some d, .load true k x, none, a⟩ [id] false nx nx) done = true) (h : DrO E (j + 1) ((j, fpOf ⟨some d, .load true k x, none, a⟩ [id] false nx nx) :: done) l (t.set d (some (.agg r))) L nx K) : DrO E j done (⟨some d, .load true k x, none, a⟩ :: l) t L nx K := by
  refine dro_cons ha (fun m hm hn => ?_) h
  have hcs := hm.get hin
  have hlt := cells_next hcs
  refine ⟨⟨some d, .agg r, slotsOf ⟨some d, .load true k x, none, a⟩, [id], decide (m.next < m.next), m.next, m.next, m.next, restrict m.heap [id], a, false, false⟩, fun cf => ?_, ?_, ?_, rfl, ?_⟩
  · unfold effO
    simp only [wantedA, idsOf, hx, Option.map_some, AVal.id?, List.all_cons, List.all_nil, Bool.and_true, decide_eq_true hlt, if_true]
    have : stepVal cf (restrict t (slotsOf ⟨some d, .load true k x, none, a⟩)) ⟨restrict m.heap [id], m.next, m.next⟩ (.load true k x) = some (.agg r, ⟨restrict m.heap [id], m.next, m.next⟩) := (op_loadA hx (restrict_cells hcs (by simp)) hv).ex
    rw [this]
  · simp [Eff.fp, fpOf, hn]
  · refine hm.same fun i c hc => ?_
    simpa [Eff.app, mergeNew, Mem.cells] using hc
  · simp [Eff.app, hn]
theorem purer {P : Prop} (h : P := by (first | (apply op_mov; (focus (exact rslotq))) | (apply op_inc; (focus (exact rslotq)); (focus (exact numq))) | (apply op_dec; (focus (exact rslotq)); (focus (exact numq)); (focus (exact numq))) | (apply op_rem; (focus (exact rslotq)); (focus (exact rslotq)); (focus (exact numq))) | (apply op_quo; (focus (exact rslotq)); (focus (exact rslotq)); (focus (exact numq)); (focus (exact numq))) | (apply op_mulN; (focus (exact rslotq)); (focus (exact rslotq)); (focus (exact numq))) | (apply op_addN; (focus (exact rslotq)); (focus (exact rslotq)); (focus (exact numq))) | (apply op_lssT; (focus (exact rslotq)); (focus (exact rslotq)); (focus (omega))) | (apply op_lssF; (focus (exact rslotq)); (focus (exact rslotq)); (focus (omega))) | (apply op_leqT; (focus (exact rslotq)); (focus (exact rslotq)); (focus (omega))) | (apply op_leqF; (focus (exact rslotq)); (focus (exact rslotq)); (focus (omega))) | (apply op_gtrT; (focus (exact rslotq)); (focus (exact rslotq)); (focus (omega))) | (apply op_gtrF; (focus (exact rslotq)); (focus (exact rslotq)); (focus (omega))) | (apply op_geqT; (focus (exact rslotq)); (focus (exact rslotq)); (focus (omega))) | (apply op_geqF; (focus (exact rslotq)); (focus (exact rslotq)); (focus (omega))) | (apply op_eqlT; (focus (exact rslotq)); (focus (exact rslotq)); (focus (omega))) | (apply op_eqlF; (focus (exact rslotq)); (focus (exact rslotq)); (focus (omega))) | (apply op_neqT; (focus (exact rslotq)); (focus (exact rslotq)); (focus (omega))) | (apply op_neqF; (focus (exact rslotq)); (focus (exact rslotq)); (focus (omega))) | (apply op_lssI; (focus (exact rslotq)); (focus (exact rslotq))) | (apply op_leqI; (focus (exact rslotq)); (focus (exact rslotq))) | (apply op_gtrI; (focus (exact rslotq)); (focus (exact rslotq))) | (apply op_geqI; (focus (exact rslotq)); (focus (exact rslotq))) | (apply op_eqlI; (focus (exact rslotq)); (focus (exact rslotq))) | (apply op_neqI; (focus (exact rslotq)); (focus (exact rslotq))) | (apply op_addI; (focus (exact rslotq)); (focus (exact rslotq)); (focus (omega))) | (apply op_subI; (focus (exact rslotq)); (focus (exact rslotq)); (focus (omega))) | (apply op_mulI; (focus (exact rslotq)); (focus (exact rslotq)); (focus (omega))) | (apply op_bin; (focus (exact rslotq)); (focus (exact rslotq)); (focus (rfl))) | (apply op_fieldAddr0; (focus (exact rslotq))) | (apply op_fieldAddr; (focus (exact rslotq))) | (apply op_fieldAddrR; (focus (exact rslotq)); (focus (exact numq))) | (apply op_loadR; (focus (exact rslotq)); (focus (first | exact get_inat (by omega) | exact get_ints (by omega) | exact get_ints (k := 0) (by omega) | exact get_ints (k := 1) (by omega) | exact get_ints (k := 2) (by omega) | exact get_np0 (by omega) | exact get_np1 (by omega) | exact get_pair00 (by omega) | exact get_pair1 (by omega) | (first | rfl | assumption | (simp [List.getElem?_append, List.getElem?_cons]; done) | (simp; omega))))) | (apply op_loadRA; (focus (exact rslotq)); (focus (first | assumption | exact seg_np (by omega) | exact seg_pair (by omega) | (first | exact seg_full rfl | ((simp only [seg, List.length_cons, List.length_nil, Nat.reduceAdd, Nat.reduceLeDiff, reduceIte, List.drop_zero, List.drop_succ_cons, List.take_succ_cons, List.take_zero]); rfl) | rfl)))) | (apply op_len; (focus (exact rslotq)); (focus (first | rfl | exact len_Row (by assumption) | exact BufO.slen (by assumption)))) | (apply op_indexRow; (focus (exact rslotq)); (focus (assumption)); (focus (exact rslotq)); (focus (exact numq)); (focus (exact numq))) | (apply op_indexRow (i := 0); (focus (exact rslotq)); (focus (assumption)); (focus (rfl)); (focus (exact numq)); (focus (exact numq))) | (apply op_indexRow (i := 1); (focus (exact rslotq)); (focus (assumption)); (focus (rfl)); (focus (exact numq)); (focus (exact numq))) | (apply op_indexRow (i := 2); (focus (exact rslotq)); (focus (assumption)); (focus (rfl)); (focus (exact numq)); (focus (exact numq))) | (apply op_indexR; (focus (exact rslotq)); (focus (exact rslotq)); (focus (exact numq)); (focus (exact numq))) | (apply op_indexR (i := 0); (focus (exact rslotq)); (focus (rfl)); (focus (exact numq)); (focus (exact numq))) | (apply op_indexR (i := 1); (focus (exact rslotq)); (focus (rfl)); (focus (exact numq)); (focus (exact numq))) | (apply op_indexR (i := 2); (focus (exact rslotq)); (focus (rfl)); (focus (exact numq)); (focus (exact numq))) | (apply op_index01; (focus (exact rslotq)); (focus (exact rslotq)); (focus (exact numq))) | (apply op_index1; (focus (exact rslotq)); (focus (exact rslotq)); (focus (exact numq))) | (apply op_indexL; (focus (exact rslotq)); (focus (exact rslotq)); (focus (exact numq))) | (apply op_indexP (i := 0); (focus (exact rslotq)); (focus (rfl)); (focus (decide))) | (apply op_indexP (i := 1); (focus (exact rslotq)); (focus (rfl)); (focus (decide))) | (apply op_indexO (i := 0); (focus (exact rslotq)); (focus (rfl)); (focus (decide)); (focus (exact numq))) | (apply op_indexO (i := 1); (focus (exact rslotq)); (focus (rfl)); (focus (decide)); (focus (exact numq))) | (apply op_extract; (focus (exact rslotq)); (focus ((first | rfl | assumption | (simp [List.getElem?_append, List.getElem?_cons]; done) | (simp; omega))))) | (apply op_field; (focus (exact rslotq)); (focus ((first | rfl | assumption | (simp [List.getElem?_append, List.getElem?_cons]; done) | (simp; omega))))) | (apply op_pick_t; (focus (exact rslotq)); (focus (exact rslotq))) | (apply op_pick_f; (focus (exact rslotq)); (focus (exact rslotq))) | (apply op_eqNilF; (focus (exact rslotq)); (focus (exact rslotq)); (focus (rfl)); (focus (rfl)); (focus (rfl))) | (apply op_eqNilT; (focus (exact rslotq)); (focus (exact rslotq)); (focus (rfl)); (focus (rfl)); (focus (rfl))) | (apply op_makeFunc; (focus ((repeat (first | exact argAll_nil | (apply argAll_cons; (focus (exact rslotq))))))); (focus ((repeat (first | exact argAll_nil | (apply argAll_cons; (focus (exact rslotq)))))))) | (apply op_un; (focus (exact rslotq)); (focus (rfl))) | (apply op_conv; (focus (exact rslotq)); (focus (rfl))) | (apply op_build; (focus ((repeat (first | exact argParts_nil | (apply argParts_cons; (focus (exact rslotq))))))); (focus ((repeat (first | (apply fillA_one; (focus ((first | rfl | assumption | exact BufO.isOne (by assumption) | exact RowA.isOne (by assumption)))); (focus (first | decide | simp))) | (apply fillA_agg; (focus rfl); (focus (first | decide | simp)); (focus ((first | rfl | assumption | (repeat (first | exact all_one_nil | exact all_one_ints _ | (apply all_one_cons; (focus ((first | rfl | assumption | exact BufO.isOne (by assumption) | exact RowA.isOne (by assumption))))))))))) | (apply fillA_nilE; (focus ((try simp only [List.set_cons_zero, List.set_cons_succ, putSeg, List.take, List.drop, List.take_zero, List.drop_zero, List.take_succ_cons, List.drop_succ_cons, List.nil_append, List.cons_append, List.length_cons, List.length_nil, Nat.reduceAdd, Nat.zero_add, List.append_nil]); (first | exact set_ints _ _ _ | rfl))))))))) | (apply op_eqBoolF; (focus (exact rslotq)); (focus (exact rslotq))) | (apply op_eqBoolT; (focus (exact rslotq)); (focus (exact rslotq))) | (apply op_eqAggF; (focus (exact rslotq)); (focus (exact rslotq)); (focus (rfl))) | (apply op_eqAggT; (focus (exact rslotq)); (focus (exact rslotq)); (focus (rfl))) | (apply op_nilCheck; (focus (exact rslotq))) | (apply op_lenC) | (apply op_lenStr; (focus (exact rslotq))) | (apply op_sliceLo01; (focus (exact rslotq)); (focus (exact rslotq)); (focus (exact numq))) | (apply op_sliceLo1 (lo := 1); (focus (exact rslotq)); (focus (rfl)); (focus (exact numq))) | (apply op_sliceLo1; (focus (exact rslotq)); (focus (exact rslotq)); (focus (exact numq))) | (apply op_sliceLo; (focus (exact rslotq)); (focus (exact rslotq)); (focus (exact numq))) | (apply op_sliceHi; (focus (exact rslotq)); (focus (exact rslotq)); (focus (exact numq))) | (apply op_sliceHiI; (focus (exact rslotq)); (focus (assumption)); (focus (exact rslotq)); (focus (exact numq))) | (apply op_indexAgg; (focus (exact rslotq)); (focus (exact rslotq)); (focus (exact numq)); (focus (assumption))))) : P := h
theorem goz {A B : Prop} (hB : B) (h : Hid B → A := by intro hB; (first | exact dro_nil hB.h | (apply dro_p; (focus (first | rfl | (simp only [idsOf]; rfl))); (focus (intro _ _; rfl)); (focus (intro _ _ hcc; cases hcc)); (focus (intro mm; exact purer)); (focus ((intro hfr; repeat (first | exact apart_nil | (apply apart_bit; (focus decide)) | (apply apart_not; (focus decide); (focus (first | rfl | assumption | (simp; done))); (focus (first | rfl | exact any_none _ _ | (simp; omega)))))))); exact hB.h) | (apply dro_loadA; (focus (exact rslotq)); (focus (exact inq)); (focus (first | assumption | exact seg_full rfl | ((simp only [seg, List.length_cons, List.length_nil, Nat.reduceAdd, Nat.reduceLeDiff, reduceIte, List.drop_zero, List.drop_succ_cons, List.take_succ_cons, List.take_zero]); rfl) | rfl)); (focus ((intro hfr; repeat (first | exact apart_nil | (apply apart_bit; (focus decide)) | (apply apart_not; (focus decide); (focus (first | rfl | assumption | (simp; done))); (focus (first | rfl | exact any_none _ _ | (simp; omega)))))))); exact hB.h) | (apply dro_load; (focus (exact rslotq)); (focus (exact inq)); (focus (first | assumption | rfl)); (focus ((intro hfr; repeat (first | exact apart_nil | (apply apart_bit; (focus decide)) | (apply apart_not; (focus decide); (focus (first | rfl | assumption | (simp; done))); (focus (first | rfl | exact any_none _ _ | (simp; omega)))))))); exact hB.h) | (apply dro_buildSlice; (focus ((repeat (first | exact argParts_nil | (apply argParts_cons; (focus (exact rslotq))))))); (focus ((repeat (first | (apply fillA_one; (focus ((first | rfl | assumption | exact BufO.isOne (by assumption) | exact RowA.isOne (by assumption)))); (focus (first | decide | simp))) | (apply fillA_agg; (focus rfl); (focus (first | decide | simp)); (focus ((first | rfl | assumption | (repeat (first | exact all_one_nil | exact all_one_ints _ | (apply all_one_cons; (focus ((first | rfl | assumption | exact BufO.isOne (by assumption) | exact RowA.isOne (by assumption))))))))))) | (apply fillA_nilE; (focus ((try simp only [List.set_cons_zero, List.set_cons_succ, putSeg, List.take, List.drop, List.take_zero, List.drop_zero, List.take_succ_cons, List.drop_succ_cons, List.nil_append, List.cons_append, List.length_cons, List.length_nil, Nat.reduceAdd, Nat.zero_add, List.append_nil]); (first | exact set_ints _ _ _ | rfl)))))))); (focus ((intro hfr; repeat (first | exact apart_nil | (apply apart_bit; (focus decide)) | (apply apart_not; (focus decide); (focus (first | rfl | assumption | (simp; done))); (focus (first | rfl | exact any_none _ _ | (simp; omega)))))))); exact hB.h) | (apply dro_store; (focus (exact rslotq)); (focus (exact rslotq)); (focus ((first | rfl | assumption | exact BufO.isOne (by assumption) | exact RowA.isOne (by assumption)))); (focus (exact updq)); (focus (exact numq)); (focus (((try simp only [List.set_cons_zero, List.set_cons_succ, putSeg, List.take, List.drop, List.take_zero, List.drop_zero, List.take_succ_cons, List.drop_succ_cons, List.nil_append, List.cons_append, List.length_cons, List.length_nil, Nat.reduceAdd, Nat.zero_add, List.append_nil]); (first | exact set_ints _ _ _ | rfl)))); (focus ((intro hfr; repeat (first | exact apart_nil | (apply apart_bit; (focus decide)) | (apply apart_not; (focus decide); (focus (first | rfl | assumption | (simp; done))); (focus (first | rfl | exact any_none _ _ | (simp; omega)))))))); exact hB.h))) : A := h ⟨hB⟩
end Go.Am
