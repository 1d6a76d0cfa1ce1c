/- Parts of the proof, joined by program: AmDraw3, AmStill. -/
import Derived.Test.YtfaphhcloanhnaaPa19
set_option linter.unusedSimpArgs false
set_option linter.unusedVariables false
namespace Go.Am

section
variable {P : Program} {cf : CallF} {ι : Inj} {S : Nat → Prop} {w : World}

theorem compOs_get {nt : Nat} {ops : Array Oper} {bf : Array Nat} : ∀ (rest : List Oper) (i : Nat) (l : List AO), compOs P nt ops bf i rest = some l →
    l.length = rest.length ∧ ∀ (j : Nat) o, rest[j]? = some o → ∃ ao, l[j]? = some ao ∧ compAO P nt ops bf (i + j) o = some ao
  | [], i, l, h => by
    simp [compOs] at h
    subst h
    exact ⟨rfl, fun j o ho => by simp at ho⟩
  | o :: r, i, l, h => by
    unfold compOs at h
    split at h
    · rename_i ao l' h1 h2
      simp only [Option.some.injEq] at h
      subst h
      obtain ⟨k1, k2⟩ := compOs_get r (i + 1) l' h2
      refine ⟨by simp [k1], fun j x hx => ?_⟩
      cases j with
      | zero => simp at hx; subst hx; exact ⟨ao, rfl, h1⟩
      | succ j =>
        obtain ⟨a2, g1, g2⟩ := k2 j x (by simpa using hx)
        exact ⟨a2, by simpa using g1, by rw [show i + (j + 1) = i + 1 + j by omega]; exact g2⟩
    · simp at h

theorem okEdges_spec {ops : Array Oper} (h : okEdges ops = true) {i : Nat} {o : Oper} (ho : ops[i]? = some o) : ∀ e ∈ o.after, Region.binds .any e = true → e.on < i := by
  intro e he hb
  unfold okEdges at h
  have hm : (o, i) ∈ ops.toList.zipIdx := List.mk_mem_zipIdx_iff_getElem?.2 (by simpa using ho)
  have := List.all_eq_true.1 h _ hm
  simp only [Array.all_eq_true_iff_forall_mem] at this
  have := this e he
  rw [hb] at this
  simpa using this
theorem okAfter_spec {ops : Array Oper} {bf : Array Nat} (h : okAfter ops bf = true) {i : Nat} {o : Oper} (ho : ops[i]? = some o) {k : Nat} (hk : k < ops.size) (ht : (bf.getD i 0).testBit k = true) :
    ∃ e ∈ o.after, Region.binds .any e = true ∧ (e.on = k ∨ (bf.getD e.on 0).testBit k = true) := by
  unfold okAfter at h
  have hm : (o, i) ∈ ops.toList.zipIdx := List.mk_mem_zipIdx_iff_getElem?.2 (by simpa using ho)
  have := List.all_eq_true.1 h _ hm
  have := List.all_eq_true.1 this k (List.mem_range.2 hk)
  simp only at this
  rw [ht] at this
  simp only [Bool.not_true, Bool.false_or] at this
  obtain ⟨e, he, hb⟩ := Array.any_eq_true'.1 this
  simp only [Bool.and_eq_true, Bool.or_eq_true, beq_iff_eq] at hb
  exact ⟨e, he, hb.1, hb.2⟩

theorem drawn_any (hcf : CfOk P cf) {nt : Nat} {ops : Array Oper} {l : List AO} {s s' : St} {es : List Eff} {Q : Exit → Act → World → Prop} {ι0 : Inj} {S0 : Nat → Prop} {w0 : World}
    (hL : Laid cf l s s' es) (hf : ∀ id, s.mem.next ≤ id → id < s'.mem.next → ι0 id = none) (hco : compOs P nt ops (Region.before ops) 0 ops.toList = some l)
    (hE : okEdges ops = true) (hA : okAfter ops (Region.before ops) = true)
    (K : ∀ a' w' ι' S', Mid es s nt ι0 S0 w0 (fun _ => true) ι' S' w' a' → Q .normal a' w') :
    ∀ (fuel : Nat) (listed : Array Bool) (u : List Nat) (ι : Inj) (S : Nat → Prop) (w : World) (a : Act), u.length ≤ fuel → (∀ j, j < ops.size → listed.getD j false = false → j ∈ u) →
      listed.size = ops.size → Mid es s nt ι0 S0 w0 (fun j => listed.getD j false) ι S w a → Closed es (fun j => listed.getD j false) → wpAny P .any ops Q fuel listed a w := by
  obtain ⟨hl1, hl2⟩ := compOs_get _ _ _ hco
  have hlen : es.length = ops.size := by rw [hL.len, hl1]; simp
  have hun : ∀ (listed : Array Bool), listed.size = ops.size → ∀ j, listed.getD j true = false → listed.getD j false = false ∧ j < ops.size := by
    intro listed hsz j hj
    have : j < listed.size := by
      apply Classical.byContradiction
      intro h
      simp [Array.getElem?_eq_none (Nat.le_of_not_lt h)] at hj
    exact ⟨by simpa [this] using hj, by omega⟩
  -- none is ready: all have been done
  have hall : ∀ (listed : Array Bool), listed.size = ops.size → Region.ready .any ops listed = [] → ∀ j, j < ops.size → listed.getD j false = true := by
    intro listed hsz hr j
    induction j using Nat.strongRecOn with
    | ind j ih =>
      intro hj
      apply Classical.byContradiction
      intro hne
      have hne' : listed.getD j false = false := by simpa using hne
      have : j ∈ Region.ready .any ops listed := by
        refine mem_ready.2 ⟨?_, ops[j], by simp [hj], fun e he hb => ?_⟩
        · have : j < listed.size := by omega
          simpa [this] using hne'
        · have := okEdges_spec hE (i := j) (o := ops[j]) (by simp [hj]) e he hb
          exact ih _ this (by omega)
      rw [hr] at this
      cases this
  have hend : ∀ (listed : Array Bool) (ι : Inj) (S : Nat → Prop) (w : World) (a : Act), Mid es s nt ι0 S0 w0 (fun j => listed.getD j false) ι S w a → (∀ j, j < ops.size → listed.getD j false = true) → Q .normal a w := by
    intro listed ι S w a hM hd
    have h1 : ∀ t, slotD es s (fun j => listed.getD j false) t = slotD es s (fun _ => true) t := fun t => lastV_congr _ _ _ _ fun j x hx _ => hd j (by have := (List.getElem?_eq_some_iff.1 hx).1; omega)
    have h2 : ∀ t, heapD es s (fun j => listed.getD j false) t = heapD es s (fun _ => true) t := fun t => lastV_congr _ _ _ _ fun j x hx _ => hd j (by have := (List.getElem?_eq_some_iff.1 hx).1; omega)
    refine K a w ι S ⟨fun t x h => hM.slots t x ((h1 t).trans h), hM.mem.less fun id bx h => (h2 id).trans h, hM.size, hM.defers, hM.inj, fun id hne => ?_, hM.prot, hM.fresh, hM.step, fun b hb k => ?_⟩
    · rcases hM.news id hne with k | ⟨j, e, k1, k2⟩
      · exact .inl k
      · exact .inr ⟨j, e, rfl, k2⟩
    · obtain ⟨id, bx, o, g1, g2⟩ := k
      exact hM.own b hb ⟨id, bx, o, (h2 id).trans g1, g2⟩
  intro fuel
  induction fuel with
  | zero =>
    intro listed u ι S w a hu hul hsz hM hc
    have hd : ∀ j, j < ops.size → listed.getD j false = true := by
      intro j hj
      apply Classical.byContradiction
      intro hne
      have := hul j hj (by simpa using hne)
      have : u = [] := List.length_eq_zero_iff.1 (by omega)
      subst this
      simp at *
    refine ⟨?_, hend listed ι S w a hM hd⟩
    apply List.eq_nil_iff_forall_not_mem.2
    intro j hj
    obtain ⟨h0, _⟩ := mem_ready.1 hj
    obtain ⟨h1, h2⟩ := hun listed hsz j h0
    rw [hd j h2] at h1
    cases h1
  | succ fuel ih =>
    intro listed u ι S w a hu hul hsz hM hc
    refine ⟨fun hr => hend listed ι S w a hM (hall listed hsz hr), fun i hi => ?_⟩
    obtain ⟨h0, o, ho, hedge⟩ := mem_ready.1 hi
    obtain ⟨h1, hilt⟩ := hun listed hsz i h0
    obtain ⟨ao, hao, hcao⟩ := hl2 i o (by simpa using ho)
    rw [Nat.zero_add] at hcao
    have hie : i < es.length := by omega
    have hes : es[i]? = some es[i] := by simp [hie]
    have e4 := (hL.at_ i _ ao hes hao).after
    obtain ⟨_, _, _, _, c5⟩ := compAO_spec hcao
    have hbits : ∀ (j : Nat) x, es[j]? = some x → x.after = (Region.before ops).getD j 0 := by
      intro j x hx
      have hjl : j < ops.size := by have := (List.getElem?_eq_some_iff.1 hx).1; omega
      obtain ⟨ao', g1, g2⟩ := hl2 j ops[j] (by simp [hjl])
      rw [Nat.zero_add] at g2
      have q4 := (hL.at_ j x ao' hx g1).after
      obtain ⟨_, _, _, _, q5⟩ := compAO_spec g2
      rw [q4, q5]
    have hb : ∀ k, k < es.length → es[i].after.testBit k = true → (fun j => listed.getD j false) k = true := by
      intro k hk ht
      rw [hbits i _ hes] at ht
      obtain ⟨e, he', hb', hor⟩ := okAfter_spec hA ho (by omega) ht
      have hde := hedge e he' hb'
      rcases hor with q | q
      · subst q
        exact hde
      · have heo := okEdges_spec hE ho e he' hb'
        have hel : e.on < es.length := by omega
        refine hc e.on es[e.on] (by simp [hel]) hde k hk ?_
        rw [hbits e.on es[e.on] (by simp [hel])]
        exact q
    have hins : insD (fun j => listed.getD j false) i = fun j => (listed.setIfInBounds i true).getD j false := by
      funext j
      simp only [insD]
      by_cases hji : j = i
      · subst hji
        have : j < listed.size := by omega
        simp [this]
      · rw [getD_set_ne false (Ne.symm hji)]
        simp [hji]
    refine mid_step hcf hL hf hM hc ho hao hcao hes h1 hb fun a' w' ι' S' hM' => ?_
    rw [hins] at hM'
    refine ih (listed.setIfInBounds i true) (u.erase i) ι' S' w' a' ?_ (fun j hj hne => ?_) (by simp [hsz]) hM' ?_
    · have := hul i hilt h1
      rw [List.length_erase_of_mem this]
      omega
    · have hji : i ≠ j := by
        intro he
        subst he
        have : i < listed.size := by omega
        simp [this] at hne
      rw [getD_set_ne false hji] at hne
      exact (List.mem_erase_of_ne (Ne.symm hji)).2 (hul j hj hne)
    · rw [← hins]
      intro j x hx hd k hk ht
      simp only [insD, Bool.or_eq_true, beq_iff_eq] at hd ⊢
      rcases hd with q | q
      · exact .inl (hc j x hx q k hk ht)
      · subst q
        rw [hes] at hx
        cases hx
        exact .inl (hb k hk ht)

theorem repD (n j : Nat) : (Array.replicate n false).getD j false = false := by
  by_cases h : j < n <;> simp [Array.getElem?_replicate, h]

theorem laid_wp (hcf : CfOk P cf) (hP : P.follows .mixedOrders = true) {nt id : Nat} {ops : Array Oper} {l : List AO} {s s' : St} {Q : Exit → Act → World → Prop} {a : Act}
    (hco : compOs P nt ops (Region.before ops) 0 ops.toList = some l) (hE : okEdges ops = true) (hA : okAfter ops (Region.before ops) = true)
    {es : List Eff} (hL : Laid cf l s s' es) (hr : StRel ι S w s a nt) (hf : ∀ id, s.mem.next ≤ id → id < s'.mem.next → ι id = none)
    (K : ∀ a' w' ι' S', Sp ι S s.mem w s'.mem ι' S' w' → StRel ι' S' w' s' a' nt → Q .normal a' w') : (Code.region id ops true).wp P Q a w := by
  refine wp_region_any hP ?_
  have hslot : ∀ t, slotD es s (fun j => (Array.replicate ops.size false).getD j false) t = s.slots.get t := fun t => lastV_none _ _ _ fun j x hx hd => by rw [repD] at hd; cases hd
  have hheap : ∀ t, heapD es s (fun j => (Array.replicate ops.size false).getD j false) t = s.mem.heap.get t := fun t => lastV_none _ _ _ fun j x hx hd => by rw [repD] at hd; cases hd
  have hd0 : WStep (Own ι s.mem.heap.get) w { w with drawn := w.drawn + 1 } := WStep.drawn_ _ _ _
  refine drawn_any hcf hL hf hco hE hA (fun a' w' ι' S' hM => ?_) ops.size _ (List.range ops.size) ι S { w with drawn := w.drawn + 1 } a (by simp) (fun j hj _ => List.mem_range.2 hj) (by simp) ?_ (ι0 := ι) (S0 := S) (w0 := w) ?_
  · refine K a' w' ι' S' ⟨hM.inj, fun id hne => ?_, hM.prot, hM.fresh, hM.step, fun b hb k => ?_, hL.grow⟩ ⟨fun t x h => hM.slots t x ((hL.slots t).symm.trans h), hM.mem.less fun id bx h => (hL.heap id).symm.trans h, hM.size, hM.defers⟩
    · rcases hM.news id hne with k | ⟨j, e, k1, k2, k3, k4⟩
      · exact .inl k
      · right
        obtain ⟨r1, r2, r4, r3⟩ := hL.rows j e k2
        omega
    · obtain ⟨id, bx, o, g1, g2⟩ := k
      exact hM.own b hb ⟨id, bx, o, (hL.heap id).symm.trans g1, g2⟩
  · refine ⟨fun t x h => ?_, ?_, hr.size, hr.defers, InjLe.refl _, fun id hne => .inl hne, fun b hb => hb, fun b hb => .inl hb, hd0, fun b hb k => ?_⟩
    · obtain ⟨u, k1, k2⟩ := hr.slots t x ((hslot t).symm.trans h)
      exact ⟨u, k1, k2.up hr.mem (InjLe.refl _) (fun _ h => h) hd0 (fun b hb => hr.mem.notS hb)⟩
    · exact (hr.mem.still (InjLe.refl _) (owned := fun _ => False) (WStep.drawn_ _ _ _) (fun _ _ h => h)).less fun id bx h => (hheap id).symm.trans h
    · obtain ⟨id, bx, o, g1, g2⟩ := k
      exact ⟨id, bx, o, (hheap id).symm.trans g1, g2⟩
  · intro j x hx hd
    simp only [repD] at hd
    cases hd
end
end Go.Am
namespace Go.Am

/-! ### An operation looks at its operands alone -/
section
variable {s s' : Tr AVal} {m : Mem}
theorem argAll_congr : ∀ {l : List Arg}, (∀ a ∈ l, a.get s = a.get s') → argAll s l = argAll s' l
  | [], h => rfl
  | a :: r, h => by
    unfold argAll
    rw [h a (by simp), argAll_congr fun x hx => h x (by simp [hx])]
theorem argParts_congr : ∀ {l : List (Nat × Nat × Arg)}, (∀ a ∈ l.map (·.2.2), a.get s = a.get s') → argParts s l = argParts s' l
  | [], h => rfl
  | (o, n, a) :: r, h => by
    unfold argParts
    rw [h a (by simp), argParts_congr fun x hx => h x (by simp at hx ⊢; exact .inr hx)]
theorem argOpt_congr {x : Option Arg} (h : ∀ a ∈ x.toList, a.get s = a.get s') : argOpt s x = argOpt s' x := by
  cases x with
  | none => rfl
  | some a => simp only [argOpt, h a (by simp)]

theorem stepVal_congr {cf : CallF} {op : AOp} (h : ∀ a ∈ op.args, a.get s = a.get s') : stepVal cf s m op = stepVal cf s' m op := by
  cases op
  case build z ps => simp only [AOp.args] at h; simp only [stepVal, opVal, argParts_congr h]
  case buildSlice a b z ps => simp only [AOp.args] at h; simp only [stepVal, opVal, argParts_congr h]
  case minmax mx xs => simp only [AOp.args] at h; simp only [stepVal, opVal, argAll_congr h]
  case makeFunc f a b =>
    simp only [AOp.args, List.mem_append] at h
    simp only [stepVal, opVal, argAll_congr fun x hx => h x (.inl hx), argAll_congr fun x hx => h x (.inr hx)]
  case call f asq =>
    simp only [AOp.args, List.mem_cons] at h
    simp only [stepVal, h f (.inl rfl), argAll_congr fun x hx => h x (.inr hx)]
  case slice e x lo hi mx =>
    simp only [AOp.args, List.mem_append, List.mem_singleton] at h
    simp only [stepVal, opVal, h x (.inl (.inl (.inl rfl))), argOpt_congr fun y hy => h y (.inl (.inl (.inr hy))), argOpt_congr fun y hy => h y (.inl (.inr hy)), argOpt_congr fun y hy => h y (.inr hy)]
  case sliceStr x lo hi =>
    simp only [AOp.args, List.mem_append, List.mem_singleton] at h
    simp only [stepVal, opVal, h x (.inl (.inl rfl)), argOpt_congr fun y hy => h y (.inl (.inr hy)), argOpt_congr fun y hy => h y (.inr hy)]
  all_goals first
    | rfl
    | (simp only [AOp.args, List.mem_cons, List.not_mem_nil, or_false, forall_eq_or_imp, forall_eq] at h; simp only [stepVal, opVal, h])
end

section
variable {P : Program} {cf : CallF} {E : Env} {m m' : Mem} {v : AVal} {s : Tr AVal}

theorem stepVal_pure {op : AOp} (hc : clOf E op = .pure) (h : stepVal cf s m op = some (v, m')) (m0 : Mem) : m' = m ∧ stepVal cf s m0 op = some (v, m0) := by
  cases op <;> simp only [clOf, reduceCtorEq] at hc
  case call f asq => split at hc <;> (try split at hc) <;> simp at hc
  try (case load g k x => cases x <;> simp at hc; done)
  all_goals simp only [stepVal, opVal] at h ⊢
  all_goals (repeat' (split at h))
  all_goals (try (simp only [reduceCtorEq] at h; done))
  all_goals (try simp only [Option.map_eq_some_iff, Option.some.injEq, Prod.mk.injEq] at h)
  all_goals first
    | (obtain ⟨x, hx, rfl, rfl⟩ := h; refine ⟨rfl, ?_⟩; simp [*]; done)
    | (obtain ⟨rfl, rfl⟩ := h; refine ⟨rfl, ?_⟩; simp [*]; done)
    | (obtain ⟨x, hx, rfl, rfl⟩ := h; refine ⟨rfl, ?_⟩; simp_all; done)
    | (obtain ⟨rfl, rfl⟩ := h; refine ⟨rfl, ?_⟩; simp_all; done)
    | skip

theorem stepVal_make {op : AOp} (hnc : ∀ f asq, op ≠ .call f asq) (hc : clOf E op = .make) (h : stepVal cf s m op = some (v, m')) : ∃ b, m' = m.new b ∧ ∀ m0 : Mem, m0.next = m.next → stepVal cf s m0 op = some (v, m0.new b) := by
  cases op <;> simp only [clOf, reduceCtorEq] at hc
  case call f asq => exact absurd rfl (hnc f asq)
  try (case load g k x => cases x <;> simp at hc; done)
  all_goals clear hnc
  all_goals simp only [stepVal, opVal] at h ⊢
  all_goals (repeat' (split at h))
  all_goals (try (simp only [reduceCtorEq] at h; done))
  all_goals (try simp only [Option.map_eq_some_iff, Option.some.injEq, Prod.mk.injEq] at h)
  all_goals first
    | (obtain ⟨rfl, rfl⟩ := h; refine ⟨_, rfl, fun m0 e => ?_⟩; simp [*]; done)
    | (obtain ⟨rfl, rfl⟩ := h; refine ⟨_, rfl, fun m0 e => ?_⟩; simp_all; done)
    | skip

/-- What makes boxes looks at none; what is made lies behind what was there. -/
theorem stepVal_fresh {n : Nat} {op : AOp} (hcf : CfOk P (callF E n)) (hc : clOf E op = .make) (h : stepVal (callF E n) s m op = some (v, m')) : ∃ sub : Tr Box, m.next ≤ m'.next ∧ (∀ id, m'.heap.get id = if m.next ≤ id ∧ id < m'.next then sub.get id else m.heap.get id) ∧
    stepVal (callF E n) s ⟨.nil, m.next, m.next⟩ op = some (v, ⟨sub, m'.next, m.next⟩) := by
  have hg := (stepVal_grow hcf h).next
  by_cases hcall : ∃ f asq, op = .call f asq
  · obtain ⟨f, asq, rfl⟩ := hcall
    simp only [clOf] at hc
    split at hc
    · rename_i g
      split at hc
      · simp at hc
      · rename_i hmode
        simp only [stepVal, Arg.get] at h ⊢
        split at h
        · rename_i g' x y vs e1 e2
          simp only [Option.some.injEq, AVal.fn.injEq] at e1
          obtain ⟨rfl, rfl, rfl⟩ := e1
          cases n with
          | zero => simp [callF] at h
          | succ n =>
            simp only [callF, hmode] at h ⊢
            split at h
            · simp at h
            · rename_i fn hfn
              split at h
              · rename_i hb
                split at h
                · rename_i v1 m1 hbd
                  simp only [Option.some.injEq, Prod.mk.injEq] at h
                  obtain ⟨rfl, rfl⟩ := h
                  simp only at hg
                  have hlen : m.next + (m1.next - m.next) = m1.next := by omega
                  refine ⟨mergeNew .nil m1.heap m.next (m1.next - m.next), hg, fun id => ?_, ?_⟩
                  · rw [mergeNew_get, mergeNew_get, hlen]
                    split
                    · rfl
                    · rfl
                  · rw [if_pos hb]
                · simp at h
              · simp at h
        · simp at h
      · simp at hc
    · simp at hc
  · have hc0 : clOf E op = .make := hc
    obtain ⟨b, rfl, q⟩ := stepVal_make (cf := callF E n) (fun f asq e => hcall ⟨f, asq, e⟩) hc h
    refine ⟨((⟨.nil, m.next, m.next⟩ : Mem).new b).heap, by simp [Mem.new], fun id => ?_, q ⟨.nil, m.next, m.next⟩ rfl⟩
    simp only [Mem.new, Tr.get_set]
    by_cases e : id = m.next
    · rw [if_pos e, if_pos (by omega), if_pos e]
    · rw [if_neg e, if_neg (by omega)]
theorem stepVal_quiet {n : Nat} {op : AOp} (hc : clOf E op = .quiet) (h : stepVal (callF E n) s m op = some (v, m')) : m' = m := by
  cases op <;> simp only [clOf, reduceCtorEq] at hc
  case load g k x => cases x <;> simp at hc
  case call f asq =>
    split at hc
    · rename_i g
      split at hc
      · rename_i frz hmode
        simp only [stepVal, Arg.get] at h
        split at h
        · rename_i g' x y vs e1 e2
          simp only [Option.some.injEq, AVal.fn.injEq] at e1
          obtain ⟨rfl, rfl, rfl⟩ := e1
          cases n with
          | zero => simp [callF] at h
          | succ n =>
            simp only [callF, hmode] at h
            (repeat' (split at h)) <;> simp only [Option.some.injEq, Prod.mk.injEq, reduceCtorEq] at h <;> exact h.2.symm
        · simp at h
      · simp at hc
      · simp at hc
    · simp at hc

theorem stillFrom_spec {b : AO} : ∀ {l : List AO} {i : Nat}, stillFrom E b i l = true → ∀ (j : Nat) a, l[j]? = some a → b.after.testBit (i + j) = true ∨ stillPair E a b = true
  | [], i, h, j, a, ha => by simp at ha
  | x :: r, i, h, j, a, ha => by
    unfold stillFrom at h
    simp only [Bool.and_eq_true, Bool.or_eq_true] at h
    cases j with
    | zero => simp at ha; subst ha; exact h.1
    | succ j =>
      have := stillFrom_spec h.2 j a (by simpa using ha)
      rw [show i + (j + 1) = i + 1 + j by omega]
      exact this
theorem stillAll_spec {ops : List AO} : ∀ {l : List AO} {j : Nat}, stillAll E ops l j = true → ∀ (k : Nat) b, l[k]? = some b → ∀ (i : Nat) a, i < j + k → ops[i]? = some a → b.after.testBit i = true ∨ stillPair E a b = true
  | [], j, h, k, b, hb => by simp at hb
  | x :: r, j, h, k, b, hb => by
    unfold stillAll at h
    simp only [Bool.and_eq_true] at h
    cases k with
    | zero =>
      simp at hb
      subst hb
      intro i a hi ha
      have := stillFrom_spec h.1 i a (by rw [List.getElem?_take, if_pos (by omega)]; exact ha)
      simpa using this
    | succ k =>
      intro i a hi ha
      exact stillAll_spec h.2 k b (by simpa using hb) i a (by omega) ha

/-- What an operation of such a region does; 'Tag': what its kind says of it. -/
structure Tag (E : Env) (o : AO) (e : Eff) : Prop where
  see : e.see = true → clOf E o.op = .quiet ∨ clOf E o.op = .whole
  all : e.all = true → clOf E o.op = .whole
  wr : e.wr = false
  new : e.lo < e.hi → clOf E o.op = .make ∨ clOf E o.op = .whole
  ids : ∀ id ∈ e.ids, clOf E o.op = .read
  lt : ∀ id ∈ e.ids, id < e.lo
  reads : e.reads = slotsOf o

theorem arg_slots {a : Arg} {s t : Tr AVal} (h : ∀ x ∈ a.slots, s.get x = t.get x) : a.get s = a.get t := by
  cases a with
  | t i => exact h i (by simp [Arg.slots])
  | k v => rfl

theorem args_slots {o : AO} {s : Tr AVal} : ∀ a ∈ o.op.args, a.get s = a.get (restrict s (slotsOf o)) := by
  intro a ha
  refine arg_slots fun x hx => ?_
  rw [restrict_get, if_pos]
  unfold slotsOf
  exact List.mem_append_right _ (List.mem_flatMap.2 ⟨a, ha, hx⟩)
theorem wanted_slots {o : AO} {s : Tr AVal} : wantedA (restrict s (slotsOf o)) o.guard = wantedA s o.guard := by
  unfold wantedA
  cases hg : o.guard with
  | none => rfl
  | some g =>
    obtain ⟨d, b⟩ := g
    cases d with
    | none => rfl
    | some d =>
      have : (restrict s (slotsOf o)).get d = s.get d := by
        rw [restrict_get, if_pos]
        unfold slotsOf
        rw [hg]
        exact List.mem_append_left _ (by simp)
      simp only [this]

theorem load_ids {n : Nat} {o : AO} (hc : clOf E o.op = .read) {s : Tr AVal} (h : stepVal (callF E n) s m o.op = some (v, m')) :
    ∃ ids : List Nat, (∀ id ∈ ids, id < m.next ∧ ∃ x y, x ∈ slotsOf o ∧ s.get x = some y ∧ id ∈ y.id?) ∧ m' = m ∧ ∀ m0 : Mem, m0.next = m.next → (∀ id ∈ ids, m0.heap.get id = m.heap.get id) → stepVal (callF E n) s m0 o.op = some (v, m0) := by
  cases ho : o.op <;> rw [ho] at hc h <;> simp only [clOf, reduceCtorEq] at hc
  case call f asq => split at hc <;> (try split at hc) <;> simp at hc
  case load g k x =>
    simp only [stepVal, opVal] at h ⊢
    split at h
    · rename_i id off hx
      split at h
      · rename_i cs hcs
        split at h
        · rename_i r hr
          simp only [Option.map_eq_some_iff, Prod.mk.injEq] at h
          obtain ⟨y, hy, rfl, rfl⟩ := h
          cases x with
          | k z => simp at hc
          | t i =>
            refine ⟨[id], fun j hj => ?_, rfl, fun m0 hn hm => ?_⟩
            · simp at hj
              subst hj
              refine ⟨cells_lt hcs, i, _, ?_, hx, by simp [AVal.id?]⟩
              unfold slotsOf
              rw [ho]
              exact List.mem_append_right _ (by simp [AOp.args, Arg.slots])
            · have : m0.cells id = some cs := by
                rw [← hcs]
                unfold Mem.cells
                rw [hn, hm id (by simp)]
              simp [hx, this, hr, hy]
        · simp at h
      · simp at h
    · rename_i cs hx
      split at h
      · rename_i r hr
        simp only [Option.map_eq_some_iff, Prod.mk.injEq] at h
        obtain ⟨y, hy, rfl, rfl⟩ := h
        exact ⟨[], fun i hi => by simp at hi, rfl, fun m0 hn hm => by simp [hx, hr, hy]⟩
      · simp at h
    · simp at h

theorem still_eff {n : Nat} {o : AO} {s s1 : St} (hcf : CfOk P (callF E n)) (h : stepO (callF E n) o s = some s1) : ∃ e : Eff, Tag E o e ∧ e.lo = s.mem.next ∧ e.hi = s1.mem.next ∧ e.lo ≤ e.hi ∧
    (∀ t, s1.slots.get t = if Eff.hit t e then some e.v else s.slots.get t) ∧ (∀ id, s1.mem.heap.get id = if Eff.cov id e then e.sub.get id else s.mem.heap.get id) ∧
    Did (callF E n) o e s.slots.get s.mem.heap.get ∧ (∀ id ∈ e.ids, ∃ x v, x ∈ e.reads ∧ s.slots.get x = some v ∧ id ∈ v.id?) := by
  have hslot : ∀ (v : AVal) t, (setDst s.slots o.dst v).get t = if (o.dst == some t) = true then some v else s.slots.get t := by
    intro v t
    cases hd : o.dst with
    | none => simp [setDst]
    | some d =>
      simp only [setDst, Tr.get_set]
      by_cases k : t = d
      · subst k; simp
      · rw [if_neg k, if_neg (by simpa using fun h => k h.symm)]
  have ht : ∀ x a, (restrict s.slots (slotsOf o)).get x = some a → x ∈ slotsOf o ∧ s.slots.get x = some a := by
    intro x a hx
    rw [restrict_get] at hx
    split at hx
    · exact ⟨by assumption, hx⟩
    · simp at hx
  unfold stepO at h
  split at h
  · rename_i hw
    rw [← wanted_slots] at hw
    split at h
    · rename_i v m' hv
      simp only [Option.some.injEq] at h
      subst h
      have hg := stepVal_grow hcf hv
      have hvt : stepVal (callF E n) (restrict s.slots (slotsOf o)) s.mem o.op = some (v, m') := by rw [← stepVal_congr args_slots]; exact hv
      cases hc : clOf E o.op with
      | pure =>
        obtain ⟨rfl, q⟩ := stepVal_pure hc hvt ⟨.nil, s.mem.next, s.mem.next⟩
        refine ⟨⟨o.dst, v, slotsOf o, [], false, s.mem.next, s.mem.next, s.mem.next, .nil, o.after, false, false⟩, ⟨by simp, by simp, rfl, by simp, by simp, by simp, rfl⟩, rfl, rfl, Nat.le_refl _, hslot v, fun id => ?_, ⟨rfl, rfl, by simp, _, ht, .inl ⟨hw, _, _, q, rfl, rfl, .inl ⟨rfl, rfl, rfl, by simp, rfl, fun id => by simp [Tr.get_nil]⟩⟩⟩, by simp⟩
        rw [if_neg (by simp only [Eff.cov]; simp <;> omega)]
      | read =>
        obtain ⟨ids, q1, rfl, q2⟩ := load_ids hc hvt
        refine ⟨⟨o.dst, v, slotsOf o, ids, false, s.mem.next, s.mem.next, s.mem.next, restrict s.mem.heap ids, o.after, false, false⟩, ⟨by simp, by simp, rfl, by simp, fun _ _ => hc, fun id hid => (q1 id hid).1, rfl⟩, rfl, rfl, Nat.le_refl _, hslot v, fun id => ?_,
          ⟨rfl, rfl, fun id hid => (q1 id hid).1, _, ht, .inl ⟨hw, ⟨restrict s.mem.heap ids, s.mem.next, s.mem.next⟩, _, q2 _ rfl (fun id hid => by rw [restrict_get, if_pos hid]), rfl, rfl, .inl ⟨rfl, rfl, rfl, by simp, rfl, fun id => restrict_get _ _ _⟩⟩⟩, fun id hid => ?_⟩
        · rw [if_neg (by simp only [Eff.cov]; simp <;> omega)]
        · obtain ⟨_, x, y, k1, k2, k3⟩ := q1 id hid
          exact ⟨x, y, k1, (ht x y k2).2, k3⟩
      | make =>
        obtain ⟨sub, q1, q2, q3⟩ := stepVal_fresh hcf hc hvt
        refine ⟨⟨o.dst, v, slotsOf o, [], false, s.mem.next, m'.next, s.mem.next, sub, o.after, false, false⟩, ⟨by simp, by simp, rfl, fun _ => .inl hc, by simp, by simp, rfl⟩, rfl, rfl, q1, hslot v, fun id => ?_,
          ⟨rfl, rfl, by simp, _, ht, .inl ⟨hw, ⟨.nil, s.mem.next, s.mem.next⟩, _, q3, rfl, rfl, .inl ⟨rfl, rfl, rfl, by simp, rfl, fun id => by simp [Tr.get_nil]⟩⟩⟩, by simp⟩
        rw [q2]
        by_cases e : s.mem.next ≤ id ∧ id < m'.next
        · rw [if_pos e, if_pos (by simp only [Eff.cov]; simp; omega)]
        · rw [if_neg e, if_neg (by simp only [Eff.cov]; simp; omega)]
      | quiet =>
        have hq := stepVal_quiet hc hvt
        subst hq
        refine ⟨⟨o.dst, v, slotsOf o, [], false, s.mem.next, s.mem.next, s.mem.next, .nil, o.after, true, false⟩, ⟨fun _ => .inl hc, by simp, rfl, by simp, by simp, by simp, rfl⟩, rfl, rfl, Nat.le_refl _, hslot v, fun id => ?_,
          ⟨rfl, rfl, by simp, _, ht, .inl ⟨hw, s.mem, _, hvt, rfl, rfl, .inr ⟨rfl, fun _ => rfl, .inr ⟨rfl, rfl, rfl, rfl⟩⟩⟩⟩, by simp⟩
        rw [if_neg (by simp only [Eff.cov]; simp <;> omega)]
      | whole =>
        refine ⟨⟨o.dst, v, slotsOf o, [], false, s.mem.next, m'.next, s.mem.next, m'.heap, o.after, true, true⟩, ⟨fun _ => .inr hc, fun _ => hc, rfl, fun _ => .inr hc, by simp, by simp, rfl⟩, rfl, rfl, hg.next, hslot v, fun id => ?_,
          ⟨rfl, rfl, by simp, _, ht, .inl ⟨hw, s.mem, _, hvt, rfl, rfl, .inr ⟨rfl, fun _ => rfl, .inl ⟨rfl, rfl⟩⟩⟩⟩, by simp⟩
        rw [if_pos (by simp [Eff.cov])]
    · simp at h
  · rename_i hw
    rw [← wanted_slots] at hw
    simp only [Option.some.injEq] at h
    subst h
    refine ⟨⟨o.dst, .tup [], slotsOf o, [], false, s.mem.next, s.mem.next, s.mem.next, .nil, o.after, false, false⟩, ⟨by simp, by simp, rfl, by simp, by simp, by simp, rfl⟩, rfl, rfl, Nat.le_refl _, hslot _, fun id => ?_, ⟨rfl, rfl, by simp, _, ht, .inr ⟨hw, rfl, rfl, rfl, rfl⟩⟩, by simp⟩
    rw [if_neg (by simp only [Eff.cov]; simp <;> omega)]
  · simp at h

theorem still_spec {n : Nat} (hcf : CfOk P (callF E n)) : ∀ (l : List AO) (s s' : St), stepOs (callF E n) l s = some s' → ∃ es : List Eff, es.length = l.length ∧
    (∀ t, s'.slots.get t = slotD es s (fun _ => true) t) ∧ (∀ id, s'.mem.heap.get id = heapD es s (fun _ => true) id) ∧
    (∀ (i : Nat) e o, es[i]? = some e → l[i]? = some o → Tag E o e ∧ Did (callF E n) o e (slotD es s fun j => decide (j < i)) (heapD es s fun j => decide (j < i)) ∧
      ∀ id ∈ e.ids, ∃ x v, x ∈ e.reads ∧ slotD es s (fun j => decide (j < i)) x = some v ∧ id ∈ v.id?) ∧
    (∀ (i : Nat) e, es[i]? = some e → s.mem.next ≤ e.lo ∧ e.lo ≤ e.hi ∧ e.hi ≤ s'.mem.next ∧ ∀ (j : Nat) e', i < j → es[j]? = some e' → e.hi ≤ e'.lo)
  | [], s, s', h => by
    simp only [stepOs, Option.some.injEq] at h
    subst h
    exact ⟨[], rfl, fun t => rfl, fun id => rfl, fun i e o hi => by simp at hi, fun i e hi => by simp at hi⟩
  | o :: l, s, s', h => by
    unfold stepOs at h
    split at h
    · rename_i s1 h1
      obtain ⟨e, htag, elo, ehi, hle, hsl, hhp, hdid, hids⟩ := still_eff hcf h1
      obtain ⟨es', k1, k3, k4, k5, k6⟩ := still_spec hcf l s1 s' h
      have hslot : ∀ (D : Nat → Bool) t, D 0 = true → slotD es' s1 (fun j => D (j + 1)) t = slotD (e :: es') s D t := by
        intro D t h0
        unfold slotD
        rw [hsl]
        conv => rhs; unfold lastV
        rw [h0, Bool.true_and]
      have hheap : ∀ (D : Nat → Bool) id, D 0 = true → heapD es' s1 (fun j => D (j + 1)) id = heapD (e :: es') s D id := by
        intro D t h0
        unfold heapD
        rw [hhp]
        conv => rhs; unfold lastV
        rw [h0, Bool.true_and]
      have hd : ∀ i : Nat, (fun j => (fun j => decide (j < i + 1)) (j + 1)) = fun j => decide (j < i) := fun i => by funext j; simp
      refine ⟨e :: es', by simp [k1], fun t => (k3 t).trans (hslot (fun _ => true) t rfl), fun id => (k4 id).trans (hheap (fun _ => true) id rfl), fun i x ox hi hl => ?_, fun i x hi => ?_⟩
      · cases i with
        | zero =>
          simp at hi hl
          subst hi hl
          have e1 : (slotD (e :: es') s fun j => decide (j < 0)) = s.slots.get := funext fun t => lastV_none _ _ _ fun j y hy hd => by simp at hd
          have e2 : (heapD (e :: es') s fun j => decide (j < 0)) = s.mem.heap.get := funext fun t => lastV_none _ _ _ fun j y hy hd => by simp at hd
          rw [e1, e2]
          exact ⟨htag, hdid, hids⟩
        | succ i =>
          obtain ⟨q1, q2, q3⟩ := k5 i x ox (by simpa using hi) (by simpa using hl)
          have e1 : (slotD es' s1 fun j => decide (j < i)) = (slotD (e :: es') s fun j => decide (j < i + 1)) := funext fun t => by
            rw [← hslot _ t (by simp), hd i]
          have e2 : (heapD es' s1 fun j => decide (j < i)) = (heapD (e :: es') s fun j => decide (j < i + 1)) := funext fun t => by
            rw [← hheap _ t (by simp), hd i]
          rw [e1, e2] at q2
          rw [e1] at q3
          exact ⟨q1, q2, q3⟩
      · have hg := stepOs_grow hcf h
        cases i with
        | zero =>
          simp at hi
          subst hi
          refine ⟨by omega, hle, by have := hg.next; omega, fun j y hj hy => ?_⟩
          cases j with
          | zero => omega
          | succ j => exact ehi ▸ (k6 j y (by simpa using hy)).1
        | succ i =>
          obtain ⟨q1, q2, q4, q3⟩ := k6 i x (by simpa using hi)
          refine ⟨by omega, q2, q4, fun j y hj hy => ?_⟩
          cases j with
          | zero => omega
          | succ j => exact q3 j y (by omega) (by simpa using hy)
    · simp at h

theorem still_laid {n : Nat} (hcf : CfOk P (callF E n)) {l : List AO} {s s' : St} (hst : still E l = true) (h : stepOs (callF E n) l s = some s') : ∃ es, Laid (callF E n) l s s' es := by
  obtain ⟨es, k1, k3, k4, k5, k6⟩ := still_spec hcf l s s' h
  refine ⟨es, k1, stepOs_grow hcf h, k3, k4, fun i e o hi hl => (k5 i e o hi hl).2.1, k6, fun i k a b hik ha hb => ?_⟩
  have hat : ∀ (i : Nat) e, es[i]? = some e → ∃ o, l[i]? = some o := fun i e hi => by
    have : i < l.length := by have := (List.getElem?_eq_some_iff.1 hi).1; omega
    exact ⟨l[i], by simp [this]⟩
  obtain ⟨oa, hoa⟩ := hat i a ha
  obtain ⟨ob, hob⟩ := hat k b hb
  obtain ⟨ta, da, ia⟩ := k5 i a oa ha hoa
  obtain ⟨tb, db, ib⟩ := k5 k b ob hb hob
  obtain ⟨r1, r2, r4, r3⟩ := k6 i a ha
  have r3 := r3 k b hik hb
  rcases stillAll_spec hst k ob hob i oa (by omega) hoa with hbit | hp
  · left
    rw [db.after]
    exact hbit
  · right
    unfold stillPair at hp
    simp only [Bool.and_eq_true] at hp
    obtain ⟨⟨p1, p2⟩, p3⟩ := hp
    have hcov : ∀ {o : AO} {e : Eff} {id : Nat}, Tag E o e → Eff.cov id e = true → (e.all = true ∧ clOf E o.op = .whole) ∨ (e.lo ≤ id ∧ id < e.hi ∧ (clOf E o.op = .make ∨ clOf E o.op = .whole)) := by
      intro o e id ht hc
      simp only [Eff.cov, ht.wr, Bool.false_and, Bool.or_false, Bool.or_eq_true, Bool.and_eq_true, decide_eq_true_eq] at hc
      rcases hc with c | c
      · exact .inl ⟨c, ht.all c⟩
      · exact .inr ⟨c.1, c.2, ht.new (by omega)⟩
    refine ⟨fun d hd => ?_, fun d hd => ?_, fun id hid hc => ?_, fun id hid => ?_, fun id hid => ?_⟩
    · rw [da.dst] at hd
      rw [hd] at p1
      rw [tb.reads, db.dst]
      simpa using p1
    · rw [db.dst] at hd
      rw [hd] at p2
      rw [ta.reads]
      simpa using p2
    · have hb' : clOf E ob.op = .quiet ∨ clOf E ob.op = .whole ∨ (clOf E ob.op = .read ∧ id ∈ b.ids) := by
        rcases hid with h | h
        · rcases tb.see h with k | k
          · exact .inl k
          · exact .inr (.inl k)
        · exact .inr (.inr ⟨tb.ids id h, h⟩)
      rcases hcov ta hc with ⟨_, c⟩ | ⟨c1, c2, c⟩
      · exfalso
        rcases hb' with k | k | ⟨k, _⟩ <;> rw [c, k] at p3 <;> simp [Cl.free] at p3
      · rcases c with c | c
        · rcases hb' with k | k | ⟨k, k'⟩
          · rw [c, k] at p3; simp [Cl.free] at p3
          · rw [c, k] at p3; simp [Cl.free] at p3
          · exact ⟨c1, c2, ib id k'⟩
        · exfalso
          rcases hb' with k | k | ⟨k, _⟩ <;> rw [c, k] at p3 <;> simp [Cl.free] at p3
    · rw [← Bool.not_eq_true]
      intro hc
      have ha' : clOf E oa.op = .quiet ∨ clOf E oa.op = .whole ∨ (clOf E oa.op = .read ∧ id < a.lo) := by
        rcases hid with h | h
        · rcases ta.see h with k | k
          · exact .inl k
          · exact .inr (.inl k)
        · exact .inr (.inr ⟨ta.ids id h, ta.lt id h⟩)
      rcases hcov tb hc with ⟨_, c⟩ | ⟨c1, c2, c⟩
      · rcases ha' with k | k | ⟨k, _⟩ <;> rw [c, k] at p3 <;> simp [Cl.free] at p3
      · rcases c with c | c
        · rcases ha' with k | k | ⟨k, k'⟩
          · rw [c, k] at p3; simp [Cl.free] at p3
          · rw [c, k] at p3; simp [Cl.free] at p3
          · omega
        · rcases ha' with k | k | ⟨k, _⟩ <;> rw [c, k] at p3 <;> simp [Cl.free] at p3
    · rw [← Bool.not_eq_true]
      intro hc
      rcases hcov ta hid with ⟨_, c⟩ | ⟨c1, c2, c⟩ <;> rcases hcov tb hc with ⟨_, d⟩ | ⟨d1, d2, d⟩
      · rw [c, d] at p3; simp [Cl.free] at p3
      · rcases d with d | d <;> rw [c, d] at p3 <;> simp [Cl.free] at p3
      · rcases c with c | c <;> rw [c, d] at p3 <;> simp [Cl.free] at p3
      · omega
end
end Go.Am
