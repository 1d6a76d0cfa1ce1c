/- The abstract machine, part 15: regions whose order is drawn: every order. -/
import Derived.Test.YtfaphhcloanhnaaAmDraw2
set_option linter.unusedSimpArgs false
set_option linter.unusedVariables false
namespace Go.Am

section
variable {P : Program} {cf : CallF} {ι : Inj} {S : Nat → Prop} {w : World}

theorem compOs_get {nt : Nat} {ops : Array Oper} {bf : Array Nat} : ∀ (rest : List Oper) (i : Nat) (l : List AO), compOs P nt ops bf i rest = some l →
    l.length = rest.length ∧ ∀ (j : Nat) o, rest[j]? = some o → ∃ ao, l[j]? = some ao ∧ compAO P nt ops bf (i + j) o = some ao
  | [], i, l, h => by
    simp [compOs] at h
    subst h
    exact ⟨rfl, fun j o ho => by simp at ho⟩
  | o :: r, i, l, h => by
    unfold compOs at h
    split at h
    · rename_i ao l' h1 h2
      simp only [Option.some.injEq] at h
      subst h
      obtain ⟨k1, k2⟩ := compOs_get r (i + 1) l' h2
      refine ⟨by simp [k1], fun j x hx => ?_⟩
      cases j with
      | zero => simp at hx; subst hx; exact ⟨ao, rfl, h1⟩
      | succ j =>
        obtain ⟨a2, g1, g2⟩ := k2 j x (by simpa using hx)
        exact ⟨a2, by simpa using g1, by rw [show i + (j + 1) = i + 1 + j by omega]; exact g2⟩
    · simp at h

theorem okEdges_spec {ops : Array Oper} (h : okEdges ops = true) {i : Nat} {o : Oper} (ho : ops[i]? = some o) : ∀ e ∈ o.after, Region.binds .any e = true → e.on < i := by
  intro e he hb
  unfold okEdges at h
  have hm : (o, i) ∈ ops.toList.zipIdx := List.mk_mem_zipIdx_iff_getElem?.2 (by simpa using ho)
  have := List.all_eq_true.1 h _ hm
  simp only [Array.all_eq_true_iff_forall_mem] at this
  have := this e he
  rw [hb] at this
  simpa using this
theorem okAfter_spec {ops : Array Oper} {bf : Array Nat} (h : okAfter ops bf = true) {i : Nat} {o : Oper} (ho : ops[i]? = some o) {k : Nat} (hk : k < ops.size) (ht : (bf.getD i 0).testBit k = true) :
    ∃ e ∈ o.after, Region.binds .any e = true ∧ (e.on = k ∨ (bf.getD e.on 0).testBit k = true) := by
  unfold okAfter at h
  have hm : (o, i) ∈ ops.toList.zipIdx := List.mk_mem_zipIdx_iff_getElem?.2 (by simpa using ho)
  have := List.all_eq_true.1 h _ hm
  have := List.all_eq_true.1 this k (List.mem_range.2 hk)
  simp only at this
  rw [ht] at this
  simp only [Bool.not_true, Bool.false_or] at this
  obtain ⟨e, he, hb⟩ := Array.any_eq_true'.1 this
  simp only [Bool.and_eq_true, Bool.or_eq_true, beq_iff_eq] at hb
  exact ⟨e, he, hb.1, hb.2⟩

theorem drawn_any (hcf : CfOk P cf) {nt : Nat} {ops : Array Oper} {l : List AO} {s s' : St} {es : List Eff} {Q : Exit → Act → World → Prop} {ι0 : Inj} {S0 : Nat → Prop} {w0 : World}
    (hL : Laid cf l s s' es) (hf : ∀ id, s.mem.next ≤ id → id < s'.mem.next → ι0 id = none) (hco : compOs P nt ops (Region.before ops) 0 ops.toList = some l)
    (hE : okEdges ops = true) (hA : okAfter ops (Region.before ops) = true)
    (K : ∀ a' w' ι' S', Mid es s nt ι0 S0 w0 (fun _ => true) ι' S' w' a' → Q .normal a' w') :
    ∀ (fuel : Nat) (listed : Array Bool) (u : List Nat) (ι : Inj) (S : Nat → Prop) (w : World) (a : Act), u.length ≤ fuel → (∀ j, j < ops.size → listed.getD j false = false → j ∈ u) →
      listed.size = ops.size → Mid es s nt ι0 S0 w0 (fun j => listed.getD j false) ι S w a → Closed es (fun j => listed.getD j false) → wpAny P .any ops Q fuel listed a w := by
  obtain ⟨hl1, hl2⟩ := compOs_get _ _ _ hco
  have hlen : es.length = ops.size := by rw [hL.len, hl1]; simp
  have hun : ∀ (listed : Array Bool), listed.size = ops.size → ∀ j, listed.getD j true = false → listed.getD j false = false ∧ j < ops.size := by
    intro listed hsz j hj
    have : j < listed.size := by
      apply Classical.byContradiction
      intro h
      simp [Array.getElem?_eq_none (Nat.le_of_not_lt h)] at hj
    exact ⟨by simpa [this] using hj, by omega⟩
  -- none is ready: all have been done
  have hall : ∀ (listed : Array Bool), listed.size = ops.size → Region.ready .any ops listed = [] → ∀ j, j < ops.size → listed.getD j false = true := by
    intro listed hsz hr j
    induction j using Nat.strongRecOn with
    | ind j ih =>
      intro hj
      apply Classical.byContradiction
      intro hne
      have hne' : listed.getD j false = false := by simpa using hne
      have : j ∈ Region.ready .any ops listed := by
        refine mem_ready.2 ⟨?_, ops[j], by simp [hj], fun e he hb => ?_⟩
        · have : j < listed.size := by omega
          simpa [this] using hne'
        · have := okEdges_spec hE (i := j) (o := ops[j]) (by simp [hj]) e he hb
          exact ih _ this (by omega)
      rw [hr] at this
      cases this
  have hend : ∀ (listed : Array Bool) (ι : Inj) (S : Nat → Prop) (w : World) (a : Act), Mid es s nt ι0 S0 w0 (fun j => listed.getD j false) ι S w a → (∀ j, j < ops.size → listed.getD j false = true) → Q .normal a w := by
    intro listed ι S w a hM hd
    have h1 : ∀ t, slotD es s (fun j => listed.getD j false) t = slotD es s (fun _ => true) t := fun t => lastV_congr _ _ _ _ fun j x hx _ => hd j (by have := (List.getElem?_eq_some_iff.1 hx).1; omega)
    have h2 : ∀ t, heapD es s (fun j => listed.getD j false) t = heapD es s (fun _ => true) t := fun t => lastV_congr _ _ _ _ fun j x hx _ => hd j (by have := (List.getElem?_eq_some_iff.1 hx).1; omega)
    refine K a w ι S ⟨fun t x h => hM.slots t x ((h1 t).trans h), hM.mem.less fun id bx h => (h2 id).trans h, hM.size, hM.defers, hM.inj, fun id hne => ?_, hM.prot, hM.fresh, hM.step, fun b hb k => ?_⟩
    · rcases hM.news id hne with k | ⟨j, e, k1, k2⟩
      · exact .inl k
      · exact .inr ⟨j, e, rfl, k2⟩
    · obtain ⟨id, bx, o, g1, g2⟩ := k
      exact hM.own b hb ⟨id, bx, o, (h2 id).trans g1, g2⟩
  intro fuel
  induction fuel with
  | zero =>
    intro listed u ι S w a hu hul hsz hM hc
    have hd : ∀ j, j < ops.size → listed.getD j false = true := by
      intro j hj
      apply Classical.byContradiction
      intro hne
      have := hul j hj (by simpa using hne)
      have : u = [] := List.length_eq_zero_iff.1 (by omega)
      subst this
      simp at *
    refine ⟨?_, hend listed ι S w a hM hd⟩
    apply List.eq_nil_iff_forall_not_mem.2
    intro j hj
    obtain ⟨h0, _⟩ := mem_ready.1 hj
    obtain ⟨h1, h2⟩ := hun listed hsz j h0
    rw [hd j h2] at h1
    cases h1
  | succ fuel ih =>
    intro listed u ι S w a hu hul hsz hM hc
    refine ⟨fun hr => hend listed ι S w a hM (hall listed hsz hr), fun i hi => ?_⟩
    obtain ⟨h0, o, ho, hedge⟩ := mem_ready.1 hi
    obtain ⟨h1, hilt⟩ := hun listed hsz i h0
    obtain ⟨ao, hao, hcao⟩ := hl2 i o (by simpa using ho)
    rw [Nat.zero_add] at hcao
    have hie : i < es.length := by omega
    have hes : es[i]? = some es[i] := by simp [hie]
    have e4 := (hL.at_ i _ ao hes hao).after
    obtain ⟨_, _, _, _, c5⟩ := compAO_spec hcao
    have hbits : ∀ (j : Nat) x, es[j]? = some x → x.after = (Region.before ops).getD j 0 := by
      intro j x hx
      have hjl : j < ops.size := by have := (List.getElem?_eq_some_iff.1 hx).1; omega
      obtain ⟨ao', g1, g2⟩ := hl2 j ops[j] (by simp [hjl])
      rw [Nat.zero_add] at g2
      have q4 := (hL.at_ j x ao' hx g1).after
      obtain ⟨_, _, _, _, q5⟩ := compAO_spec g2
      rw [q4, q5]
    have hb : ∀ k, k < es.length → es[i].after.testBit k = true → (fun j => listed.getD j false) k = true := by
      intro k hk ht
      rw [hbits i _ hes] at ht
      obtain ⟨e, he', hb', hor⟩ := okAfter_spec hA ho (by omega) ht
      have hde := hedge e he' hb'
      rcases hor with q | q
      · subst q
        exact hde
      · have heo := okEdges_spec hE ho e he' hb'
        have hel : e.on < es.length := by omega
        refine hc e.on es[e.on] (by simp [hel]) hde k hk ?_
        rw [hbits e.on es[e.on] (by simp [hel])]
        exact q
    have hins : insD (fun j => listed.getD j false) i = fun j => (listed.setIfInBounds i true).getD j false := by
      funext j
      simp only [insD]
      by_cases hji : j = i
      · subst hji
        have : j < listed.size := by omega
        simp [this]
      · rw [getD_set_ne false (Ne.symm hji)]
        simp [hji]
    refine mid_step hcf hL hf hM hc ho hao hcao hes h1 hb fun a' w' ι' S' hM' => ?_
    rw [hins] at hM'
    refine ih (listed.setIfInBounds i true) (u.erase i) ι' S' w' a' ?_ (fun j hj hne => ?_) (by simp [hsz]) hM' ?_
    · have := hul i hilt h1
      rw [List.length_erase_of_mem this]
      omega
    · have hji : i ≠ j := by
        intro he
        subst he
        have : i < listed.size := by omega
        simp [this] at hne
      rw [getD_set_ne false hji] at hne
      exact (List.mem_erase_of_ne (Ne.symm hji)).2 (hul j hj hne)
    · rw [← hins]
      intro j x hx hd k hk ht
      simp only [insD, Bool.or_eq_true, beq_iff_eq] at hd ⊢
      rcases hd with q | q
      · exact .inl (hc j x hx q k hk ht)
      · subst q
        rw [hes] at hx
        cases hx
        exact .inl (hb k hk ht)

theorem repD (n j : Nat) : (Array.replicate n false).getD j false = false := by
  by_cases h : j < n <;> simp [Array.getElem?_replicate, h]

theorem laid_wp (hcf : CfOk P cf) (hP : P.follows .mixedOrders = true) {nt id : Nat} {ops : Array Oper} {l : List AO} {s s' : St} {Q : Exit → Act → World → Prop} {a : Act}
    (hco : compOs P nt ops (Region.before ops) 0 ops.toList = some l) (hE : okEdges ops = true) (hA : okAfter ops (Region.before ops) = true)
    {es : List Eff} (hL : Laid cf l s s' es) (hr : StRel ι S w s a nt) (hf : ∀ id, s.mem.next ≤ id → id < s'.mem.next → ι id = none)
    (K : ∀ a' w' ι' S', Sp ι S s.mem w s'.mem ι' S' w' → StRel ι' S' w' s' a' nt → Q .normal a' w') : (Code.region id ops true).wp P Q a w := by
  refine wp_region_any hP ?_
  have hslot : ∀ t, slotD es s (fun j => (Array.replicate ops.size false).getD j false) t = s.slots.get t := fun t => lastV_none _ _ _ fun j x hx hd => by rw [repD] at hd; cases hd
  have hheap : ∀ t, heapD es s (fun j => (Array.replicate ops.size false).getD j false) t = s.mem.heap.get t := fun t => lastV_none _ _ _ fun j x hx hd => by rw [repD] at hd; cases hd
  have hd0 : WStep (Own ι s.mem.heap.get) w { w with drawn := w.drawn + 1 } := WStep.drawn_ _ _ _
  refine drawn_any hcf hL hf hco hE hA (fun a' w' ι' S' hM => ?_) ops.size _ (List.range ops.size) ι S { w with drawn := w.drawn + 1 } a (by simp) (fun j hj _ => List.mem_range.2 hj) (by simp) ?_ (ι0 := ι) (S0 := S) (w0 := w) ?_
  · refine K a' w' ι' S' ⟨hM.inj, fun id hne => ?_, hM.prot, hM.fresh, hM.step, fun b hb k => ?_, hL.grow⟩ ⟨fun t x h => hM.slots t x ((hL.slots t).symm.trans h), hM.mem.less fun id bx h => (hL.heap id).symm.trans h, hM.size, hM.defers⟩
    · rcases hM.news id hne with k | ⟨j, e, k1, k2, k3, k4⟩
      · exact .inl k
      · right
        obtain ⟨r1, r2, r4, r3⟩ := hL.rows j e k2
        omega
    · obtain ⟨id, bx, o, g1, g2⟩ := k
      exact hM.own b hb ⟨id, bx, o, (hL.heap id).symm.trans g1, g2⟩
  · refine ⟨fun t x h => ?_, ?_, hr.size, hr.defers, InjLe.refl _, fun id hne => .inl hne, fun b hb => hb, fun b hb => .inl hb, hd0, fun b hb k => ?_⟩
    · obtain ⟨u, k1, k2⟩ := hr.slots t x ((hslot t).symm.trans h)
      exact ⟨u, k1, k2.up hr.mem (InjLe.refl _) (fun _ h => h) hd0 (fun b hb => hr.mem.notS hb)⟩
    · exact (hr.mem.still (InjLe.refl _) (owned := fun _ => False) (WStep.drawn_ _ _ _) (fun _ _ h => h)).less fun id bx h => (hheap id).symm.trans h
    · obtain ⟨id, bx, o, g1, g2⟩ := k
      exact ⟨id, bx, o, (hheap id).symm.trans g1, g2⟩
  · intro j x hx hd
    simp only [repD] at hd
    cases hd
end
end Go.Am
