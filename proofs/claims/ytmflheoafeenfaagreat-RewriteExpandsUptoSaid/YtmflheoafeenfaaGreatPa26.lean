/- Parts of the proof, joined by program: RwY6, RwY7, RwY8, RwY9. -/
import Derived.Test.YtmflheoafeenfaaGreatPa25
import Derived.Test.YtmflheoafeenfaaGreatPa22
set_option linter.unusedSimpArgs false
set_option linter.unusedVariables false
namespace Go.Proofs.YtmflheoafeenfaaGreat
open Go.Am
set_option maxRecDepth 4000
set_option maxHeartbeats 8000000
variable {L : Hp}
theorem written_any {o : OpD} {iq n : Nat} {cap : Option Nat} (hn : o.qs.length = n) (hpos : 0 < n) (hlt : o.kind = 1 → n ≤ 10) (hl2 : n < 2 ^ 62) : CallO EX f_rewrite_written [.agg (opCells (.sl iq 0 n 1 cap) o)] ((iq, o.qs.map aint) :: L) fun r L' => WrR o L r L' := by
  by_cases hk : o.kind = 1
  · exact written_open hk hn hpos (hlt hk)
  · refine CallO.to (callO_open rfl n_rewrite_written ?_)
    refine bodyO_of (Nat.le_of_ble_eq_true rfl) ?_; generalize ht : argSlots _ 0 .nil = t; have h0 : t.get 0 = some _ := (by rw [← ht]; rfl); clear ht
    repeat (first | intro id | refine goq ?_)
    ((first | apply retO_r | apply retO_n); (focus (exact resq)))
    refine ⟨(id, opCells (.sl iq 0 n 1 cap) o) :: (iq, o.qs.map aint) :: L, by exact subq, [⟨.sl iq 0 n 1 cap, o, [(iq, o.qs.map aint)]⟩], id, _, rfl, by simp, by simp, ?_, ?_, rfl⟩
    · intro p hp
      rw [List.mem_singleton.1 hp]
      exact ⟨.inr ⟨iq, cap, by rw [hn], rfl⟩, by show o.qs.length < _; omega⟩
    · unfold wrO
      rw [if_neg hk]
      rfl
section
variable {E : Env} {L L' : Hp} {t : Tr AVal} {K : Tr AVal → Hp → Prop} {l : List AO} {g : Option (Option Nat × Bool)} {n d k esz i : Nat} {x y : Arg} {v : AVal} {bytes jn j nx : Nat} {cap : Option Nat} {cs nw : List AVal} {B : Hp} {done : List (Nat × Eff)}
theorem oo_pushM (hg : wantedA t g = some true) (hx : x.get t = some v) (hb : BufO esz v cs k B) (hy : y.get t = some (.sl j 0 jn esz cap)) (hr : Rem B L L') (hj : In j nw L') (hl : nw.length = jn * esz) (h0 : 0 < jn) (h1 : nw.all AVal.one = true) (hr1 : (k + jn) * bytes ≤ 140737488355328) (hr2 : k + jn ≤ 140737488355328)
    (h : ∀ id, OpsO E l (t.set d (some (.sl id 0 (k + jn) esz none))) ((id, cs ++ nw) :: L') K) : OpsO E (⟨some d, .append esz bytes x y, g, n⟩ :: l) t L K := ⟨fun m hm => by
  have hm' := hm.perm hr.perm
  have hjc := hm'.right.get hj
  have hsc : sliceCells m esz jn (.sl j 0 jn esz cap) = some nw := by simp only [sliceCells, if_true, hjc]; exact seg_full (by omega)
  cases hb with
  | nil => exact ops_s hg (op_append hx hy .nil rfl hsc (by omega) hr1 hr2 h1 rfl) ((h m.next).ex _ hm'.new)
  | box hl' h1' => exact ops_s hg (op_append hx hy (.room (hm'.get In.here) (seg_full hl') (by omega)) rfl hsc (by omega) hr1 hr2 h1 h1') ((h m.next).ex _ (Ows.new (Ows.drop hm')))⟩
theorem dro_opP (hA : CfAll E) {d a : Nat} {op : AOp} {Lc Lr : Hp} {J : AVal → Hp → Prop} (hr : L.Perm (Lc ++ Lr))
    (hids : ∀ h, idsOf (restrict t (slotsOf ⟨some d, op, none, a⟩)) h op = some (Lc.map (·.1)))
    (hO : OpsO E [⟨some d, op, none, a⟩] t Lc fun t' L' => ∃ v, t'.get d = some v ∧ J v L')
    (ha : ∀ ids wr hi, (∀ i ∈ ids, Named Lc i) → Fresh L nx → apartFrom (fpOf ⟨some d, op, none, a⟩ ids wr nx hi) done = true)
    (h : ∀ v L' ids wr hi, J v L' → (∀ i ∈ ids, Named Lc i) → nx ≤ hi → DrO E (j + 1) ((j, fpOf ⟨some d, op, none, a⟩ ids wr nx hi) :: done) l (t.set d (some v)) (L' ++ Lr) hi K) : DrO E j done (⟨some d, op, none, a⟩ :: l) t L nx K := by
  refine dro_any hA rfl hr (fun m hm => ⟨_, hids _, fun i hi => ?_, fun p hp => List.mem_map.2 ⟨p, hp, rfl⟩⟩) (fun m hm => ?_) ha h
  · obtain ⟨p, hp, rfl⟩ := List.mem_map.1 hi
    exact ⟨p, hp, rfl⟩
  obtain ⟨n, s', h1, L', h2, v, h3, h4⟩ := hO.ex m hm
  simp only [stepOs, stepO, wantedA] at h1
  split at h1
  · rename_i s1 hs1
    split at hs1
    · rename_i v' m' hv
      simp only [Option.some.injEq] at h1 hs1
      subst h1 hs1
      simp only [setDst, Tr.get_set_same, Option.some.injEq] at h3
      subst h3
      refine ⟨n, v', m', ?_, L', h2, h4⟩
      rw [← hv]
      exact (stepVal_congr (args_slots (o := ⟨some d, op, none, a⟩))).symm
    · simp at hs1
  · simp at h1
theorem idsOf_append {u : Tr AVal} {h : Tr Box} {v w : AVal} (hx : x.get u = some v) (hy : y.get u = some w) : idsOf u h (.append esz bytes x y) = some (v.id? ++ w.id?) := by simp only [idsOf, hx, hy]
theorem BufO.ids (h : BufO esz v cs k B) : v.id? = B.map (·.1) := by cases h <;> rfl
end
theorem shut_written {iq n : Nat} {cap : Option Nat} {o : OpD} (h1 : o.qs.length ≤ 1000) : Shut [(iq, o.qs.map aint)] [.fn (.func f_rewrite_written) [] [], .agg (opCells (.sl iq 0 n 1 cap) o)] where
  cells := by
    intro p hp
    rw [List.mem_singleton.1 hp]
    exact cloAll_ints _ _
  vals := by simp [opCells, cloAll, AVal.clo, Named, aint]
  size := by
    rw [unseen_nil]
    simp only [List.map_cons, List.map_nil, wtAll_ints, List.sum_cons, List.sum_nil, opCells, wtAll, AVal.wt, aint]
    omega
  cov := by
    intro ids h1 h2 p hp
    simp only [opCells, cloAll, AVal.clo, and_true, true_and, aint] at h1
    rw [List.mem_singleton.1 hp]
    exact h1
theorem exp_r8 {t : Tr AVal} {i6 i8 iq n : Nat} {cap : Option Nat} {q b : Int} {sD : AVal} {T : List Trip} {BD : Hp} {o : OpD} (h6 : t.get 6 = some (.ptr i6 0)) (h8 : t.get 8 = some (.ptr i8 0)) (hb : BufO 6 sD (tpC T) T.length BD) (hTl : T.length ≤ 100000) (hn : o.qs.length = n) (hpos : 0 < n) (hlt : o.kind = 1 → n ≤ 10) (hl2 : n ≤ 1000) :
    WpO EX (.reg c_rewrite_Expand_r8 true) t ((i6, [aint q, aint b, sD]) :: (BD ++ ((i8, opCells (.sl iq 0 n 1 cap) o) :: (iq, o.qs.map aint) :: L))) (fun ex t' L' => ex = .normal ∧ Keep [1, 2, 3, 6, 25, 26, 27] t t' ∧ ∃ (T2 : List Trip) (id : Nat), TrOk T2 ∧ tpO T2 = wrO o ∧ 0 < T2.length ∧ T2.length ≤ 10 ∧ Am.Sub ((i6, [aint q, aint b, .sl id 0 (T.length + T2.length) 6 none]) :: (id, tpC T ++ tpC T2) :: (tpH T2 ++ L)) L') := by
  have hs1 := hb.isOne
  refine wo_drawn (by kernel_rfl) ?_
  intro nx
  refine dro_fresh ?_
  intro hfr0
  have hne : i6 ≠ iq := by
    intro e
    have := hfr0.1
    simp only [List.map_cons, List.map_append, List.nodup_cons, List.mem_append, List.mem_cons] at this
    exact this.1 (.inr (.inr (.inl e)))
  clear hfr0
  repeat (refine goz ?_)
  refine dro_callO EX_all (b1 := []) (b2 := []) (vs := [.agg (opCells (.sl iq 0 n 1 cap) o)]) (Lc := [(iq, o.qs.map aint)]) (J := fun r L' => WrR o [] r L') (argAll_cons rfl (argAll_cons (by exact rslotq) argAll_nil)) (by exact remq) (shut_written (by omega)) (written_any hn hpos hlt (by omega)) ?_ ?_
  · intro ids wr hi hnm hfr
    refine apart_bit (by decide) (apart_not (by decide) (any_sep ?_ _) (any_none _ _) (apart_not (by decide) (by simp) (any_none _ _) apart_nil))
    intro i hi1 hi2
    obtain ⟨p, hp, e⟩ := hnm i hi2
    rw [List.mem_singleton.1 hp] at e
    rw [List.mem_singleton.1 hi1] at e
    exact hne e.symm
  rintro v L' ids wr hi ⟨T2, ir, cp, rfl, k0, k1, k2, k3, rfl⟩ - -
  refine DrO.weak (A := (BD ++ [(ir, tpC T2)]) ++ (tpH T2 ++ ((i6, [aint q, aint b, sD]) :: L))) ?_ (by simp only [List.append_nil, List.append_assoc, List.cons_append, List.nil_append]; exact subq)
  refine dro_opP EX_all (J := fun v L' => ∃ id, v = .sl id 0 (T.length + T2.length) 6 none ∧ L' = [(id, tpC T ++ tpC T2)]) (List.Perm.refl _) (fun h => ?_) ?_ (fun ids wr hi _ hfr => by exact aptq) ?_
  · rw [idsOf_append (v := sD) (w := .sl ir 0 T2.length 6 cp) (by exact rslotq) (by exact rslotq), BufO.ids hb]
    simp [AVal.id?]
  · refine oo_pushM wanted_none (by exact slotq) hb (by exact slotq) Rem.here .here (tpC_len T2) k0 (tpC_all k2) (by omega) (by omega) ?_
    intro id
    exact OpsO.weak (A := [(id, tpC T ++ tpC T2)]) (oo_nil ⟨_, by exact slotq, id, rfl, rfl⟩) (by exact subq)
  rintro v L' ids2 wr2 hi2 ⟨id, rfl, rfl⟩ - -
  repeat (refine goz ?_)
  refine ⟨rfl, by exact keepq, T2, id, k2, k3, k0, k1, ?_⟩
  exact subq
/-- The loop over the operations of a copy. -/
theorem expand_l0 {i6 ic : Nat} {q b : Int} {os : List OpD} (hos : os.length ≤ 10000) (hne : ∀ k, k < os.length → 0 < (os.getD k default).qs.length ∧ (os.getD k default).qs.length ≤ 1000 ∧ ((os.getD k default).kind = 1 → (os.getD k default).qs.length ≤ 10)) :
    ∀ (d k : Nat) (t : Tr AVal) (cs : List AVal) (H BD : Hp) (sD : AVal) (T : List Trip), d + k = os.length → OpsS cs os k H → BufO 6 sD (tpC T) T.length BD → TrOk T → tpO T = expL (os.take k) → T.length ≤ k * 10 → t.get 6 = some (.ptr i6 0) → t.get 25 = some (.sl ic 0 os.length 6 none) → t.get 26 = some (aint os.length) → t.get 27 = some (aint k) →
    WpO EX (.loop c_rewrite_Expand_l0) t ((i6, [aint q, aint b, sD]) :: (BD ++ (tpH T ++ ((ic, cs) :: (H ++ L))))) (fun ex t' L' => ex = .exit 0 ∧ Keep [1, 2, 3, 6] t t' ∧ ∃ (BD : Hp) (sD : AVal) (T : List Trip), BufO 6 sD (tpC T) T.length BD ∧ TrOk T ∧ tpO T = expL os ∧ Am.Sub ((i6, [aint q, aint b, sD]) :: (BD ++ (tpH T ++ L))) L') := by
  intro d
  induction d with
  | zero =>
    intro k t cs H BD sD T hd hS hb hT hO hl h6 h25 h26 h27
    obtain rfl : k = os.length := by omega
    refine wo_loop ?_
    repeat (first | intro id | refine goq ?_)
    rw [List.take_length] at hO
    exact ⟨rfl, by exact keepq, BD, sD, T, hb, hT, hO, by exact subq⟩
  | succ d ih =>
    intro k t cs H BD sD T hd hS hb hT hO hl h6 h25 h26 h27
    have hkl : k < os.length := by omega
    obtain ⟨n0, n1, n2⟩ := hne k hkl
    cases hS with
    | done => omega
    | @more _ u Bq H' _ hs hown hS' =>
    have hsegq : seg cs (0 + k * 6) 6 = some (opCells u (os.getD k default)) := hs
    rcases hown with ⟨rfl, hq0, rfl⟩ | ⟨iq, cap, rfl, rfl⟩
    · rw [hq0] at n0
      simp at n0
    refine wo_loop ?_
    repeat (first | intro id | refine goq ?_)
    refine WpO.weak (WpO.mono (exp_r8 (i6 := i6) (i8 := id) (iq := iq) (cap := cap) (q := q) (b := b) (o := os.getD k default) (BD := BD) (L := tpH T ++ ((ic, cs) :: (H' ++ L))) (by exact slotq) (by exact slotq) hb (by omega) rfl n0 n2 n1) ?_) ?_
    · rintro ex t1 L1 ⟨rfl, hK, T2, id2, f1, f2, f3, f4, hsub⟩
      have g6 : t1.get 6 = some (.ptr i6 0) := (hK.ex 6 rfl).trans (by exact slotq)
      have g25 : t1.get 25 = some (.sl ic 0 os.length 6 none) := (hK.ex 25 rfl).trans (by exact slotq)
      have g26 : t1.get 26 = some (aint os.length) := (hK.ex 26 rfl).trans (by exact slotq)
      have g27 : t1.get 27 = some (aint k) := (hK.ex 27 rfl).trans (by exact slotq)
      have hKt : Keep [1, 2, 3, 6] t t1 := Keep.trans (by exact keepq) (hK.less rfl)
      clear hK
      refine blkO.n (seqO.n (WpO.weak ?_ hsub))
      repeat (first | intro id | refine goq ?_)
      have eT : tpC T ++ tpC T2 = tpC (T ++ T2) := (tpC_app T T2).symm
      have eH : tpH (T ++ T2) = tpH T ++ tpH T2 := by simp [tpH]
      have eO : tpO (T ++ T2) = expL (os.take (k + 1)) := by
        have : tpO (T ++ T2) = tpO T ++ tpO T2 := by simp [tpO]
        rw [this, hO, f2, List.take_succ_eq_append_getElem hkl]
        unfold expL
        rw [List.flatMap_append]
        simp [hkl]
      rw [eT]
      refine WpO.weak (WpO.mono (ih (k + 1) _ cs H' [(id2, tpC (T ++ T2))] (.sl id2 0 (T.length + T2.length) 6 none) (T ++ T2) (by omega) hS' ?_ ?_ eO ?_ ?_ ?_ ?_ ?_) ?_) ?_
      · rw [List.length_append]
        exact .box (by rw [tpC_len, List.length_append]) (tpC_all fun p hp => (List.mem_append.1 hp).elim (hT p) (f1 p))
      · exact fun p hp => (List.mem_append.1 hp).elim (hT p) (f1 p)
      · rw [List.length_append]
        omega
      · exact slotq
      · exact slotq
      · exact slotq
      · exact slotq
      · rintro ex t' L' ⟨e1, e2, e3⟩
        exact ⟨e1, hKt.trans (Keep.trans (by exact keepq) e2), e3⟩
      · rw [eH]
        simp only [List.append_assoc, List.cons_append, List.nil_append]
        exact subq
    · simp only [List.append_assoc, List.cons_append, List.nil_append]
      exact subq
end Go.Proofs.YtmflheoafeenfaaGreat
namespace Go.Proofs.YtmflheoafeenfaaGreat
open Go.Am
set_option maxRecDepth 4000
set_option maxHeartbeats 8000000
variable {L : Hp}
theorem nodup_le : ∀ (n : Nat) (l : List Nat), l.Nodup → (∀ x ∈ l, x < n) → l.length ≤ n
  | 0, l, _, h => by
    cases l with
    | nil => simp
    | cons a l => have := h a (by simp); omega
  | n + 1, l, hn, h => by
    by_cases hm : n ∈ l
    · have h1 := nodup_le n (l.erase n) (hn.erase n) fun x hx => by
        have h2 := (hn.mem_erase_iff).1 hx
        have := h x h2.2
        have := h2.1
        omega
      rw [List.length_erase_of_mem hm] at h1
      omega
    · have := nodup_le n l hn fun x hx => by
        have := h x hx
        have : x ≠ n := fun e => hm (e ▸ hx)
        omega
      omega
theorem Qs_len {n : Int} {l : List Int} (h : Qs n l) (hn : n ≤ 64) : l.length ≤ 64 := by
  have h1 : ∀ x ∈ l, 0 ≤ x ∧ x < n := by
    intro x hx
    obtain ⟨i, hi, rfl⟩ := List.getElem_of_mem hx
    have h2 := h i hi
    have e : l.getD i 0 = l[i] := by simp [hi]
    unfold okAt at h2
    rw [e] at h2
    exact ⟨h2.1, h2.2.1⟩
  have h2 : (l.map Int.toNat).Nodup := by
    rw [List.nodup_iff_pairwise_ne, List.pairwise_map]
    refine (List.Pairwise.imp_of_mem ?_ (List.nodup_iff_pairwise_ne.1 (Qs_nodup h)))
    intro a b ha hb hab e
    have := h1 a ha
    have := h1 b hb
    omega
  have := nodup_le 64 _ h2 fun x hx => by
    obtain ⟨y, hy, rfl⟩ := List.mem_map.1 hx
    have := h1 y hy
    omega
  simpa using this
theorem ops_small {c : CircD} (hC : CircOk c) : ∀ k, k < c.ops.length → 0 < (c.ops.getD k default).qs.length ∧ (c.ops.getD k default).qs.length ≤ 1000 ∧ ((c.ops.getD k default).kind = 1 → (c.ops.getD k default).qs.length ≤ 10) := by
  intro k hk
  have ho := hC.ok k hk
  have hq := hC.q1
  generalize c.ops.getD k default = o at ho ⊢
  rcases ho with ⟨h1, h2, h3, h4, -, -⟩ | ⟨h1, -, -, -, h3, -⟩ | ⟨h1, -, -, -, h3, -⟩ | ⟨h1, -, -, -, h3, h4, -⟩
  · have := arity_le o.gate
    omega
  · omega
  · omega
  · have := Qs_len h4 hq
    omega
def ExpO (c : CircD) (r : AVal) (B : Hp) : Prop := (¬ CircOk c ∧ r = .tup [.agg zeroC, aint 80] ∧ B = []) ∨ (CircOk c ∧ 4096 < (expL c.ops).length ∧ r = .tup [.agg zeroC, aint 180] ∧ B = []) ∨ (CircOk c ∧ (expL c.ops).length ≤ 4096 ∧ ∃ v, r = .tup [v, aint 0] ∧ CircO v ⟨c.qubits, c.bits, expL c.ops⟩ B)
theorem Expand_open {v : AVal} {c : CircD} (hv : CircA v c) (hsm : Small c) : CallO EX f_rewrite_Expand [v] L fun r L' => ∃ B, ExpO c r B ∧ L' = B ++ L := by
  refine CallO.to (callO_open rfl n_rewrite_Expand ?_)
  have hv0 := hv
  obtain ⟨s, rfl, ho⟩ := hv
  have hs1 : s.one = true := by obtain ⟨_, hr, -, -⟩ := ho; exact RowA.isOne hr
  refine bodyO_of (Nat.le_of_ble_eq_true rfl) ?_; generalize ht : argSlots _ 0 .nil = t; have h0 : t.get 0 = some _ := (by rw [← ht]; rfl); clear ht
  repeat (first | intro id | refine goq ?_)
  refine gok ?_
  refine (Check_okC (E := EX) rfl rfl rfl rfl rfl rfl rfl rfl rfl hv0).mono ?_
  rintro w L' ⟨⟨ie, e, rfl, hce⟩, rfl⟩
  rcases hce with ⟨rfl, hC⟩ | ⟨rfl, hC⟩
  · repeat (first | intro id | refine goq ?_)
    refine gok ?_
    refine (CCopy_open (E := EX) rfl rfl rfl hv0 hsm).mono ?_
    rintro r L' ⟨B, hB, rfl⟩
    obtain ⟨sc, cs, Bs, H, rfl, hb, hops, hlt, rfl⟩ := hB
    have hsc1 := hb.isOne
    have hCl := hC.len
    repeat (first | intro id | refine goq ?_)
    rename_i i1 i2
    refine WpO.mono (Q := fun ex t' L' => ex = .exit 0 ∧ t'.get 2 = some (.ptr i2 0) ∧ t'.get 6 = some (.ptr id 0) ∧ ∃ (BD : Hp) (sD : AVal) (T : List Trip), BufO 6 sD (tpC T) T.length BD ∧ TrOk T ∧ tpO T = expL c.ops ∧ Am.Sub ((id, [aint c.qubits, aint c.bits, sD]) :: (BD ++ (tpH T ++ ((i2, [aint 0, aint 0, anil]) :: L)))) L') ?_ ?_
    · rcases bufInv hb with ⟨rfl, e0, e1, rfl⟩ | ⟨ic, rfl, rfl⟩
      · have e2 : c.ops = [] := List.eq_nil_of_length_eq_zero e1
        rw [e2]
        refine wo_loop ?_
        repeat (first | intro id | refine goq ?_)
        exact ⟨rfl, by exact slotq, by exact slotq, [], anil, [], .nil, trOk_nil, rfl, by exact subq⟩
      · refine WpO.weak (WpO.mono (expand_l0 (i6 := id) (ic := ic) (q := c.qubits) (b := c.bits) (L := (i2, [aint 0, aint 0, anil]) :: L) (by omega) (ops_small hC) c.ops.length 0 _ cs H [] anil [] (by omega) hops.front .nil trOk_nil rfl (by simp) ?_ ?_ ?_ ?_) ?_) ?_
        · exact slotq
        · exact slotq
        · exact slotq
        · exact slotq
        · rintro ex t1 L1 ⟨rfl, hK, BD, sD, T, f1, f2, f3, f4⟩
          exact ⟨rfl, (hK.ex 2 rfl).trans (by exact slotq), (hK.ex 6 rfl).trans (by exact slotq), BD, sD, T, f1, f2, f3, f4⟩
        · simp only [List.append_assoc, List.cons_append, List.nil_append, tpH, List.flatMap_nil]
          exact subq
    · rintro ex t1 L1 ⟨rfl, g2, g6, BD, sD, T, f1, f2, f3, f4⟩
      have hl : (expL c.ops).length = T.length := by rw [← f3]; simp [tpO]
      have hsD := f1.isOne
      have hTl : T.length ≤ 1000000 := by
        have h1 : ∀ l : List OpD, (expL l).length ≤ l.length * 8 := by
          intro l
          induction l with
          | nil => simp [expL]
          | cons o l ih =>
            have h2 : (wrO o).length ≤ 8 := by
              unfold wrO
              split
              · unfold wrK
                repeat' split
                all_goals simp [swq, czq]
              · simp
            unfold expL at ih ⊢
            rw [List.flatMap_cons, List.length_append, List.length_cons]
            omega
        have := h1 c.ops
        omega
      refine blkO.x (seqO.n (WpO.weak ?_ f4))
      by_cases h4 : T.length ≤ 4096
      · repeat (first | intro id | refine goq ?_)
        ((first | apply retO_r | apply retO_n); (focus (exact resq)))
        refine ⟨(BD ++ tpH T) ++ L, ?_, BD ++ tpH T, .inr (.inr ⟨hC, by omega, _, rfl, sD, tpC T, BD, tpH T, rfl, ?_, ?_, ?_, rfl⟩), rfl⟩
        · simp only [List.append_assoc]
          exact subq
        · rw [hl]
          exact f1
        · rw [← f3]
          exact f2.ops
        · rw [hl]
          omega
      · repeat (first | intro id | refine goq ?_)
        ((first | apply retO_r | apply retO_n); (focus (exact resq)))
        exact ⟨_, by exact subq, [], .inr (.inl ⟨hC, by omega, rfl, rfl⟩), rfl⟩
  · repeat (first | intro id | refine goq ?_)
    ((first | apply retO_r | apply retO_n); (focus (exact resq)))
    exact ⟨_, by exact subq, [], .inl ⟨hC, rfl, rfl⟩, rfl⟩
end Go.Proofs.YtmflheoafeenfaaGreat
namespace Go.Proofs.YtmflheoafeenfaaGreat
open Go.Am
set_option maxRecDepth 4000
set_option maxHeartbeats 8000000
variable {L : Hp}
/-- A gate without a condition. -/
def o1 (k : Int) (q : List Int) : OpD := ⟨1, k, q, 0, -1, 0⟩
theorem one1_open {k : Int} {q : List Int} {ia n : Nat} {cap : Option Nat} (hn : q.length = n) (hpos : 0 < n) (hlt : n ≤ 1000000) (hi : In ia (q.map aint) L) : CallO EX f_phasorref18_one [aint k, .sl ia 0 n 1 cap] L fun r L' => ∃ id, r = .agg [aint 1, aint k, .sl id 0 n 1 none, aint 0, aint (-1), aint 0] ∧ L' = (id, q.map aint) :: L := by
  refine CallO.to (callO_open rfl n_phasorref18_one ?_)
  have hs : seg (q.map aint) 0 (n * 1) = some (q.map aint) := by rw [Nat.mul_one]; exact seg_full (by simp [hn])
  refine bodyO_of (Nat.le_of_ble_eq_true rfl) ?_; generalize ht : argSlots _ 0 .nil = t; have h0 : t.get 0 = some _ := (by rw [← ht]; rfl); have h1 : t.get 1 = some _ := (by rw [← ht]; rfl); clear ht
  repeat (first | intro id | refine goq ?_)
  refine oo_appendFS wanted_none (by exact slotq) .here (old := []) rfl rfl (by exact slotq) (.next (.next hi)) hs hpos (all_one_ints _) (by omega) (by omega) ?_
  intro id2
  repeat (first | intro id | refine goq ?_)
  ((first | apply retO_r | apply retO_n); (focus (exact resq)))
  exact ⟨(id2, q.map aint) :: L, by exact subq, id2, by simp [resultV, o1, opCells, aint], rfl⟩
theorem one1R_open {k : Int} {q : List Int} {v : AVal} (hv : SlI v q) (hpos : 0 < q.length) (hlt : q.length ≤ 1000000) : CallO EX f_phasorref18_one [aint k, v] L fun r L' => ∃ id, r = .agg [aint 1, aint k, .sl id 0 q.length 1 none, aint 0, aint (-1), aint 0] ∧ L' = (id, q.map aint) :: L := by
  refine CallO.to (callO_open rfl n_phasorref18_one ?_)
  have hv0 := hv
  have hv1 := RowA.isOne hv
  refine bodyO_of (Nat.le_of_ble_eq_true rfl) ?_; generalize ht : argSlots _ 0 .nil = t; have h0 : t.get 0 = some _ := (by rw [← ht]; rfl); have h1 : t.get 1 = some _ := (by rw [← ht]; rfl); clear ht
  repeat (first | intro id | refine goq ?_)
  refine oo_appendF wanted_none (by exact slotq) .here (old := []) rfl rfl (by exact slotq) hv0 hpos (by simp) (all_one_ints _) (by omega) (by omega) ?_
  intro id2
  repeat (first | intro id | refine goq ?_)
  ((first | apply retO_r | apply retO_n); (focus (exact resq)))
  exact ⟨(id2, q.map aint) :: L, by exact subq, id2, by simp [resultV, o1, opCells, aint], rfl⟩
def gN (id : Nat) (k : Int) (q : List Int) : Trip := ⟨.sl id 0 q.length 1 none, o1 k q, [(id, q.map aint)]⟩
theorem trOk_n {id : Nat} {k : Int} {q : List Int} {T : List Trip} (h : q.length < 2 ^ 62) (hT : TrOk T) : TrOk (gN id k q :: T) := fun p hp => by
  rcases List.mem_cons.1 hp with rfl | hp
  · exact ⟨.inr ⟨id, _, rfl, rfl⟩, h⟩
  · exact hT p hp
/-- As WrR; full. -/
def WrF (o : OpD) (L : Hp) (r : AVal) (L0 : Hp) : Prop := ∃ (T : List Trip) (id : Nat), r = .sl id 0 T.length 6 (some T.length) ∧ 0 < T.length ∧ T.length ≤ 10 ∧ TrOk T ∧ tpO T = wrO o ∧ L0 = (id, tpC T) :: (tpH T ++ L)
theorem rw_leaf {k : Int} {qv : AVal} {ql : List Int} (hq : SlI qv ql) (hl : (ql.length : Int) = arity k) (ha : arity k ≠ 0) (k15 : k ≠ 15) (k16 : k ≠ 16) : CallO EX f_phasorref18_written [aint k, qv] L fun r L' => WrF (o1 k ql) L r L' := by
  refine CallO.to (callO_open rfl n_phasorref18_written ?_)
  have hq1 := RowA.isOne hq
  have hal := arity_le k
  have hpos : 0 < ql.length := by omega
  have hw : wrO (o1 k ql) = (wrK (o1 k ql) k (ql.getD 0 0) (ql.getD 1 0) (ql.getD 2 0)).getD [o1 k ql] := by
    unfold wrO
    rw [if_pos (show (o1 k ql).kind = 1 from rfl)]
    rfl
  by_cases l1 : ql.length = 1
  · have hk : k ≤ 10 := by unfold arity at hl ha; split at hl; omega; split at hl; omega; split at hl <;> omega
    refine bodyO_of (Nat.le_of_ble_eq_true rfl) ?_; generalize ht : argSlots _ 0 .nil = t; have h0 : t.get 0 = some _ := (by rw [← ht]; rfl); have h1 : t.get 1 = some _ := (by rw [← ht]; rfl); clear ht
    repeat (first | intro id | refine goq ?_)
    refine gok ?_
    refine (one1R_open hq hpos (by omega)).mono ?_
    rintro r L' ⟨j1, rfl, rfl⟩
    repeat (first | intro id | refine goq ?_)
    ((first | apply retO_r | apply retO_n); (focus (exact resq)))
    refine ⟨(id, tpC [gN j1 k ql]) :: (tpH [gN j1 k ql] ++ L), ?_, [gN j1 k ql], id, rfl, by simp, by simp, trOk_n (by omega) trOk_nil, by rw [hw]; unfold wrK; rw [if_neg (by omega), if_neg (by omega), if_neg (by omega), if_neg (by omega), if_neg (by omega), if_neg (by omega), if_neg (by omega), if_neg (by omega)]; rfl, rfl⟩
    simp only [tpC, tpH, gN, o1, opCells, List.flatMap_cons, List.flatMap_nil, List.append_nil, List.cons_append, List.nil_append, List.length_cons, List.length_nil, Nat.reduceAdd]
    exact subq
  have hks : k = 11 ∨ k = 12 ∨ k = 13 ∨ k = 14 ∨ k = 17 ∨ k = 18 ∨ k = 19 ∨ k = 20 := by
    unfold arity at hl ha
    split at hl
    · omega
    · split at hl
      · omega
      · split at hl <;> omega
  rcases hks with rfl | rfl | rfl | rfl | rfl | rfl | rfl | rfl
  · have ll : ql.length = 2 := by have : arity 11 = 2 := rfl; omega
    refine bodyO_of (Nat.le_of_ble_eq_true rfl) ?_; generalize ht : argSlots _ 0 .nil = t; have h0 : t.get 0 = some _ := (by rw [← ht]; rfl); have h1 : t.get 1 = some _ := (by rw [← ht]; rfl); clear ht
    repeat (first | intro id | refine goq ?_)
    refine gok ?_
    refine (one1R_open hq hpos (by omega)).mono ?_
    rintro r L' ⟨j1, rfl, rfl⟩
    repeat (first | intro id | refine goq ?_)
    ((first | apply retO_r | apply retO_n); (focus (exact resq)))
    refine ⟨(id, tpC [gN j1 11 ql]) :: (tpH [gN j1 11 ql] ++ L), ?_, [gN j1 11 ql], id, rfl, by simp, by simp, trOk_n (by omega) trOk_nil, by rw [hw]; rfl, rfl⟩
    simp only [tpC, tpH, gN, o1, opCells, List.flatMap_cons, List.flatMap_nil, List.append_nil, List.cons_append, List.nil_append, List.length_cons, List.length_nil, Nat.reduceAdd]
    exact subq
  · have ll : ql.length = 2 := by have : arity 12 = 2 := rfl; omega
    refine bodyO_of (Nat.le_of_ble_eq_true rfl) ?_; generalize ht : argSlots _ 0 .nil = t; have h0 : t.get 0 = some _ := (by rw [← ht]; rfl); have h1 : t.get 1 = some _ := (by rw [← ht]; rfl); clear ht
    repeat (first | intro id | refine goq ?_)
    refine gok ?_
    refine (one1_open (q := [ql.getD 1 0]) rfl (by simp) (by simp) .here).mono ?_
    rintro r L' ⟨j1, rfl, rfl⟩
    repeat (first | intro id | refine goq ?_)
    refine gok ?_
    refine (one1_open (q := [ql.getD 0 0, ql.getD 1 0]) rfl (by simp) (by simp) .here).mono ?_
    rintro r L' ⟨j2, rfl, rfl⟩
    repeat (first | intro id | refine goq ?_)
    refine gok ?_
    refine (one1_open (q := [ql.getD 1 0]) rfl (by simp) (by simp) .here).mono ?_
    rintro r L' ⟨j3, rfl, rfl⟩
    refine oo_buildSlice (cs := tpC [gN j1 6 [ql.getD 1 0], gN j2 11 [ql.getD 0 0, ql.getD 1 0], gN j3 5 [ql.getD 1 0]]) wanted_none (argParts_cons (by exact slotq) (argParts_cons (by exact slotq) (argParts_cons (by exact slotq) argParts_nil))) (by rfl) ?_
    intro id
    repeat (first | intro id | refine goq ?_)
    ((first | apply retO_r | apply retO_n); (focus (exact resq)))
    refine ⟨(id, tpC [gN j1 6 [ql.getD 1 0], gN j2 11 [ql.getD 0 0, ql.getD 1 0], gN j3 5 [ql.getD 1 0]]) :: (tpH [gN j1 6 [ql.getD 1 0], gN j2 11 [ql.getD 0 0, ql.getD 1 0], gN j3 5 [ql.getD 1 0]] ++ L), ?_, [gN j1 6 [ql.getD 1 0], gN j2 11 [ql.getD 0 0, ql.getD 1 0], gN j3 5 [ql.getD 1 0]], id, rfl, by simp, by simp, (trOk_n (by simp) (trOk_n (by simp) (trOk_n (by simp) trOk_nil))), by rw [hw]; rfl, rfl⟩
    simp only [tpC, tpH, gN, o1, opCells, List.flatMap_cons, List.flatMap_nil, List.append_nil, List.cons_append, List.nil_append, List.length_cons, List.length_nil, Nat.reduceAdd]
    exact subq
  · have ll : ql.length = 2 := by have : arity 13 = 2 := rfl; omega
    refine bodyO_of (Nat.le_of_ble_eq_true rfl) ?_; generalize ht : argSlots _ 0 .nil = t; have h0 : t.get 0 = some _ := (by rw [← ht]; rfl); have h1 : t.get 1 = some _ := (by rw [← ht]; rfl); clear ht
    repeat (first | intro id | refine goq ?_)
    refine gok ?_
    refine (one1_open (q := [ql.getD 1 0]) rfl (by simp) (by simp) .here).mono ?_
    rintro r L' ⟨j1, rfl, rfl⟩
    repeat (first | intro id | refine goq ?_)
    refine gok ?_
    refine (one1_open (q := [ql.getD 0 0, ql.getD 1 0]) rfl (by simp) (by simp) .here).mono ?_
    rintro r L' ⟨j2, rfl, rfl⟩
    repeat (first | intro id | refine goq ?_)
    refine gok ?_
    refine (one1_open (q := [ql.getD 1 0]) rfl (by simp) (by simp) .here).mono ?_
    rintro r L' ⟨j3, rfl, rfl⟩
    refine oo_buildSlice (cs := tpC [gN j1 9 [ql.getD 1 0], gN j2 11 [ql.getD 0 0, ql.getD 1 0], gN j3 10 [ql.getD 1 0]]) wanted_none (argParts_cons (by exact slotq) (argParts_cons (by exact slotq) (argParts_cons (by exact slotq) argParts_nil))) (by rfl) ?_
    intro id
    repeat (first | intro id | refine goq ?_)
    ((first | apply retO_r | apply retO_n); (focus (exact resq)))
    refine ⟨(id, tpC [gN j1 9 [ql.getD 1 0], gN j2 11 [ql.getD 0 0, ql.getD 1 0], gN j3 10 [ql.getD 1 0]]) :: (tpH [gN j1 9 [ql.getD 1 0], gN j2 11 [ql.getD 0 0, ql.getD 1 0], gN j3 10 [ql.getD 1 0]] ++ L), ?_, [gN j1 9 [ql.getD 1 0], gN j2 11 [ql.getD 0 0, ql.getD 1 0], gN j3 10 [ql.getD 1 0]], id, rfl, by simp, by simp, (trOk_n (by simp) (trOk_n (by simp) (trOk_n (by simp) trOk_nil))), by rw [hw]; rfl, rfl⟩
    simp only [tpC, tpH, gN, o1, opCells, List.flatMap_cons, List.flatMap_nil, List.append_nil, List.cons_append, List.nil_append, List.length_cons, List.length_nil, Nat.reduceAdd]
    exact subq
  · have ll : ql.length = 2 := by have : arity 14 = 2 := rfl; omega
    refine bodyO_of (Nat.le_of_ble_eq_true rfl) ?_; generalize ht : argSlots _ 0 .nil = t; have h0 : t.get 0 = some _ := (by rw [← ht]; rfl); have h1 : t.get 1 = some _ := (by rw [← ht]; rfl); clear ht
    repeat (first | intro id | refine goq ?_)
    refine gok ?_
    refine (one1_open (q := [ql.getD 0 0, ql.getD 1 0]) rfl (by simp) (by simp) .here).mono ?_
    rintro r L' ⟨j1, rfl, rfl⟩
    repeat (first | intro id | refine goq ?_)
    refine gok ?_
    refine (one1_open (q := [ql.getD 1 0, ql.getD 0 0]) rfl (by simp) (by simp) .here).mono ?_
    rintro r L' ⟨j2, rfl, rfl⟩
    repeat (first | intro id | refine goq ?_)
    refine gok ?_
    refine (one1_open (q := [ql.getD 0 0, ql.getD 1 0]) rfl (by simp) (by simp) .here).mono ?_
    rintro r L' ⟨j3, rfl, rfl⟩
    refine oo_buildSlice (cs := tpC [gN j1 11 [ql.getD 0 0, ql.getD 1 0], gN j2 11 [ql.getD 1 0, ql.getD 0 0], gN j3 11 [ql.getD 0 0, ql.getD 1 0]]) wanted_none (argParts_cons (by exact slotq) (argParts_cons (by exact slotq) (argParts_cons (by exact slotq) argParts_nil))) (by rfl) ?_
    intro id
    repeat (first | intro id | refine goq ?_)
    ((first | apply retO_r | apply retO_n); (focus (exact resq)))
    refine ⟨(id, tpC [gN j1 11 [ql.getD 0 0, ql.getD 1 0], gN j2 11 [ql.getD 1 0, ql.getD 0 0], gN j3 11 [ql.getD 0 0, ql.getD 1 0]]) :: (tpH [gN j1 11 [ql.getD 0 0, ql.getD 1 0], gN j2 11 [ql.getD 1 0, ql.getD 0 0], gN j3 11 [ql.getD 0 0, ql.getD 1 0]] ++ L), ?_, [gN j1 11 [ql.getD 0 0, ql.getD 1 0], gN j2 11 [ql.getD 1 0, ql.getD 0 0], gN j3 11 [ql.getD 0 0, ql.getD 1 0]], id, rfl, by simp, by simp, (trOk_n (by simp) (trOk_n (by simp) (trOk_n (by simp) trOk_nil))), by rw [hw]; rfl, rfl⟩
    simp only [tpC, tpH, gN, o1, opCells, List.flatMap_cons, List.flatMap_nil, List.append_nil, List.cons_append, List.nil_append, List.length_cons, List.length_nil, Nat.reduceAdd]
    exact subq
  · have ll : ql.length = 2 := by have : arity 17 = 2 := rfl; omega
    refine bodyO_of (Nat.le_of_ble_eq_true rfl) ?_; generalize ht : argSlots _ 0 .nil = t; have h0 : t.get 0 = some _ := (by rw [← ht]; rfl); have h1 : t.get 1 = some _ := (by rw [← ht]; rfl); clear ht
    repeat (first | intro id | refine goq ?_)
    refine gok ?_
    refine (one1_open (q := [ql.getD 0 0]) rfl (by simp) (by simp) .here).mono ?_
    rintro r L' ⟨j1, rfl, rfl⟩
    repeat (first | intro id | refine goq ?_)
    refine gok ?_
    refine (one1_open (q := [ql.getD 0 0]) rfl (by simp) (by simp) .here).mono ?_
    rintro r L' ⟨j2, rfl, rfl⟩
    repeat (first | intro id | refine goq ?_)
    refine gok ?_
    refine (one1_open (q := [ql.getD 0 0]) rfl (by simp) (by simp) .here).mono ?_
    rintro r L' ⟨j3, rfl, rfl⟩
    repeat (first | intro id | refine goq ?_)
    refine gok ?_
    refine (one1_open (q := [ql.getD 1 0]) rfl (by simp) (by simp) .here).mono ?_
    rintro r L' ⟨j4, rfl, rfl⟩
    repeat (first | intro id | refine goq ?_)
    refine gok ?_
    refine (one1_open (q := [ql.getD 1 0]) rfl (by simp) (by simp) .here).mono ?_
    rintro r L' ⟨j5, rfl, rfl⟩
    repeat (first | intro id | refine goq ?_)
    refine gok ?_
    refine (one1_open (q := [ql.getD 1 0]) rfl (by simp) (by simp) .here).mono ?_
    rintro r L' ⟨j6, rfl, rfl⟩
    refine oo_buildSlice (cs := tpC [gN j1 5 [ql.getD 0 0], gN j2 7 [ql.getD 0 0], gN j3 5 [ql.getD 0 0], gN j4 6 [ql.getD 1 0], gN j5 8 [ql.getD 1 0], gN j6 6 [ql.getD 1 0]]) wanted_none (argParts_cons (by exact slotq) (argParts_cons (by exact slotq) (argParts_cons (by exact slotq) (argParts_cons (by exact slotq) (argParts_cons (by exact slotq) (argParts_cons (by exact slotq) argParts_nil)))))) (by rfl) ?_
    intro id
    repeat (first | intro id | refine goq ?_)
    ((first | apply retO_r | apply retO_n); (focus (exact resq)))
    refine ⟨(id, tpC [gN j1 5 [ql.getD 0 0], gN j2 7 [ql.getD 0 0], gN j3 5 [ql.getD 0 0], gN j4 6 [ql.getD 1 0], gN j5 8 [ql.getD 1 0], gN j6 6 [ql.getD 1 0]]) :: (tpH [gN j1 5 [ql.getD 0 0], gN j2 7 [ql.getD 0 0], gN j3 5 [ql.getD 0 0], gN j4 6 [ql.getD 1 0], gN j5 8 [ql.getD 1 0], gN j6 6 [ql.getD 1 0]] ++ L), ?_, [gN j1 5 [ql.getD 0 0], gN j2 7 [ql.getD 0 0], gN j3 5 [ql.getD 0 0], gN j4 6 [ql.getD 1 0], gN j5 8 [ql.getD 1 0], gN j6 6 [ql.getD 1 0]], id, rfl, by simp, by simp, (trOk_n (by simp) (trOk_n (by simp) (trOk_n (by simp) (trOk_n (by simp) (trOk_n (by simp) (trOk_n (by simp) trOk_nil)))))), by rw [hw]; rfl, rfl⟩
    simp only [tpC, tpH, gN, o1, opCells, List.flatMap_cons, List.flatMap_nil, List.append_nil, List.cons_append, List.nil_append, List.length_cons, List.length_nil, Nat.reduceAdd]
    exact subq
  · have ll : ql.length = 3 := by have : arity 18 = 3 := rfl; omega
    refine bodyO_of (Nat.le_of_ble_eq_true rfl) ?_; generalize ht : argSlots _ 0 .nil = t; have h0 : t.get 0 = some _ := (by rw [← ht]; rfl); have h1 : t.get 1 = some _ := (by rw [← ht]; rfl); clear ht
    repeat (first | intro id | refine goq ?_)
    refine gok ?_
    refine (one1R_open hq hpos (by omega)).mono ?_
    rintro r L' ⟨j1, rfl, rfl⟩
    repeat (first | intro id | refine goq ?_)
    ((first | apply retO_r | apply retO_n); (focus (exact resq)))
    refine ⟨(id, tpC [gN j1 18 ql]) :: (tpH [gN j1 18 ql] ++ L), ?_, [gN j1 18 ql], id, rfl, by simp, by simp, trOk_n (by omega) trOk_nil, by rw [hw]; rfl, rfl⟩
    simp only [tpC, tpH, gN, o1, opCells, List.flatMap_cons, List.flatMap_nil, List.append_nil, List.cons_append, List.nil_append, List.length_cons, List.length_nil, Nat.reduceAdd]
    exact subq
  · have ll : ql.length = 3 := by have : arity 19 = 3 := rfl; omega
    refine bodyO_of (Nat.le_of_ble_eq_true rfl) ?_; generalize ht : argSlots _ 0 .nil = t; have h0 : t.get 0 = some _ := (by rw [← ht]; rfl); have h1 : t.get 1 = some _ := (by rw [← ht]; rfl); clear ht
    repeat (first | intro id | refine goq ?_)
    refine gok ?_
    refine (one1_open (q := [ql.getD 2 0]) rfl (by simp) (by simp) .here).mono ?_
    rintro r L' ⟨j1, rfl, rfl⟩
    repeat (first | intro id | refine goq ?_)
    refine gok ?_
    refine (one1_open (q := [ql.getD 0 0, ql.getD 1 0, ql.getD 2 0]) rfl (by simp) (by simp) .here).mono ?_
    rintro r L' ⟨j2, rfl, rfl⟩
    repeat (first | intro id | refine goq ?_)
    refine gok ?_
    refine (one1_open (q := [ql.getD 2 0]) rfl (by simp) (by simp) .here).mono ?_
    rintro r L' ⟨j3, rfl, rfl⟩
    refine oo_buildSlice (cs := tpC [gN j1 9 [ql.getD 2 0], gN j2 18 [ql.getD 0 0, ql.getD 1 0, ql.getD 2 0], gN j3 10 [ql.getD 2 0]]) wanted_none (argParts_cons (by exact slotq) (argParts_cons (by exact slotq) (argParts_cons (by exact slotq) argParts_nil))) (by rfl) ?_
    intro id
    repeat (first | intro id | refine goq ?_)
    ((first | apply retO_r | apply retO_n); (focus (exact resq)))
    refine ⟨(id, tpC [gN j1 9 [ql.getD 2 0], gN j2 18 [ql.getD 0 0, ql.getD 1 0, ql.getD 2 0], gN j3 10 [ql.getD 2 0]]) :: (tpH [gN j1 9 [ql.getD 2 0], gN j2 18 [ql.getD 0 0, ql.getD 1 0, ql.getD 2 0], gN j3 10 [ql.getD 2 0]] ++ L), ?_, [gN j1 9 [ql.getD 2 0], gN j2 18 [ql.getD 0 0, ql.getD 1 0, ql.getD 2 0], gN j3 10 [ql.getD 2 0]], id, rfl, by simp, by simp, (trOk_n (by simp) (trOk_n (by simp) (trOk_n (by simp) trOk_nil))), by rw [hw]; rfl, rfl⟩
    simp only [tpC, tpH, gN, o1, opCells, List.flatMap_cons, List.flatMap_nil, List.append_nil, List.cons_append, List.nil_append, List.length_cons, List.length_nil, Nat.reduceAdd]
    exact subq
  · have ll : ql.length = 3 := by have : arity 20 = 3 := rfl; omega
    refine bodyO_of (Nat.le_of_ble_eq_true rfl) ?_; generalize ht : argSlots _ 0 .nil = t; have h0 : t.get 0 = some _ := (by rw [← ht]; rfl); have h1 : t.get 1 = some _ := (by rw [← ht]; rfl); clear ht
    repeat (first | intro id | refine goq ?_)
    refine gok ?_
    refine (one1_open (q := [ql.getD 2 0, ql.getD 1 0]) rfl (by simp) (by simp) .here).mono ?_
    rintro r L' ⟨j1, rfl, rfl⟩
    repeat (first | intro id | refine goq ?_)
    refine gok ?_
    refine (one1_open (q := [ql.getD 0 0, ql.getD 1 0, ql.getD 2 0]) rfl (by simp) (by simp) .here).mono ?_
    rintro r L' ⟨j2, rfl, rfl⟩
    repeat (first | intro id | refine goq ?_)
    refine gok ?_
    refine (one1_open (q := [ql.getD 2 0, ql.getD 1 0]) rfl (by simp) (by simp) .here).mono ?_
    rintro r L' ⟨j3, rfl, rfl⟩
    refine oo_buildSlice (cs := tpC [gN j1 11 [ql.getD 2 0, ql.getD 1 0], gN j2 18 [ql.getD 0 0, ql.getD 1 0, ql.getD 2 0], gN j3 11 [ql.getD 2 0, ql.getD 1 0]]) wanted_none (argParts_cons (by exact slotq) (argParts_cons (by exact slotq) (argParts_cons (by exact slotq) argParts_nil))) (by rfl) ?_
    intro id
    repeat (first | intro id | refine goq ?_)
    ((first | apply retO_r | apply retO_n); (focus (exact resq)))
    refine ⟨(id, tpC [gN j1 11 [ql.getD 2 0, ql.getD 1 0], gN j2 18 [ql.getD 0 0, ql.getD 1 0, ql.getD 2 0], gN j3 11 [ql.getD 2 0, ql.getD 1 0]]) :: (tpH [gN j1 11 [ql.getD 2 0, ql.getD 1 0], gN j2 18 [ql.getD 0 0, ql.getD 1 0, ql.getD 2 0], gN j3 11 [ql.getD 2 0, ql.getD 1 0]] ++ L), ?_, [gN j1 11 [ql.getD 2 0, ql.getD 1 0], gN j2 18 [ql.getD 0 0, ql.getD 1 0, ql.getD 2 0], gN j3 11 [ql.getD 2 0, ql.getD 1 0]], id, rfl, by simp, by simp, (trOk_n (by simp) (trOk_n (by simp) (trOk_n (by simp) trOk_nil))), by rw [hw]; rfl, rfl⟩
    simp only [tpC, tpH, gN, o1, opCells, List.flatMap_cons, List.flatMap_nil, List.append_nil, List.cons_append, List.nil_append, List.length_cons, List.length_nil, Nat.reduceAdd]
    exact subq
end Go.Proofs.YtmflheoafeenfaaGreat
namespace Go.Proofs.YtmflheoafeenfaaGreat
open Go.Am
set_option maxRecDepth 4000
set_option maxHeartbeats 8000000
variable {L : Hp}
theorem tpO_app (X Y : List Trip) : tpO (X ++ Y) = tpO X ++ tpO Y := by simp [tpO]
theorem tpH_app (X Y : List Trip) : tpH (X ++ Y) = tpH X ++ tpH Y := by simp [tpH]
theorem trOk_app {X Y : List Trip} (h : TrOk X) (k : TrOk Y) : TrOk (X ++ Y) := fun p hp => (List.mem_append.1 hp).elim (h p) (k p)
theorem wr_len {T : List Trip} {o : OpD} {l : List OpD} (h : tpO T = wrO o) (e : wrO o = l) : T.length = l.length := by rw [← tpO_len, h, e]
theorem rwritten_open {k : Int} {qv : AVal} {ql : List Int} (hq : SlI qv ql) (hl : (ql.length : Int) = arity k) (ha : arity k ≠ 0) : CallO EX f_phasorref18_written [aint k, qv] L fun r L' => WrR (o1 k ql) L r L' := by
  by_cases k15 : k = 15
  · subst k15
    refine CallO.to (callO_open rfl n_phasorref18_written ?_)
    have hq1 := RowA.isOne hq
    have ll : ql.length = 2 := by have : arity 15 = 2 := rfl; omega
    have hw : wrO (o1 15 ql) = [gq (o1 15 ql) 5 [ql.getD 0 0]] ++ [gq (o1 15 ql) 5 [ql.getD 1 0]] ++ wrO (o1 13 ql) ++ wrO (o1 14 ql) := rfl
    refine bodyO_of (Nat.le_of_ble_eq_true rfl) ?_; generalize ht : argSlots _ 0 .nil = t; have h0 : t.get 0 = some _ := (by rw [← ht]; rfl); have h1 : t.get 1 = some _ := (by rw [← ht]; rfl); clear ht
    repeat (first | intro id | refine goq ?_)
    refine gok ?_
    refine (one1_open (q := [ql.getD 0 0]) rfl (by simp) (by simp) .here).mono ?_
    rintro r L' ⟨j1, rfl, rfl⟩
    repeat (first | intro id | refine goq ?_)
    refine gok ?_
    refine (one1_open (q := [ql.getD 1 0]) rfl (by simp) (by simp) .here).mono ?_
    rintro r L' ⟨j2, rfl, rfl⟩
    refine oo_buildSlice (cs := tpC [gN j1 5 [ql.getD 0 0], gN j2 5 [ql.getD 1 0]]) wanted_none (argParts_cons (by exact slotq) (argParts_cons (by exact slotq) argParts_nil)) (by rfl) ?_
    intro i8
    repeat (first | intro id | refine goq ?_)
    refine gok ?_
    refine (rw_leaf (k := 13) hq (by rw [ll]; rfl) (by decide) (by decide) (by decide)).mono ?_
    rintro r L' ⟨T2, i9, rfl, a0, a1, a2, a3, rfl⟩
    have l2 : T2.length = 3 := wr_len a3 rfl
    refine oo_appendFS wanted_none (by exact slotq) (.next (In.app .here)) (old := tpC [gN j1 5 [ql.getD 0 0], gN j2 5 [ql.getD 1 0]]) rfl rfl (by exact slotq) .here (seg_full (tpC_len T2)) a0 (tpC_all a2) (by omega) (by omega) ?_
    intro i10
    repeat (first | intro id | refine goq ?_)
    refine gok ?_
    refine (rw_leaf (k := 14) hq (by rw [ll]; rfl) (by decide) (by decide) (by decide)).mono ?_
    rintro r L' ⟨T3, i11, rfl, b0, b1, b2, b3, rfl⟩
    have l3 : T3.length = 3 := wr_len b3 rfl
    rw [← tpC_app]
    have hT12 : TrOk ([gN j1 5 [ql.getD 0 0], gN j2 5 [ql.getD 1 0]] ++ T2) := trOk_app (trOk_n (by simp) (trOk_n (by simp) trOk_nil)) a2
    have l12 : ([gN j1 5 [ql.getD 0 0], gN j2 5 [ql.getD 1 0]] ++ T2).length = 2 + T2.length := by rw [List.length_append]; rfl
    refine oo_appendR (k := 2 + T2.length) (j := T3.length) wanted_none (by exact slotq) (Rem.next (Rem.app Rem.here)) (seg_full (by rw [tpC_len, l12])) (tpC_all hT12) (by exact slotq) .here (seg_full (tpC_len T3)) b0 (tpC_all b2) (by omega) (by omega) ?_
    intro i12
    have hd : (tpC ([gN j1 5 [ql.getD 0 0], gN j2 5 [ql.getD 1 0]] ++ T2)).drop (0 + (2 + T2.length + T3.length) * 6) = [] := List.drop_eq_nil_of_le (by rw [tpC_len, l12]; omega)
    rw [hd, List.append_nil, ← tpC_app]
    repeat (first | intro id | refine goq ?_)
    ((first | apply retO_r | apply retO_n); (focus (exact resq)))
    refine ⟨(i12, tpC ([gN j1 5 [ql.getD 0 0], gN j2 5 [ql.getD 1 0]] ++ T2 ++ T3)) :: (tpH ([gN j1 5 [ql.getD 0 0], gN j2 5 [ql.getD 1 0]] ++ T2 ++ T3) ++ L), ?_, [gN j1 5 [ql.getD 0 0], gN j2 5 [ql.getD 1 0]] ++ T2 ++ T3, i12, none, by rw [List.length_append, l12]; rfl, by simp, by rw [List.length_append, l12]; omega, trOk_app hT12 b2, ?_, rfl⟩
    · rw [tpH_app, tpH_app]
      simp only [List.append_assoc, tpH, gN, List.flatMap_cons, List.flatMap_nil, List.append_nil, List.cons_append, List.nil_append]
      exact subq
    · rw [tpO_app, tpO_app, a3, b3, hw]
      rfl
  by_cases k16 : k = 16
  · subst k16
    refine CallO.to (callO_open rfl n_phasorref18_written ?_)
    have hq1 := RowA.isOne hq
    have ll : ql.length = 2 := by have : arity 16 = 2 := rfl; omega
    have hw : wrO (o1 16 ql) = wrO (o1 14 ql) ++ wrO (o1 13 ql) ++ [gq (o1 16 ql) 6 [ql.getD 0 0], gq (o1 16 ql) 6 [ql.getD 1 0]] := rfl
    refine bodyO_of (Nat.le_of_ble_eq_true rfl) ?_; generalize ht : argSlots _ 0 .nil = t; have h0 : t.get 0 = some _ := (by rw [← ht]; rfl); have h1 : t.get 1 = some _ := (by rw [← ht]; rfl); clear ht
    repeat (first | intro id | refine goq ?_)
    refine gok ?_
    refine (rw_leaf (k := 14) hq (by rw [ll]; rfl) (by decide) (by decide) (by decide)).mono ?_
    rintro r L' ⟨T1, i8, rfl, b0, b1, b2, b3, rfl⟩
    have l1 : T1.length = 3 := wr_len b3 rfl
    repeat (first | intro id | refine goq ?_)
    refine gok ?_
    refine (rw_leaf (k := 13) hq (by rw [ll]; rfl) (by decide) (by decide) (by decide)).mono ?_
    rintro r L' ⟨T2, i9, rfl, a0, a1, a2, a3, rfl⟩
    have l2 : T2.length = 3 := wr_len a3 rfl
    refine oo_appendFS wanted_none (by exact slotq) (.next (In.app .here)) (seg_full (tpC_len T1)) (tpC_all b2) (by exact slotq) .here (seg_full (tpC_len T2)) a0 (tpC_all a2) (by omega) (by omega) ?_
    intro i10
    repeat (first | intro id | refine goq ?_)
    refine gok ?_
    refine (one1_open (q := [ql.getD 0 0]) rfl (by simp) (by simp) .here).mono ?_
    rintro r L' ⟨j1, rfl, rfl⟩
    repeat (first | intro id | refine goq ?_)
    refine gok ?_
    refine (one1_open (q := [ql.getD 1 0]) rfl (by simp) (by simp) .here).mono ?_
    rintro r L' ⟨j2, rfl, rfl⟩
    refine oo_buildSlice (cs := tpC [gN j1 6 [ql.getD 0 0], gN j2 6 [ql.getD 1 0]]) wanted_none (argParts_cons (by exact slotq) (argParts_cons (by exact slotq) argParts_nil)) (by rfl) ?_
    intro i11
    rw [← tpC_app]
    have hT12 : TrOk (T1 ++ T2) := trOk_app b2 a2
    have l12 : (T1 ++ T2).length = T1.length + T2.length := List.length_append
    have hT3 : TrOk [gN j1 6 [ql.getD 0 0], gN j2 6 [ql.getD 1 0]] := trOk_n (by simp) (trOk_n (by simp) trOk_nil)
    refine oo_appendR (k := T1.length + T2.length) (j := 2) (cs := tpC (T1 ++ T2)) wanted_none (by exact slotq) (by exact remq) (seg_full (by rw [tpC_len, l12])) (tpC_all hT12) (by exact slotq) .here (seg_full (tpC_len [gN j1 6 [ql.getD 0 0], gN j2 6 [ql.getD 1 0]])) (by omega) (tpC_all hT3) (by omega) (by omega) ?_
    intro i12
    have hd : (tpC (T1 ++ T2)).drop (0 + (T1.length + T2.length + 2) * 6) = [] := List.drop_eq_nil_of_le (by rw [tpC_len, l12]; omega)
    rw [hd, List.append_nil, ← tpC_app]
    repeat (first | intro id | refine goq ?_)
    ((first | apply retO_r | apply retO_n); (focus (exact resq)))
    refine ⟨(i12, tpC (T1 ++ T2 ++ [gN j1 6 [ql.getD 0 0], gN j2 6 [ql.getD 1 0]])) :: (tpH (T1 ++ T2 ++ [gN j1 6 [ql.getD 0 0], gN j2 6 [ql.getD 1 0]]) ++ L), ?_, T1 ++ T2 ++ [gN j1 6 [ql.getD 0 0], gN j2 6 [ql.getD 1 0]], i12, none, by rw [List.length_append, l12]; rfl, by simp; omega, by rw [List.length_append, l12]; simp; omega, trOk_app hT12 hT3, ?_, rfl⟩
    · rw [tpH_app, tpH_app]
      simp only [List.append_assoc, tpH, gN, List.flatMap_cons, List.flatMap_nil, List.append_nil, List.cons_append, List.nil_append]
      exact subq
    · rw [tpO_app, tpO_app, a3, b3, hw]
      rfl
  refine (rw_leaf hq hl ha k15 k16).mono ?_
  rintro r L' ⟨T, id, rfl, a0, a1, a2, a3, rfl⟩
  exact ⟨T, id, _, rfl, a0, a1, a2, a3, rfl⟩
end Go.Proofs.YtmflheoafeenfaaGreat
