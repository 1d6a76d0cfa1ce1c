/- Parts of the proof, joined by program: RwP8, RwQ1, RwQ2, RwM1, RwM2. -/
import Derived.Test.YtmflheoafeenfaaPa11
set_option linter.unusedSimpArgs false
set_option linter.unusedVariables false
namespace Go.Proofs.Ytmflheoafeenfaa
open Go.Am
set_option maxRecDepth 4000
set_option maxHeartbeats 16000000
variable {E : Env} {L : Hp}
theorem OrdO.shape {c : CircD} {r : AVal} {B : Hp} (h : OrdO c r B) : ∃ (q b e : Int) (s : AVal) (d : CircD), r = .tup [.agg [aint q, aint b, s], aint e] ∧ s.one = true ∧ CircO (.agg [aint q, aint b, s]) d B ∧ ((¬ CircOk c ∧ e = 80 ∧ d = ⟨0, 0, []⟩) ∨ (CircOk c ∧ e = 0 ∧ d = ⟨c.qubits, c.bits, ordL c.ops⟩)) := by
  rcases h with ⟨h, rfl, rfl⟩ | ⟨h, v, rfl, hv⟩
  · exact ⟨0, 0, 80, anil, ⟨0, 0, []⟩, rfl, rfl, ⟨anil, [], [], [], rfl, .nil, .nil, by simp, rfl⟩, .inl ⟨h, rfl, rfl⟩⟩
  · have hv0 := hv
    obtain ⟨s, cs, Bs, H, rfl, hb, -, -, -⟩ := hv
    exact ⟨c.qubits, c.bits, 0, s, _, rfl, hb.isOne, hv0, .inr ⟨h, rfl, rfl⟩⟩
theorem Reorders_ok (hF : E.fns = fnsT) (hmR : E.mode f_rewrite_Reorders = .iso false) (hmO : E.mode f_rewrite_Order = .open_) (hm : E.mode f_rewrite_Touch = .iso false) (hma : E.mode f_rewrite_asks = .iso false) (hm1 : E.mode f_rewrite_Touch_1 = .iso false) (hm2 : E.mode f_rewrite_Touch_2 = .iso false) (hmc : E.mode f_slices_Contains_int_int = .iso false) (hmi : E.mode f_slices_Index_int_int = .iso false) (hmcf : E.mode f_slices_ContainsFunc_int_int = .iso false) (hmif : E.mode f_slices_IndexFunc_int_int = .iso false) (hcm : E.mode f_rewrite_compare = .iso false) (hcst : still E c_rewrite_compare_r1 = true) (hcmo : E.mode f_cmp_Or_int = .iso false) (hcms : E.mode f_slices_Compare_int_int = .iso false) (hcmc : E.mode f_cmp_Compare_int = .iso false) (hcmn : E.mode f_cmp_isNaN_int = .iso false) (hcmc1 : E.mode f_cmp_Compare_api_OpKind = .iso false) (hcmn1 : E.mode f_cmp_isNaN_api_OpKind = .iso false) (hcmc2 : E.mode f_cmp_Compare_api_GateKind = .iso false) (hcmn2 : E.mode f_cmp_isNaN_api_GateKind = .iso false) (hst14 : still E c_rewrite_Order_r14 = true) (hst24 : still E c_rewrite_Order_r24 = true) (hst27 : still E c_rewrite_Order_r27 = true) (hst31 : still E c_rewrite_Order_r31 = true) (hcC : E.mode f_circuit_Check = .iso false) (hmm : E.mode f_circuit_may = .iso false) (hmg : E.mode f_gate_Check = .iso false) (hmA : E.mode f_gate_Arity = .iso false) (hmo : E.mode f_gate_of = .iso false) (hmt : E.mode f_gate_table = .iso false) (hmcp : E.mode f_circuit_Copy = .open_) (hmcl : E.mode f_slices_Clone_int_int = .open_)
    (hmS : E.mode f_circuit_Same = .iso false) (hmE : E.mode f_slices_EqualFunc_api_Op_api_Op_api_Op_api_Op = .iso false) (hmS1 : E.mode f_circuit_Same_1 = .iso false) (hmEi : E.mode f_slices_Equal_int_int = .iso false) (hstE : still E c_slices_Equal_int_int_r6 = true)
    {v w : AVal} {c d : CircD} (hv : CircA v c) (hw : CircA w d) (hsc : Small c) (hsd : Small d) : CallO E f_rewrite_Reorders [v, w] L fun r L' => ReoR c d r ∧ L' = L := by
  refine callO_iso0 (R := ReoR c d) hmR (fns_of hF n_rewrite_Reorders) (vs_bare hv.bare (vs_bare hw.bare vs_nil)) ?_
  have hv0 := hv
  have hw0 := hw
  obtain ⟨sv, rfl, hvo⟩ := hv
  obtain ⟨sw, rfl, hwo⟩ := hw
  have hsv1 : sv.one = true := by obtain ⟨_, hr, -, -⟩ := hvo; exact RowA.isOne hr
  have hsw1 : sw.one = true := by obtain ⟨_, hr, -, -⟩ := hwo; exact RowA.isOne hr
  refine bodyO_of (Nat.le_of_ble_eq_true rfl) ?_; generalize ht : argSlots _ 0 .nil = t; have h0 : t.get 0 = some _ := (by rw [← ht]; rfl); have h1 : t.get 1 = some _ := (by rw [← ht]; rfl); clear ht
  repeat (first | intro id | refine goq ?_)
  refine gok ?_
  refine (Order_open hF hmO hm hma hm1 hm2 hmc hmi hmcf hmif hcm hcst hcmo hcms hcmc hcmn hcmc1 hcmn1 hcmc2 hcmn2 hst14 hst24 hst27 hst31 hcC hmm hmg hmA hmo hmt hmcp hmcl hv0 hsc).mono ?_
  rintro r L' ⟨B1, hB1, rfl⟩
  obtain ⟨q1, b1, e1, s1, d1, rfl, s11, hC1, h1⟩ := hB1.shape
  repeat (first | intro id | refine goq ?_)
  rcases h1 with ⟨h1, rfl, rfl⟩ | ⟨h1, rfl, rfl⟩
  · repeat (first | intro id | refine goq ?_)
    ((first | apply retO_r | apply retO_n); (focus (exact resq)))
    exact ⟨rfl, .inl ⟨fun h => h1 h.1, rfl⟩⟩
  · repeat (first | intro id | refine goq ?_)
    refine gok ?_
    refine (Order_open hF hmO hm hma hm1 hm2 hmc hmi hmcf hmif hcm hcst hcmo hcms hcmc hcmn hcmc1 hcmn1 hcmc2 hcmn2 hst14 hst24 hst27 hst31 hcC hmm hmg hmA hmo hmt hmcp hmcl hw0 hsd).mono ?_
    rintro r L' ⟨B2, hB2, rfl⟩
    obtain ⟨q2, b2, e2, s2, d2, rfl, s21, hC2, h2⟩ := hB2.shape
    repeat (first | intro id | refine goq ?_)
    rcases h2 with ⟨h2, rfl, rfl⟩ | ⟨h2, rfl, rfl⟩
    · repeat (first | intro id | refine goq ?_)
      ((first | apply retO_r | apply retO_n); (focus (exact resq)))
      exact ⟨rfl, .inl ⟨fun h => h2 h.2, rfl⟩⟩
    · repeat (first | intro id | refine goq ?_)
      refine gok ?_
      have key : ∀ M : Hp, (∀ id c, In id c B1 → In id c M) → (∀ id c, In id c B2 → In id c M) → CallO E f_circuit_Same [.agg [aint q1, aint b1, s1], .agg [aint q2, aint b2, s2]] M fun v L' => (∃ x, v = abool x ∧ (x = true ↔ (⟨c.qubits, c.bits, ordL c.ops⟩ : CircD) = ⟨d.qubits, d.bits, ordL d.ops⟩)) ∧ L' = M := fun M hM1 hM2 => by
        obtain ⟨u1, k1, v1⟩ := hC1.views hM1
        obtain ⟨u2, k2, v2⟩ := hC2.views hM2
        exact CSame_ok hF hmS hmE hmS1 hmEi hstE (v1 _ _ (v2 _ _ vs_nil)) k1 k2
      refine (key _ ?_ ?_).mono ?_
      · intro id c hi
        first | exact .next (hi.appl) | exact .next (.next (hi.appl)) | exact .next (.app (.next (hi.appl))) | exact .next (.app (.next (.next hi.appl))) | skip
        repeat (first | exact hi.appl | exact hi | apply In.next | apply In.app)
      · intro id c hi
        first | exact .next (hi.appl) | skip
        repeat (first | exact hi.appl | exact hi | apply In.next | apply In.app)
      · rintro r L' ⟨⟨x, rfl, hx⟩, rfl⟩
        repeat (first | intro id | refine goq ?_)
        ((first | apply retO_r | apply retO_n); (focus (exact resq)))
        exact ⟨rfl, .inr ⟨h1, h2, x, rfl, hx⟩⟩
theorem ReoR.same {c d : CircD} {u w : AVal} (h : ReoR c d u) (k : ReoR c d w) : w = u ∧ ∃ x e, u = .tup [abool x, aint e] := by
  rcases h with ⟨h1, rfl⟩ | ⟨h1, h2, x, rfl, h3⟩
  · rcases k with ⟨k1, rfl⟩ | ⟨k1, k2, y, rfl, k3⟩
    · exact ⟨rfl, _, _, rfl⟩
    · exact (h1 ⟨k1, k2⟩).elim
  · rcases k with ⟨k1, rfl⟩ | ⟨k1, k2, y, rfl, k3⟩
    · exact (k1 ⟨h1, h2⟩).elim
    · have : x = y := by
        have := h3.trans k3.symm
        cases x <;> cases y <;> simp_all
      subst this
      exact ⟨rfl, _, _, rfl⟩
theorem num18_ok (hF : E.fns = fnsT) (hm : E.mode f_phasorlaw18_num = .iso false) (n : Int) : CallO E f_phasorlaw18_num [aint n] L fun v L' => v = aint n ∧ L' = L := by
  refine callO_iso0 hm (fns_of hF n_phasorlaw18_num) (vs_bare rfl vs_nil) ?_
  refine bodyO_of (Nat.le_of_ble_eq_true rfl) ?_; generalize ht : argSlots _ 0 .nil = t; have h0 : t.get 0 = some _ := (by rw [← ht]; rfl); clear ht
  repeat (first | intro id | refine goq ?_)
  ((first | apply retO_r | apply retO_n); (focus (exact resq)))
  exact ⟨rfl, rfl⟩
end Go.Proofs.Ytmflheoafeenfaa
namespace Go.Proofs.Ytmflheoafeenfaa
open Go.Am
set_option maxRecDepth 4000
set_option maxHeartbeats 16000000
variable {E : Env} {L : Hp}
theorem viewAll_self {m : Mem} : ∀ {vs : List AVal}, vs.all AVal.bare = true → viewAll m vs = some vs
  | [], _ => rfl
  | v :: vs, h => by
    simp only [List.all_cons, Bool.and_eq_true] at h
    exact va_bare h.1 (viewAll_self h.2)
/-- What a function by itself does with rows, it does with boxes that are seen asq those. -/
theorem callO_seen {f : FuncId} {fn : AFn} {args vs : List AVal} {R : AVal → Prop} (hm : E.mode f = .iso false) (hf : E.fns f = some fn) (hv : ViewsO L args vs) (hb : vs.all AVal.bare = true) (h : CallO E f vs [] fun v L' => R v ∧ L' = []) (hR : ∀ v, R v → v.flat = true) : CallO E f args L fun v L' => R v ∧ L' = L :=
  ⟨fun m ho => by
    obtain ⟨n, v, m1, h1, L1, h2, h3, h4⟩ := h.ex ⟨.nil, 0, 0⟩ Ows.nil
    cases n with
    | zero => simp [callF] at h1
    | succ n =>
      refine ⟨n + 1, v, m, ?_, L, ho, h3, rfl⟩
      unfold callF at h1 ⊢
      simp only [hm, hf, viewAll_self hb, hv.ex m ho] at h1 ⊢
      split at h1
      · rename_i v' m' hb'
        simp only [Bool.false_eq_true, if_false] at h1
        split at h1
        · simp only [Option.some.injEq, Prod.mk.injEq] at h1
          obtain ⟨rfl, _⟩ := h1
          simp [hR _ h3]
        · cases h1
      · cases h1⟩
theorem oo_appendFB {t : Tr AVal} {K : Tr AVal → Hp → Prop} {l : List AO} {g : Option (Option Nat × Bool)} {n d : Nat} {x y : Arg} {bytes id off k esz j i : Nat} {cap : Option Nat} {cs old nw : List AVal} (hg : wantedA t g = some true) (hx : x.get t = some (.sl id off k esz (some k))) (hi : In id cs L) (hs : seg cs off (k * esz) = some old) (ho : old.all AVal.one = true) (hy : y.get t = some (.sl i 0 j esz cap)) (hj : In i nw L) (h0 : 0 < j) (hl : nw.length = j * esz) (h1 : nw.all AVal.one = true) (hr1 : (k + j) * bytes ≤ 140737488355328) (hr2 : k + j ≤ 140737488355328)
    (h : ∀ id2, OpsO E l (t.set d (some (.sl id2 0 (k + j) esz none))) ((id2, old ++ nw) :: L) K) : OpsO E (⟨some d, .append esz bytes x y, g, n⟩ :: l) t L K := ⟨fun m hm => by
  have hsc : sliceCells m esz j (.sl i 0 j esz cap) = some nw := by
    simp only [sliceCells, if_true, hm.get hj]
    exact seg_full hl
  exact ops_s hg (op_append hx hy (.full (hm.get hi) hs) rfl hsc h0 hr1 hr2 h1 ho) ((h m.next).ex _ hm.new)⟩
theorem CloneB_open (hF : E.fns = fnsT) (hm : E.mode f_slices_Clone_int_int = .open_) {u : AVal} {l : List Int} {B : Hp} (hu : OwnI u l B) (hi : ∀ id c, In id c B → In id c L) (hl : l.length ≤ 2000000) : CallO E f_slices_Clone_int_int [u] L fun r L' => ∃ B, OwnI r l B ∧ L' = B ++ L := by
  rcases hu with ⟨rfl, rfl, -⟩ | ⟨iq, cap, rfl, rfl⟩
  · exact Clone_open hF hm (.inl ⟨rfl, rfl, rfl⟩) (by simp)
  · have hin := hi iq _ .here
    refine CallO.to (callO_open hm (fns_of hF n_slices_Clone_int_int) ?_)
    refine bodyO_of (Nat.le_of_ble_eq_true rfl) ?_; generalize ht : argSlots _ 0 .nil = t; have h0 : t.get 0 = some _ := (by rw [← ht]; rfl); clear ht
    repeat (first | intro id | refine goq ?_)
    by_cases hl0 : l.length = 0
    · have : l = [] := List.eq_nil_of_length_eq_zero hl0
      subst this
      refine oo_append0 wanted_none (by exact slotq) rfl (by exact slotq) rfl ?_
      repeat (first | intro id | refine goq ?_)
      ((first | apply retO_r | apply retO_n); (focus (exact resq)))
      exact ⟨_, by exact subq, [(id, [])], .inr ⟨id, some 0, rfl, rfl⟩, rfl⟩
    · refine oo_appendFB wanted_none (by exact slotq) .here (old := []) rfl rfl (by exact slotq) (.next hin) (by omega) (by simp) (all_one_ints _) (by omega) (by omega) ?_
      intro id2
      repeat (first | intro id | refine goq ?_)
      ((first | apply retO_r | apply retO_n); (focus (exact resq)))
      exact ⟨_, by exact subq, [(id2, l.map aint)], .inr ⟨id2, none, by simp [resultV], rfl⟩, rfl⟩
theorem ccopyB_l0 (hF : E.fns = fnsT) (hmc : E.mode f_slices_Clone_int_int = .open_) {c : CircD} {cs0 : List AVal} {H0 : Hp} {u : Nat → AVal} {Bf : Nat → Hp} (hf : OpsF cs0 c.ops H0 u Bf) {i3 ic : Nat} (hsm : Small c) :
    ∀ (d k : Nat) (t : Tr AVal) (a : AVal) (cs : List AVal) (B H : Hp), d + k = c.ops.length → t.get 3 = some (.ptr i3 0) → t.get 12 = some (.sl ic 0 c.ops.length 6 none) → t.get 13 = some (aint c.ops.length) → t.get 14 = some (aint k) → BufO 6 a cs k B → OpsB cs (c.ops.take k) H →
    WpO E (.loop c_circuit_Copy_l0) t ((i3, [aint c.qubits, aint c.bits, a]) :: (B ++ (H ++ ((ic, cs0) :: (H0 ++ L))))) (fun ex t' L' => ex = .exit 0 ∧ Keep [1, 2, 3] t t' ∧ ∃ a' cs' B' H', BufO 6 a' cs' c.ops.length B' ∧ OpsB cs' c.ops H' ∧ L' = (i3, [aint c.qubits, aint c.bits, a']) :: (B' ++ (H' ++ ((ic, cs0) :: (H0 ++ L))))) := by
  have hsm1 := hsm.ops
  have hlen := hf.len
  intro d
  induction d with
  | zero =>
    intro k t a cs B H hk h3 h12 h13 h14 hb ho
    obtain rfl : k = c.ops.length := by omega
    refine wo_loop ?_
    repeat (first | intro id | refine goq ?_)
    rw [List.take_length] at ho
    exact ⟨rfl, by exact keepq, a, cs, B, H, hb, ho, rfl⟩
  | succ d ih =>
    intro k t a cs B H hk h3 h12 h13 h14 hb ho
    have hkl : k < c.ops.length := by omega
    have hseg := hf.seg k hkl
    have hown := hf.own k hkl
    have hqb := hf.ql k hkl
    have hql : (gO c.ops k).qs.length ≤ 2000000 := hsm.qs k hkl
    have htk := takeO_snoc hkl
    have hbx := hf.box hkl
    have hgo : c.ops.getD k default = gO c.ops k := rfl
    rw [hgo] at htk
    generalize gO c.ops k = o at *
    have hu1 := hown.isOne
    have ha1 := hb.isOne
    unfold opCells at hseg
    refine wo_loop ?_
    repeat (first | intro id | refine goq ?_)
    refine gok ?_
    refine (CloneB_open hF hmc hown (fun id c hi => .next (.next (In.app (In.app (.next (hbx id c hi).appl))))) hql).mono ?_
    rintro w L' ⟨C, hw, rfl⟩
    have hw1 := hw.isOne
    repeat (first | intro id | refine goq ?_)
    have hb2 := hb.pushed (id := id) (nw := opCells w o) rfl (by simp only [opCells, List.all_cons, List.all_nil, hw1, Bool.and_true]; rfl)
    have ho2 := ho.snoc hw hqb
    rw [← htk] at ho2
    refine WpO.weak (WpO.mono (ih (k + 1) _ _ _ _ _ (by omega) ?_ ?_ ?_ ?_ hb2 ho2) ?_) ?_
    · exact slotq
    · exact slotq
    · exact slotq
    · exact slotq
    · rintro ex t' L' ⟨e1, e2, e3⟩
      exact ⟨e1, Keep.trans (by exact keepq) e2, e3⟩
    · rw [List.append_assoc]
      exact subq
theorem CCopyB_open (hF : E.fns = fnsT) (hm : E.mode f_circuit_Copy = .open_) (hmc : E.mode f_slices_Clone_int_int = .open_) {c : CircD} {v : AVal} {B : Hp} (hv : CircO v c B) (hsm : Small c) : CallO E f_circuit_Copy [v] (B ++ L) fun r L' => ∃ B', CircO r c B' ∧ L' = B' ++ (B ++ L) := by
  refine CallO.to (callO_open hm (fns_of hF n_circuit_Copy) ?_)
  obtain ⟨s, cs, Bs, H, rfl, hb, ho, hlt, rfl⟩ := hv
  have hs1 := hb.isOne
  obtain ⟨u, Bf, hf⟩ := ho.fn
  refine bodyO_of (Nat.le_of_ble_eq_true rfl) ?_; generalize ht : argSlots _ 0 .nil = t; have h0 : t.get 0 = some _ := (by rw [← ht]; rfl); clear ht
  repeat (first | intro id | refine goq ?_)
  rename_i i1 i2
  rcases bufInv hb with ⟨rfl, hcs0, hn0, rfl⟩ | ⟨ic, rfl, rfl⟩
  · have hos : c.ops = [] := List.eq_nil_of_length_eq_zero hn0
    refine WpO.mono (Q := fun ex t' L' => ex = .exit 0 ∧ t'.get 2 = some (.ptr i2 0) ∧ t'.get 3 = some (.ptr id 0) ∧ Am.Sub ((id, [aint c.qubits, aint c.bits, anil]) :: (i2, [aint 0, aint 0, anil]) :: ([] ++ H ++ L)) L') ?_ ?_
    · refine wo_loop ?_
      repeat (first | intro id | refine goq ?_)
      exact ⟨rfl, by exact slotq, by exact slotq, by exact subq⟩
    · rintro ex t' L' ⟨rfl, g2, g3, hsub⟩
      refine blkO.x (seqO.n (WpO.weak ?_ hsub))
      repeat (first | intro id | refine goq ?_)
      ((first | apply retO_r | apply retO_n); (focus (exact resq)))
      exact ⟨[] ++ H ++ L, by exact subq, [], ⟨anil, [], [], [], rfl, by rw [hos]; exact .nil, by rw [hos]; exact .nil, hlt, rfl⟩, rfl⟩
  · refine WpO.weak (WpO.mono (ccopyB_l0 hF hmc hf (L := (i2, [aint 0, aint 0, anil]) :: L) (i3 := id) (ic := ic) hsm c.ops.length 0 _ anil [] [] [] (by omega) ?_ ?_ ?_ ?_ .nil .nil) ?_) (by exact subq)
    · exact slotq
    · exact slotq
    · exact slotq
    · exact slotq
    rintro ex t' L' ⟨rfl, hK, a', cs', B', H', hb', ho', rfl⟩
    have g2 : t'.get 2 = some (.ptr i2 0) := (hK.ex 2 rfl).trans (by exact slotq)
    have g3 : t'.get 3 = some (.ptr id 0) := (hK.ex 3 rfl).trans (by exact slotq)
    have ha1 := hb'.isOne
    repeat (first | intro id | refine goq ?_)
    ((first | apply retO_r | apply retO_n); (focus (exact resq)))
    refine ⟨(B' ++ H') ++ (([(ic, cs)] ++ H) ++ L), ?_, B' ++ H', ⟨a', cs', B', H', rfl, hb', ho', hlt, rfl⟩, rfl⟩
    simp only [List.append_assoc]
    exact subq
end Go.Proofs.Ytmflheoafeenfaa
namespace Go.Proofs.Ytmflheoafeenfaa
open Go.Am
set_option maxRecDepth 4000
set_option maxHeartbeats 16000000
variable {E : Env} {L : Hp}
theorem Order_openB (hF : E.fns = fnsT) (hmO : E.mode f_rewrite_Order = .open_) (hm : E.mode f_rewrite_Touch = .iso false) (hma : E.mode f_rewrite_asks = .iso false) (hm1 : E.mode f_rewrite_Touch_1 = .iso false) (hm2 : E.mode f_rewrite_Touch_2 = .iso false) (hmc : E.mode f_slices_Contains_int_int = .iso false) (hmi : E.mode f_slices_Index_int_int = .iso false) (hmcf : E.mode f_slices_ContainsFunc_int_int = .iso false) (hmif : E.mode f_slices_IndexFunc_int_int = .iso false) (hcm : E.mode f_rewrite_compare = .iso false) (hcst : still E c_rewrite_compare_r1 = true) (hcmo : E.mode f_cmp_Or_int = .iso false) (hcms : E.mode f_slices_Compare_int_int = .iso false) (hcmc : E.mode f_cmp_Compare_int = .iso false) (hcmn : E.mode f_cmp_isNaN_int = .iso false) (hcmc1 : E.mode f_cmp_Compare_api_OpKind = .iso false) (hcmn1 : E.mode f_cmp_isNaN_api_OpKind = .iso false) (hcmc2 : E.mode f_cmp_Compare_api_GateKind = .iso false) (hcmn2 : E.mode f_cmp_isNaN_api_GateKind = .iso false) (hst14 : still E c_rewrite_Order_r14 = true) (hst24 : still E c_rewrite_Order_r24 = true) (hst27 : still E c_rewrite_Order_r27 = true) (hst31 : still E c_rewrite_Order_r31 = true)
    (hcC : E.mode f_circuit_Check = .iso false) (hmm : E.mode f_circuit_may = .iso false) (hmg : E.mode f_gate_Check = .iso false) (hmA : E.mode f_gate_Arity = .iso false) (hmo : E.mode f_gate_of = .iso false) (hmt : E.mode f_gate_table = .iso false) (hmcp : E.mode f_circuit_Copy = .open_) (hmcl : E.mode f_slices_Clone_int_int = .open_)
    {v : AVal} {c : CircD} {B0 : Hp} (hv : CircO v c B0) (hsm : Small c) : CallO E f_rewrite_Order [v] (B0 ++ L) fun r L' => ∃ B, OrdO c r B ∧ L' = B ++ (B0 ++ L) := by
  refine CallO.to (callO_open hmO (fns_of hF n_rewrite_Order) ?_)
  have hv0 := hv
  have ck : ∀ M : Hp, (∀ id c, In id c B0 → In id c M) → CallO E f_circuit_Check [v] M fun r L' => chkE c r ∧ L' = M := fun M hM => by
    obtain ⟨u, k1, v1⟩ := hv.views hM
    exact callO_seen hcC (fns_of hF n_circuit_Check) (v1 _ _ vs_nil) (by simp [k1.bare]) (Check_okC hF hcC hmm hmg hmA hmo hmt hmc hmi k1) (fun r hr => by
      obtain ⟨i, e, rfl, -⟩ := hr
      rfl)
  have cp := fun (M : Hp) => CCopyB_open (L := M) hF hmcp hmcl hv0 hsm
  obtain ⟨so, cs0, Bs0, H00, rfl, hb00, -, -, -⟩ := hv
  have hso1 := hb00.isOne
  have hsm1 := hsm.ops
  refine bodyO_of (Nat.le_of_ble_eq_true rfl) ?_; generalize ht : argSlots _ 0 .nil = t; have h0 : t.get 0 = some _ := (by rw [← ht]; rfl); clear ht
  repeat (first | intro id | refine goq ?_)
  rename_i i1
  have z1 : AVal.sc (Value.int .i64 0) = aint 0 := rfl
  have z2 : AVal.sc (Value.slice none 0 0) = anil := rfl
  simp only [z1, z2]
  refine gok ?_
  refine (ck _ (fun id c hi => .next (.next hi.appl))).mono ?_
  rintro w L' ⟨⟨ie, e, rfl, hce⟩, rfl⟩
  rcases hce with ⟨rfl, hC⟩ | ⟨rfl, hC⟩
  · repeat (first | intro id | refine goq ?_)
    refine gok ?_
    refine CallO.weak (CallO.mono (cp ((id, [aint 0, aint 0, anil]) :: L)) ?_) (by exact subq)
    rintro r L' ⟨B, hB, rfl⟩
    obtain ⟨so2, cs, Bs, H, rfl, hb, hob, hlt2, rfl⟩ := hB
    have so21 := hb.isOne
    have hqp : QsPos c.ops := fun j hj => ok_qs_pos (hC.ok j hj)
    obtain ⟨u, Bf, hf⟩ := hob.fn
    have hHl := ordL_length c.ops
    rcases bufInv hb with ⟨rfl, hcs0, hn0, rfl⟩ | ⟨ic, rfl, rfl⟩
    · have hos : c.ops = [] := List.eq_nil_of_length_eq_zero hn0
      repeat (first | intro id | refine goq ?_)
      rename_i i2 i6
      refine WpO.mono (Q := fun ex t' L' => ex = .exit 0 ∧ t'.get 2 = some (.ptr i2 0) ∧ t'.get 6 = some (.ptr i6 0) ∧ t'.get 7 = some anil ∧ Am.Sub ((i6, [aint c.qubits, aint c.bits, anil]) :: (i2, [aint 0, aint 0, anil]) :: (H ++ (B0 ++ L))) L') ?_ ?_
      · refine wo_loop ?_
        repeat (first | intro id | refine goq ?_)
        exact ⟨rfl, by exact slotq, by exact slotq, by exact slotq, by exact subq⟩
      · rintro ex t1 L' ⟨rfl, g2, g6, g7, hsub⟩
        refine blkO.x (seqO.n (WpO.weak ?_ hsub))
        repeat (first | intro id | refine goq ?_)
        refine wo_loop ?_
        repeat (first | intro id | refine goq ?_)
        ((first | apply retO_r | apply retO_n); (focus (exact resq)))
        refine ⟨B0 ++ L, by exact subq, [], .inr ⟨hC, _, rfl, anil, [], [], [], rfl, by rw [hos]; exact BufO.nil, by rw [hos]; exact .nil, by rw [hHl]; omega, rfl⟩, rfl⟩
    · repeat (first | intro id | refine goq ?_)
      rename_i i2 i6
      generalize hnn : c.ops.length = n at *
      refine WpO.weak (WpO.mono (order_l1 hF hm hma hm1 hm2 hmc hmi hmcf hmif hst14 hf (L := (i6, [aint c.qubits, aint c.bits, anil]) :: (i2, [aint 0, aint 0, anil]) :: (B0 ++ L)) (iw := id) (ic := ic) (n := n) hnn.symm (by omega) n 0 _ (List.replicate n 0) (by omega) (by simp) ?_ ?_ ?_ ?_ ?_) ?_) ?_
      · intro k hk
        rw [if_neg (by omega)]
        simp [hk]
      · exact slotq
      · exact slotq
      · exact slotq
      · exact slotq
      · rintro ex t1 L' ⟨rfl, hK, ws1, hw1, hW1, rfl⟩
        have g2 : t1.get 2 = some (.ptr i2 0) := (hK.ex 2 rfl).trans (by exact slotq)
        have g6 : t1.get 6 = some (.ptr i6 0) := (hK.ex 6 rfl).trans (by exact slotq)
        have g7 : t1.get 7 = some (.sl ic 0 n 6 none) := (hK.ex 7 rfl).trans (by exact slotq)
        have g8 : t1.get 8 = some (.sl id 0 n 1 (some n)) := (hK.ex 8 rfl).trans (by exact slotq)
        clear hK
        refine blkO.x (seqO.n ?_)
        repeat (first | intro id | refine goq ?_)
        refine WpO.weak (WpO.mono (order_l4 hF hm hma hm1 hm2 hmc hmi hmcf hmif hcm hcst hcmo hcms hcmc hcmn hcmc1 hcmn1 hcmc2 hcmn2 hst24 hst27 hst31 hf (L := (i2, [aint 0, aint 0, anil]) :: (B0 ++ L)) (i6 := i6) (iw := id) (ic := ic) (n := n) (cq := c.qubits) (cb := c.bits) hnn.symm (by omega) hqp n _ [] ws1 anil [] (by simp) List.nodup_nil (fun j hj => by simp at hj) (fun j hj => by simp at hj) hw1 hW1 ?_ (by simpa [tcells] using BufO.nil) ?_ ?_ ?_ ?_ ?_) ?_) (by exact subq)
        · rw [← hnn, rem_nil]
          rfl
        · exact slotq
        · exact slotq
        · exact slotq
        · exact slotq
        · exact slotq
        · rintro ex t2 L' ⟨rfl, hK2, a', cs', B', H', hb', ho', hsub⟩
          have k2 : t2.get 2 = some (.ptr i2 0) := (hK2.ex 2 rfl).trans (by exact slotq)
          have k6 : t2.get 6 = some (.ptr i6 0) := (hK2.ex 6 rfl).trans (by exact slotq)
          clear hK2
          have a1 := hb'.isOne
          refine blkO.x (seqO.n (WpO.weak ?_ hsub))
          repeat (first | intro id | refine goq ?_)
          ((first | apply retO_r | apply retO_n); (focus (exact resq)))
          refine ⟨B' ++ (H' ++ (B0 ++ L)), by exact subq, B' ++ H', .inr ⟨hC, _, rfl, a', cs', B', H', rfl, ?_, ho', by rw [hHl]; omega, rfl⟩, by rw [List.append_assoc]⟩
          rw [hHl]
          exact hb'
      · have e : (List.replicate n (0 : Int)).map aint = List.replicate n (aint 0) := by simp
        rw [e]
        simp only [List.append_assoc]
        exact subq
  · repeat (first | intro id | refine goq ?_)
    ((first | apply retO_r | apply retO_n); (focus (exact resq)))
    exact ⟨B0 ++ L, by exact subq, [], .inl ⟨hC, rfl, rfl⟩, rfl⟩
end Go.Proofs.Ytmflheoafeenfaa
namespace Go.Proofs.Ytmflheoafeenfaa
open Go.Am
set_option maxRecDepth 4000
set_option maxHeartbeats 16000000
variable {E : Env} {L : Hp}
theorem RCopy_open (hF : E.fns = fnsT) (hm : E.mode f_phasorref08_Copy = .open_) {c : CircD} {v : AVal} (hv : CircA v c) (hsm : Small c) : CallO E f_phasorref08_Copy [v] L fun r L' => ∃ B, CircO r c B ∧ L' = B ++ L := by
  refine CallO.to (callO_open hm (fns_of hF n_phasorref08_Copy) ?_)
  obtain ⟨s, rfl, cs, hr, hcs, hlt⟩ := hv
  have hs1 := RowA.isOne hr
  refine bodyO_of (Nat.le_of_ble_eq_true rfl) ?_; generalize ht : argSlots _ 0 .nil = t; have h0 : t.get 0 = some _ := (by rw [← ht]; rfl); clear ht
  repeat (first | intro id | refine goq ?_)
  rename_i i1 i2
  refine WpO.weak (WpO.mono (rcopy_l0 (L := (i2, [aint 0, aint 0, anil]) :: L) (i1 := i1) (i3 := id) hr hcs hsm c.ops.length 0 _ anil [] [] [] (by omega) ?_ ?_ ?_ .nil .nil) ?_) ?_
  · exact slotq
  · exact slotq
  · exact slotq
  · rintro ex t' L' ⟨rfl, hK, a', cs', B', H', hb, ho, rfl⟩
    have g2 : t'.get 2 = some (.ptr i2 0) := (hK.ex 2 rfl).trans (by exact slotq)
    have g3 : t'.get 3 = some (.ptr id 0) := (hK.ex 3 rfl).trans (by exact slotq)
    have ha1 := hb.isOne
    repeat (first | intro id | refine goq ?_)
    ((first | apply retO_r | apply retO_n); (focus (exact resq)))
    refine ⟨(B' ++ H') ++ L, ?_, B' ++ H', ⟨a', cs', B', H', rfl, hb, ho, hlt, rfl⟩, rfl⟩
    simp only [List.append_assoc]
    exact subq
  · simp only [List.nil_append]
    exact subq
/-! Operations in boxes, in a row -/
structure Trip where
  u : AVal
  o : OpD
  B : Hp
def tpC (T : List Trip) : List AVal := T.flatMap fun p => opCells p.u p.o
def tpO (T : List Trip) : List OpD := T.map Trip.o
def tpH (T : List Trip) : Hp := T.flatMap Trip.B
def TrOk (T : List Trip) : Prop := ∀ p ∈ T, OwnI p.u p.o.qs p.B ∧ p.o.qs.length < 2 ^ 62
theorem OpsB.trip {cs : List AVal} {os : List OpD} {H : Hp} (h : OpsB cs os H) : ∃ T, TrOk T ∧ cs = tpC T ∧ os = tpO T ∧ H = tpH T := by
  induction h with
  | nil => exact ⟨[], fun p hp => (List.not_mem_nil hp).elim, rfl, rfl, rfl⟩
  | @snoc cs os H B u o h hq hb ih =>
    obtain ⟨T, h1, rfl, rfl, rfl⟩ := ih
    refine ⟨T ++ [⟨u, o, B⟩], fun p hp => ?_, by simp [tpC], by simp [tpO], by simp [tpH]⟩
    rcases List.mem_append.1 hp with hp | hp
    · exact h1 p hp
    · have := List.mem_singleton.1 hp
      subst this
      exact ⟨hq, hb⟩
theorem TrOk.app {T : List Trip} : ∀ {c0 : List AVal} {o0 : List OpD} {H0 : Hp}, OpsB c0 o0 H0 → TrOk T → OpsB (c0 ++ tpC T) (o0 ++ tpO T) (H0 ++ tpH T) := by
  induction T with
  | nil => intro c0 o0 H0 h0 _; simpa [tpC, tpO, tpH] using h0
  | cons p T ih =>
    intro c0 o0 H0 h0 hT
    have hp := hT p (by simp)
    have h1 := ih (h0.snoc hp.1 hp.2) fun q hq => hT q (by simp [hq])
    simpa [tpC, tpO, tpH] using h1
theorem TrOk.ops {T : List Trip} (h : TrOk T) : OpsB (tpC T) (tpO T) (tpH T) := by simpa using TrOk.app .nil h
theorem tpC_len (T : List Trip) : (tpC T).length = T.length * 6 := by
  induction T with
  | nil => rfl
  | cons p T ih =>
    have e : tpC (p :: T) = opCells p.u p.o ++ tpC T := by simp [tpC]
    have e2 : (opCells p.u p.o).length = 6 := rfl
    rw [e, List.length_append, e2, ih, List.length_cons]
    omega
theorem splitT {T : List Trip} {k : Nat} (h : k + 1 < T.length) : ∃ xs a b ys, T = xs ++ a :: b :: ys ∧ xs.length = k := by
  refine ⟨T.take k, T[k], T[k + 1], T.drop (k + 2), ?_, by simp; omega⟩
  conv => lhs; rw [← List.take_append_drop k T, List.drop_eq_getElem_cons (by omega), List.drop_eq_getElem_cons (by omega)]
theorem tp_seg {xs ys : List Trip} (a : Trip) {k : Nat} (hk : xs.length = k) : seg (tpC (xs ++ a :: ys)) (k * 6) 6 = some (opCells a.u a.o) := by
  have e : (tpC xs).length = k * 6 := by rw [tpC_len, hk]
  have e2 : tpC (xs ++ a :: ys) = tpC xs ++ (opCells a.u a.o ++ tpC ys) := by simp [tpC]
  rw [e2, seg, if_pos (by simp [e, opCells]), ← e, List.drop_left]
  simp [opCells]
theorem tp_put {xs ys : List Trip} (a b : Trip) {k : Nat} (hk : xs.length = k) : putSeg (tpC (xs ++ a :: ys)) (k * 6) (opCells b.u b.o) = tpC (xs ++ b :: ys) := by
  have e : (tpC xs).length = k * 6 := by rw [tpC_len, hk]
  have e2 : ∀ a : Trip, tpC (xs ++ a :: ys) = tpC xs ++ (opCells a.u a.o ++ tpC ys) := fun a => by simp [tpC]
  rw [e2, e2, putSeg, ← e, List.take_left]
  have e3 : (opCells b.u b.o).length = (opCells a.u a.o).length := rfl
  rw [e3, ← List.drop_drop, List.drop_left, List.drop_left, List.append_assoc]
theorem TrOk.swap {xs ys : List Trip} {a b : Trip} (h : TrOk (xs ++ a :: b :: ys)) : TrOk (xs ++ b :: a :: ys) := fun p hp => h p (by
  simp only [List.mem_append, List.mem_cons] at hp ⊢
  rcases hp with hp | hp | hp | hp
  · exact .inl hp
  · exact .inr (.inr (.inl hp))
  · exact .inr (.inl hp)
  · exact .inr (.inr (.inr hp)))
theorem tpH_swap {xs ys : List Trip} {a b : Trip} : (tpH (xs ++ a :: b :: ys)).Perm (tpH (xs ++ b :: a :: ys)) := by
  have e : ∀ a b : Trip, tpH (xs ++ a :: b :: ys) = tpH xs ++ (a.B ++ (b.B ++ tpH ys)) := fun a b => by simp [tpH]
  rw [e, e]
  refine List.Perm.append_left _ ?_
  rw [← List.append_assoc, ← List.append_assoc]
  exact List.perm_append_comm.append_right _
theorem tpO_swap {xs ys : List Trip} {a b : Trip} : tpO (xs ++ a :: b :: ys) = tpO xs ++ a.o :: b.o :: tpO ys := by simp [tpO]
theorem trip_box {T : List Trip} {p : Trip} (hp : p ∈ T) : ∀ id c, In id c p.B → In id c (tpH T) := by
  induction T with
  | nil => cases hp
  | cons q T ih =>
    intro id c hi
    have e : tpH (q :: T) = q.B ++ tpH T := by simp [tpH]
    rw [e]
    rcases List.mem_cons.1 hp with rfl | hp
    · exact hi.appl
    · exact (ih hp id c hi).app
theorem Sub.perm {A B L : Hp} (h : A.Perm B) : Am.Sub (A ++ L) (B ++ L) := ⟨[], by rw [List.append_nil]; exact (h.symm).append_right L⟩
theorem mod_u64L (a : Int) (N : Nat) (h1 : 1 ≤ N) (h2 : N ≤ 1000000) : ∃ x : Nat, x < N ∧ IntKind.wrap .i64 (Int.tmod (IntKind.wrap .u64 a) (IntKind.wrap .u64 N)) = x := by
  have e1 : 0 ≤ IntKind.wrap .u64 a := by show 0 ≤ a % 18446744073709551616; omega
  have e2 : IntKind.wrap .u64 (N : Int) = N := by show (N : Int) % 18446744073709551616 = N; omega
  generalize IntKind.wrap .u64 a = y at e1
  obtain ⟨z, rfl⟩ : ∃ z : Nat, y = z := ⟨y.toNat, by omega⟩
  refine ⟨z % N, Nat.mod_lt _ h1, ?_⟩
  have : z % N < N := Nat.mod_lt _ h1
  rw [e2, ← Int.ofNat_tmod, wrap64 (by omega)]
theorem op_remL {t : Tr AVal} {m : Mem} {x y : Arg} {a b : Int} (hx : x.get t = some (.sc (.int .u64 a))) (hy : y.get t = some (.sc (.int .u64 b))) (h0 : b ≠ 0) : OpV t m (.bin .rem x y) (.sc (.int .u64 (Int.tmod a b))) m := ⟨by
  simp only [opVal, hx, hy, binS, binOp]
  simp only [ne_eq, not_true, if_false, Op.intDiv]
  rw [if_neg h0]
  rfl⟩
end Go.Proofs.Ytmflheoafeenfaa
namespace Go.Proofs.Ytmflheoafeenfaa
open Go.Am
set_option maxRecDepth 4000
set_option maxHeartbeats 16000000
variable {E : Env} {L : Hp}
theorem moves_l0 (hF : E.fns = fnsT) (hm : E.mode f_rewrite_Touch = .iso false) (hma : E.mode f_rewrite_asks = .iso false) (hm1 : E.mode f_rewrite_Touch_1 = .iso false) (hm2 : E.mode f_rewrite_Touch_2 = .iso false) (hmc : E.mode f_slices_Contains_int_int = .iso false) (hmi : E.mode f_slices_Index_int_int = .iso false) (hmcf : E.mode f_slices_ContainsFunc_int_int = .iso false) (hmif : E.mode f_slices_IndexFunc_int_int = .iso false)
    (hst7 : still E c_phasorlaw18_RewriteMoves_r7 = true) (hst8 : still E c_phasorlaw18_RewriteMoves_r8 = true) (hst10 : still E c_phasorlaw18_RewriteMoves_r10 = true)
    {n : Nat} {cq cb : Int} {s1 : AVal} {ps : List Int} {i7 ic : Nat} (hps : SlI s1 ps) (hn : 2 ≤ n) (hn2 : n ≤ 1000000) (hlp : ps.length ≤ 2000000) :
    ∀ (d k : Nat) (t : Tr AVal) (T : List Trip) (L : Hp), d + k = ps.length → T.length = n → TrOk T → (∀ o ∈ tpO T, 0 < o.qs.length) → t.get 1 = some s1 → t.get 7 = some (.ptr i7 0) → t.get 8 = some (aint k) →
    WpO E (.loop c_phasorlaw18_RewriteMoves_l0) t ((i7, [aint cq, aint cb, .sl ic 0 n 6 none]) :: (ic, tpC T) :: (tpH T ++ L)) (fun ex t' L' => ex = .exit 0 ∧ Keep [1, 2, 4, 5, 7] t t' ∧ ∃ T' : List Trip, T'.length = n ∧ TrOk T' ∧ (∀ o, o ∈ tpO T' → o ∈ tpO T) ∧ ordL (tpO T') = ordL (tpO T) ∧ Am.Sub ((i7, [aint cq, aint cb, .sl ic 0 n 6 none]) :: (ic, tpC T') :: (tpH T' ++ L)) L') := by
  intro d
  have hs1 := RowA.isOne hps
  induction d with
  | zero =>
    intro k t T L hk hT hok hqp h1 h7 h8
    obtain rfl : k = ps.length := by omega
    refine wo_loop ?_
    repeat (first | intro id | refine goq ?_)
    exact ⟨rfl, by exact keepq, T, hT, hok, fun _ h => h, rfl, Sub.refl _⟩
  | succ d ih =>
    intro k t T L hk hT hok hqp h1 h7 h8
    have hkl : k < ps.length := by omega
    have hu0 : IntKind.wrap .u64 ((n - 1 : Nat) : Int) ≠ 0 := by
      have : IntKind.wrap .u64 ((n - 1 : Nat) : Int) = ((n - 1 : Nat) : Int) := by show ((n - 1 : Nat) : Int) % 18446744073709551616 = ((n - 1 : Nat) : Int); omega
      omega
    obtain ⟨x, hx, ex⟩ := mod_u64L (ps.getD k 0) (n - 1) (by omega) (by omega)
    obtain ⟨xs, a, b, ys, rfl, hxs⟩ := splitT (T := T) (k := x) (by omega)
    have hlen := tpC_len (xs ++ a :: b :: ys)
    rw [hT] at hlen
    have hoka := hok a (by simp)
    have hokb := hok b (by simp)
    have hu1 := hoka.1.isOne
    have hu2 := hokb.1.isOne
    have sa : seg (tpC (xs ++ a :: b :: ys)) (0 + x * 6) 6 = some (opCells a.u a.o) := by rw [Nat.zero_add]; exact tp_seg a hxs
    have sb : seg (tpC (xs ++ a :: b :: ys)) (0 + (x + 1) * 6) 6 = some (opCells b.u b.o) := by
      rw [Nat.zero_add]
      have := tp_seg (xs := xs ++ [a]) (ys := ys) b (k := x + 1) (by simp [hxs])
      simpa using this
    obtain ⟨q, hq, hvq⟩ := hoka.1.views
    obtain ⟨p, hp, hvp⟩ := hokb.1.views
    have tt : ∀ M : Hp, (∀ id c, In id c (tpH (xs ++ a :: b :: ys)) → In id c M) → CallO E f_rewrite_Touch [.agg (opCells a.u a.o), .agg (opCells b.u b.o)] M fun r L' => r = abool (touchB a.o b.o) ∧ L' = M := fun M hM =>
      Touch_ok hF hm hma hm1 hm2 hmc hmi hmcf hmif hq hp hoka.2 hokb.2 (hvq M (fun id c k => hM id c (trip_box (p := a) (by simp) id c k)) _ _ (hvp M (fun id c k => hM id c (trip_box (p := b) (by simp) id c k)) _ _ vs_nil))
    unfold opCells at sa sb tt
    refine wo_loop ?_
    repeat (first | intro id | refine goq ?_)
    refine oo_p wanted_none (fun mm hmm => op_remL (by exact slotq) (by exact slotq) hu0) ?_
    refine oo_p wanted_none (fun mm hmm => op_conv (by exact slotq) rfl) ?_
    rw [ex]
    refine oo_p wanted_none (fun mm hmm => op_mov (by exact slotq)) ?_
    ((first | apply genO4 (t0 := t) (js := [1, 2, 4, 5, 7]) 9 1 7 8 | apply genW4 (t0 := t) (js := [1, 2, 4, 5, 7]) 9 1 7 8); (focus exact keepq); (focus exact slotq); (focus exact slotq); (focus exact slotq); (focus exact slotq); intro t gK g9 g1 g7 g8)
    replace g9 : t.get 9 = some (aint (x : Int)) := g9
    repeat (first | intro id | refine goq ?_)
    refine gok ?_
    refine (tt _ (fun id c hi => .next (.next hi.appl))).mono ?_
    rintro r L' ⟨rfl, rfl⟩
    cases hto : touchB a.o b.o with
    | true =>
      repeat (first | intro id | refine goq ?_)
      refine WpO.mono (ih (k + 1) _ _ _ (by omega) hT hok hqp ?_ ?_ ?_) ?_
      · exact slotq
      · exact slotq
      · exact slotq
      · rintro ex t' L' ⟨e1, e2, e3⟩
        exact ⟨e1, Keep.trans (gK.trans (by exact keepq)) e2, e3⟩
    | false =>
      have e1 := tp_put (xs := xs) (ys := b :: ys) a b hxs
      have e2 := tp_put (xs := xs ++ [b]) (ys := ys) b a (k := x + 1) (by simp [hxs])
      rw [List.append_assoc, List.append_assoc] at e2
      simp only [List.singleton_append] at e2
      rw [← e1] at e2
      have hT2 : (xs ++ b :: a :: ys).length = n := by rw [← hT]; simp
      have hmem : ∀ o, o ∈ tpO (xs ++ b :: a :: ys) → o ∈ tpO (xs ++ a :: b :: ys) := by
        intro o ho
        simp only [tpO, List.map_append, List.map_cons, List.mem_append, List.mem_cons] at ho ⊢
        rcases ho with h | h | h | h
        · exact .inl h
        · exact .inr (.inr (.inl h))
        · exact .inr (.inl h)
        · exact .inr (.inr (.inr h))
      have hord : ordL (tpO (xs ++ b :: a :: ys)) = ordL (tpO (xs ++ a :: b :: ys)) := by
        rw [tpO_swap, tpO_swap]
        refine (ordL_swap hto ?_).symm
        rw [← tpO_swap]
        exact qsPos_iff.2 hqp
      repeat (first | intro id | refine goq ?_)
      refine WpO.weak (WpO.mono (ih (k + 1) _ (xs ++ b :: a :: ys) L (by omega) hT2 hok.swap (fun o ho => hqp o (hmem o ho)) ?_ ?_ ?_) ?_) ?_
      · exact slotq
      · exact slotq
      · exact slotq
      · rintro ex t' L' ⟨e3, e4, T', e5, e6, e7, e8, e9⟩
        exact ⟨e3, Keep.trans (gK.trans (by exact keepq)) e4, T', e5, e6, fun o ho => hmem o (e7 o ho), e8.trans hord, e9⟩
      · rw [← e2]
        refine Sub.skip ⟨[], ?_⟩
        rw [List.append_nil]
        exact ((tpH_swap.append_right L).cons _).cons _
end Go.Proofs.Ytmflheoafeenfaa
