/- Parts of the proof, joined by program: RwP4, RwP5, RwP6, RwFR, RwP7. -/
import Derived.Test.YtmflheoafeenfaaPa10
import Derived.Test.YtmflheoafeenfaaPa8
set_option linter.unusedSimpArgs false
set_option linter.unusedVariables false
namespace Go.Proofs.Ytmflheoafeenfaa
open Go.Am
set_option maxRecDepth 4000
set_option maxHeartbeats 16000000
variable {E : Env} {L : Hp}
theorem order_l1 (hF : E.fns = fnsT) (hm : E.mode f_rewrite_Touch = .iso false) (hma : E.mode f_rewrite_asks = .iso false) (hm1 : E.mode f_rewrite_Touch_1 = .iso false) (hm2 : E.mode f_rewrite_Touch_2 = .iso false) (hmc : E.mode f_slices_Contains_int_int = .iso false) (hmi : E.mode f_slices_Index_int_int = .iso false) (hmcf : E.mode f_slices_ContainsFunc_int_int = .iso false) (hmif : E.mode f_slices_IndexFunc_int_int = .iso false) (hst : still E c_rewrite_Order_r14 = true)
    {cs : List AVal} {os : List OpD} {H : Hp} {u : Nat → AVal} {Bf : Nat → Hp} (h : OpsF cs os H u Bf) {iw ic n : Nat} (hn : n = os.length) (hlt : n ≤ 1000000) :
    ∀ (d j : Nat) (t : Tr AVal) (ws : List Int), d + j = n → ws.length = n → (∀ k, k < n → ws.getD k 0 = if k < j then (cntW os [] k k : Int) else 0) → t.get 7 = some (.sl ic 0 n 6 none) → t.get 8 = some (.sl iw 0 n 1 (some n)) → t.get 33 = some (aint n) → t.get 34 = some (aint j) →
    WpO E (.loop c_rewrite_Order_l1) t ((iw, ws.map aint) :: (ic, cs) :: (H ++ L)) (fun ex t' L' => ex = .exit 0 ∧ Keep [1, 2, 6, 7, 8] t t' ∧ ∃ ws' : List Int, ws'.length = n ∧ (∀ k, k < n → ws'.getD k 0 = W os [] k) ∧ L' = (iw, ws'.map aint) :: (ic, cs) :: (H ++ L)) := by
  intro d
  induction d with
  | zero =>
    intro j t ws hd hw hwj h7 h8 h33 h34
    obtain rfl : j = n := by omega
    refine wo_loop ?_
    repeat (first | intro id | refine goq ?_)
    refine ⟨rfl, by exact keepq, ws, hw, fun k hk => ?_, rfl⟩
    rw [hwj k hk, if_pos hk]
    simp [W]
  | succ d ih =>
    intro j t ws hd hw hwj h7 h8 h33 h34
    have hj : j < n := by omega
    refine wo_loop ?_
    repeat (first | intro id | refine goq ?_)
    refine WpO.mono (order_l0 hF hm hma hm1 hm2 hmc hmi hmcf hmif hst h (L := L) (iw := iw) (ic := ic) hn hlt hj j 0 _ ws (by omega) hw ?_ ?_ ?_ ?_ ?_ ?_) ?_
    · rw [hwj j hj, if_neg (by omega)]
      simp [cntW, aliveL]
    · exact slotq
    · exact slotq
    · exact slotq
    · exact slotq
    · exact slotq
    · rintro ex t1 L' ⟨rfl, hK, ws1, hw1, e1, e2, rfl⟩
      have g7 : t1.get 7 = some (.sl ic 0 n 6 none) := (hK.ex 7 rfl).trans (by exact slotq)
      have g8 : t1.get 8 = some (.sl iw 0 n 1 (some n)) := (hK.ex 8 rfl).trans (by exact slotq)
      have g33 : t1.get 33 = some (aint n) := (hK.ex 33 rfl).trans (by exact slotq)
      have g34 : t1.get 34 = some (aint j) := (hK.ex 34 rfl).trans (by exact slotq)
      have hKt : Keep [1, 2, 6, 7, 8] t t1 := Keep.trans (by exact keepq) (hK.less rfl)
      clear hK
      refine blkO.x (blkO.n (seqO.n ?_))
      repeat (first | intro id | refine goq ?_)
      refine WpO.mono (ih (j + 1) _ ws1 (by omega) hw1 ?_ ?_ ?_ ?_ ?_) ?_
      · intro k hk
        by_cases e : k = j
        · subst e
          rw [e1, if_pos (by omega)]
        · rw [e2 k e, hwj k hk]
          by_cases e3 : k < j
          · rw [if_pos e3, if_pos (by omega)]
          · rw [if_neg e3, if_neg (by omega)]
      · exact slotq
      · exact slotq
      · exact slotq
      · exact slotq
      · rintro ex t' L' ⟨x1, x2, x3⟩
        exact ⟨x1, Keep.trans (by exact keepq) x2, x3⟩
/-- The best of those that wait for nothing. -/
theorem order_l2 (hF : E.fns = fnsT) (hcm : E.mode f_rewrite_compare = .iso false) (hcst : still E c_rewrite_compare_r1 = true) (hcmo : E.mode f_cmp_Or_int = .iso false) (hcms : E.mode f_slices_Compare_int_int = .iso false) (hcmc : E.mode f_cmp_Compare_int = .iso false) (hcmn : E.mode f_cmp_isNaN_int = .iso false) (hcmc1 : E.mode f_cmp_Compare_api_OpKind = .iso false) (hcmn1 : E.mode f_cmp_isNaN_api_OpKind = .iso false) (hcmc2 : E.mode f_cmp_Compare_api_GateKind = .iso false) (hcmn2 : E.mode f_cmp_isNaN_api_GateKind = .iso false) (hst : still E c_rewrite_Order_r24 = true)
    {cs : List AVal} {os : List OpD} {H : Hp} {u : Nat → AVal} {Bf : Nat → Hp} (h : OpsF cs os H u Bf) {iw ic n : Nat} {τ : List Nat} {ws : List Int} (hn : n = os.length) (hlt : n ≤ 1000000) (hw : ws.length = n) (hW : ∀ k, k < n → ws.getD k 0 = W os τ k) (hex : ∃ b, b < n ∧ W os τ b = 0) :
    ∀ (d k : Nat) (t : Tr AVal) (be : Int), d + k = n → ((be = -1 ∧ ∀ j, j < k → W os τ j ≠ 0) ∨ ∃ b : Nat, be = b ∧ b < k ∧ W os τ b = 0 ∧ ∀ j, j < k → W os τ j = 0 → lessB (gO os j) (gO os b) = false) →
    t.get 7 = some (.sl ic 0 n 6 none) → t.get 11 = some (aint be) → t.get 62 = some (.sl iw 0 n 1 (some n)) → t.get 63 = some (aint n) → t.get 64 = some (aint k) →
    WpO E (.loop c_rewrite_Order_l2) t ((iw, ws.map aint) :: (ic, cs) :: (H ++ L)) (fun ex t' L' => ex = .exit 6 ∧ Keep [1, 2, 6, 7, 8, 59, 60] t t' ∧ (∃ b : Nat, t'.get 11 = some (aint b) ∧ b < n ∧ W os τ b = 0 ∧ ∀ j, j < n → W os τ j = 0 → lessB (gO os j) (gO os b) = false) ∧ L' = (iw, ws.map aint) :: (ic, cs) :: (H ++ L)) := by
  have hlen := h.len
  intro d
  induction d with
  | zero =>
    intro k t be hd hbe h7 h11 h62 h63 h64
    obtain rfl : k = n := by omega
    refine wo_loop ?_
    repeat (first | intro id | refine goq ?_)
    rcases hbe with ⟨-, hno⟩ | ⟨b, rfl, h1, h2, h3⟩
    · obtain ⟨b, hb, hb0⟩ := hex
      exact (hno b hb hb0).elim
    · exact ⟨rfl, by exact keepq, ⟨b, by exact slotq, h1, h2, h3⟩, rfl⟩
  | succ d ih =>
    intro k t be hd hbe h7 h11 h62 h63 h64
    have hk : k < n := by omega
    have sk := h.seg k (by omega)
    have hu1 := (h.own k (by omega)).isOne
    have hwk := hW k hk
    have hbd := W_bd os τ k
    unfold opCells at sk
    have next : ∀ (t2 : Tr AVal) (be2 : Int), Keep [1, 2, 6, 7, 8, 59, 60, 62, 63] t t2 → t2.get 11 = some (aint be2) → t2.get 64 = some (aint ((k + 1 : Nat) : Int)) →
        ((be2 = -1 ∧ ∀ j, j < k + 1 → W os τ j ≠ 0) ∨ ∃ b : Nat, be2 = b ∧ b < k + 1 ∧ W os τ b = 0 ∧ ∀ j, j < k + 1 → W os τ j = 0 → lessB (gO os j) (gO os b) = false) →
        WpO E (.loop c_rewrite_Order_l2) t2 ((iw, ws.map aint) :: (ic, cs) :: (H ++ L)) (fun ex t' L' => ex = .exit 6 ∧ Keep [1, 2, 6, 7, 8, 59, 60] t t' ∧ (∃ b : Nat, t'.get 11 = some (aint b) ∧ b < n ∧ W os τ b = 0 ∧ ∀ j, j < n → W os τ j = 0 → lessB (gO os j) (gO os b) = false) ∧ L' = (iw, ws.map aint) :: (ic, cs) :: (H ++ L)) := fun t2 be2 hK e11 e64 hb2 =>
      WpO.mono (ih (k + 1) t2 be2 (by omega) hb2 ((hK.ex 7 rfl).trans h7) e11 ((hK.ex 62 rfl).trans h62) ((hK.ex 63 rfl).trans h63) e64) (fun ex t' L' ⟨x1, x2, x3⟩ => ⟨x1, (hK.less rfl).trans x2, x3⟩)
    refine wo_loop ?_
    by_cases h0 : W os τ k = 0
    · rw [h0] at hwk
      rcases hbe with ⟨rfl, hno⟩ | ⟨b, rfl, h1, h2, h3⟩
      · repeat (first | intro id | refine goq ?_)
        refine next _ k (by exact keepq) ?_ ?_ (.inr ⟨k, rfl, by omega, h0, fun j hj hj0 => ?_⟩)
        · exact slotq
        · exact slotq
        · by_cases e : j = k
          · subst e
            cases e2 : lessB (gO os j) (gO os j) with
            | false => rfl
            | true =>
              have := lessB_iff.1 e2
              rw [cmpO_zero.2 rfl] at this
              omega
          · exact (hno j (by omega) hj0).elim
      · have sb := h.seg b (by omega)
        have hu2 := (h.own b (by omega)).isOne
        have tt := fun (M : Hp) hM => compare_pair hF hcm hcst hcmo hcms hcmc hcmn hcmc1 hcmn1 hcmc2 hcmn2 h (i := k) (j := b) (by omega) (by omega) (M := M) hM
        unfold opCells at sb tt
        repeat (first | intro id | refine goq ?_)
        refine gok ?_
        refine (tt _ (fun id c hi => .next (.next hi.appl))).mono ?_
        rintro r L' ⟨rfl, rfl⟩
        by_cases hl : cmpO (gO os k) (gO os b) < 0
        · repeat (first | intro id | refine goq ?_)
          refine next _ k (by exact keepq) ?_ ?_ (.inr ⟨k, rfl, by omega, h0, fun j hj hj0 => ?_⟩)
          · exact slotq
          · exact slotq
          · by_cases e : j = k
            · subst e
              cases e2 : lessB (gO os j) (gO os j) with
              | false => rfl
              | true =>
                have := lessB_iff.1 e2
                rw [cmpO_zero.2 rfl] at this
                omega
            · have h4 := h3 j (by omega) hj0
              cases e2 : lessB (gO os j) (gO os k) with
              | false => rfl
              | true =>
                rw [lessB_iff.2 (cmpO_trans (lessB_iff.1 e2) hl)] at h4
                cases h4
        · repeat (first | intro id | refine goq ?_)
          refine next _ b (by exact keepq) ?_ ?_ (.inr ⟨b, rfl, by omega, h2, fun j hj hj0 => ?_⟩)
          · exact slotq
          · exact slotq
          · by_cases e : j = k
            · subst e
              cases e2 : lessB (gO os j) (gO os b) with
              | false => rfl
              | true => exact (hl (lessB_iff.1 e2)).elim
            · exact h3 j (by omega) hj0
    · repeat (first | intro id | refine goq ?_)
      refine next _ be (by exact keepq) ?_ ?_ ?_
      · exact slotq
      · exact slotq
      · rcases hbe with ⟨rfl, hno⟩ | ⟨b, rfl, h1, h2, h3⟩
        · refine .inl ⟨rfl, fun j hj => ?_⟩
          by_cases e : j = k
          · subst e; exact h0
          · exact hno j (by omega)
        · refine .inr ⟨b, rfl, by omega, h2, fun j hj hj0 => ?_⟩
          by_cases e : j = k
          · subst e; exact (h0 hj0).elim
          · exact h3 j (by omega) hj0
/-- What no longer waits for the one that went. -/
theorem order_l3 (hF : E.fns = fnsT) (hm : E.mode f_rewrite_Touch = .iso false) (hma : E.mode f_rewrite_asks = .iso false) (hm1 : E.mode f_rewrite_Touch_1 = .iso false) (hm2 : E.mode f_rewrite_Touch_2 = .iso false) (hmc : E.mode f_slices_Contains_int_int = .iso false) (hmi : E.mode f_slices_Index_int_int = .iso false) (hmcf : E.mode f_slices_ContainsFunc_int_int = .iso false) (hmif : E.mode f_slices_IndexFunc_int_int = .iso false) (hst : still E c_rewrite_Order_r31 = true)
    {cs : List AVal} {os : List OpD} {H : Hp} {u : Nat → AVal} {Bf : Nat → Hp} (h : OpsF cs os H u Bf) {iw ic n b : Nat} {τ : List Nat} (hn : n = os.length) (hlt : n ≤ 1000000) (hb : b < n) (hbt : b ∉ τ) (hg : Gone os τ) :
    ∀ (d j : Nat) (t : Tr AVal) (ws : List Int), d + j = n → b < j → ws.length = n → (∀ k, k < n → ws.getD k 0 = if k < j then W os (b :: τ) k else W os τ k) → t.get 7 = some (.sl ic 0 n 6 none) → t.get 8 = some (.sl iw 0 n 1 (some n)) → t.get 11 = some (aint b) → t.get 14 = some (aint j) →
    WpO E (.loop c_rewrite_Order_l3) t ((iw, ws.map aint) :: (ic, cs) :: (H ++ L)) (fun ex t' L' => ex = .exit 8 ∧ Keep [1, 2, 6, 7, 8, 59, 60] t t' ∧ ∃ ws' : List Int, ws'.length = n ∧ (∀ k, k < n → ws'.getD k 0 = W os (b :: τ) k) ∧ L' = (iw, ws'.map aint) :: (ic, cs) :: (H ++ L)) := by
  have hlen := h.len
  intro d
  induction d with
  | zero =>
    intro j t ws hd hbj hw hwj h7 h8 h11 h14
    obtain rfl : j = n := by omega
    refine wo_loop ?_
    repeat (first | intro id | refine goq ?_)
    refine ⟨rfl, by exact keepq, ws, hw, fun k hk => ?_, rfl⟩
    rw [hwj k hk, if_pos hk]
  | succ d ih =>
    intro j t ws hd hbj hw hwj h7 h8 h11 h14
    have hj : j < n := by omega
    have sb := h.seg b (by omega)
    have sj := h.seg j (by omega)
    have hu1 := (h.own b (by omega)).isOne
    have hu2 := (h.own j (by omega)).isOne
    have tt := fun (M : Hp) hM => touch_pair hF hm hma hm1 hm2 hmc hmi hmcf hmif h (i := b) (j := j) (by omega) (by omega) (M := M) hM
    have hwv := hwj j hj
    rw [if_neg (by omega)] at hwv
    have hbd := W_bd os τ j
    have hc := W_cons hg hbt j
    rw [if_neg (by omega)] at hc
    unfold opCells at sb sj tt
    refine wo_loop ?_
    repeat (first | intro id | refine goq ?_)
    refine gok ?_
    refine (tt _ (fun id c hi => .next (.next hi.appl))).mono ?_
    rintro r L' ⟨rfl, rfl⟩
    cases ht : touchB (gO os b) (gO os j) with
    | true =>
      rw [if_pos ⟨hbj, ht⟩] at hc
      repeat (first | intro id | refine goq ?_)
      refine WpO.mono (ih (j + 1) _ (ws.set j (ws.getD j 0 - 1)) (by omega) (by omega) (by simp [hw]) ?_ ?_ ?_ ?_ ?_) ?_
      · intro k hk
        by_cases e : k = j
        · subst e
          rw [if_pos (by omega), hc, hwv]
          simp [hw, hj]
        · have e3 : (ws.set j (ws.getD j 0 - 1)).getD k 0 = ws.getD k 0 := by simp [Ne.symm e]
          rw [e3, hwj k hk]
          by_cases e4 : k < j
          · rw [if_pos e4, if_pos (by omega)]
          · rw [if_neg e4, if_neg (by omega)]
      · exact slotq
      · exact slotq
      · exact slotq
      · exact slotq
      · rintro ex t' L' ⟨x1, x2, x3⟩
        exact ⟨x1, Keep.trans (by exact keepq) x2, x3⟩
    | false =>
      rw [if_neg (fun x => by rw [ht] at x; exact absurd x.2 (by simp))] at hc
      repeat (first | intro id | refine goq ?_)
      refine WpO.mono (ih (j + 1) _ ws (by omega) (by omega) hw ?_ ?_ ?_ ?_ ?_) ?_
      · intro k hk
        by_cases e : k = j
        · subst e
          rw [if_pos (by omega), hc, hwv]
        · rw [hwj k hk]
          by_cases e4 : k < j
          · rw [if_pos e4, if_pos (by omega)]
          · rw [if_neg e4, if_neg (by omega)]
      · exact slotq
      · exact slotq
      · exact slotq
      · exact slotq
      · rintro ex t' L' ⟨x1, x2, x3⟩
        exact ⟨x1, Keep.trans (by exact keepq) x2, x3⟩
end Go.Proofs.Ytmflheoafeenfaa
namespace Go.Proofs.Ytmflheoafeenfaa
open Go.Am
set_option maxRecDepth 4000
set_option maxHeartbeats 16000000
variable {E : Env} {L : Hp}
theorem order_l4 (hF : E.fns = fnsT) (hm : E.mode f_rewrite_Touch = .iso false) (hma : E.mode f_rewrite_asks = .iso false) (hm1 : E.mode f_rewrite_Touch_1 = .iso false) (hm2 : E.mode f_rewrite_Touch_2 = .iso false) (hmc : E.mode f_slices_Contains_int_int = .iso false) (hmi : E.mode f_slices_Index_int_int = .iso false) (hmcf : E.mode f_slices_ContainsFunc_int_int = .iso false) (hmif : E.mode f_slices_IndexFunc_int_int = .iso false) (hcm : E.mode f_rewrite_compare = .iso false) (hcst : still E c_rewrite_compare_r1 = true) (hcmo : E.mode f_cmp_Or_int = .iso false) (hcms : E.mode f_slices_Compare_int_int = .iso false) (hcmc : E.mode f_cmp_Compare_int = .iso false) (hcmn : E.mode f_cmp_isNaN_int = .iso false) (hcmc1 : E.mode f_cmp_Compare_api_OpKind = .iso false) (hcmn1 : E.mode f_cmp_isNaN_api_OpKind = .iso false) (hcmc2 : E.mode f_cmp_Compare_api_GateKind = .iso false) (hcmn2 : E.mode f_cmp_isNaN_api_GateKind = .iso false) (hst24 : still E c_rewrite_Order_r24 = true) (hst27 : still E c_rewrite_Order_r27 = true) (hst31 : still E c_rewrite_Order_r31 = true)
    {cs : List AVal} {os : List OpD} {H : Hp} {u : Nat → AVal} {Bf : Nat → Hp} (h : OpsF cs os H u Bf) {i6 iw ic n : Nat} {cq cb : Int} (hn : n = os.length) (hlt : n ≤ 1000000) (hqp : QsPos os) :
    ∀ (d : Nat) (t : Tr AVal) (τ : List Nat) (ws : List Int) (a : AVal) (B : Hp), d + τ.length = n → τ.Nodup → (∀ j ∈ τ, j < n) → Gone os τ → ws.length = n → (∀ k, k < n → ws.getD k 0 = W os τ k) → ordL os = τ.reverse.map (gO os) ++ ordF d (remL os n τ) → BufO 6 a (tcells u os τ.reverse) τ.length B →
    t.get 6 = some (.ptr i6 0) → t.get 7 = some (.sl ic 0 n 6 none) → t.get 8 = some (.sl iw 0 n 1 (some n)) → t.get 59 = some (aint n) → t.get 60 = some (aint τ.length) →
    WpO E (.loop c_rewrite_Order_l4) t ((i6, [aint cq, aint cb, a]) :: (B ++ ((iw, ws.map aint) :: (ic, cs) :: (H ++ L)))) (fun ex t' L' => ex = .exit 4 ∧ Keep [1, 2, 6] t t' ∧ ∃ a' cs' B' H', BufO 6 a' cs' n B' ∧ OpsB cs' (ordL os) H' ∧ Am.Sub ((i6, [aint cq, aint cb, a']) :: (B' ++ (H' ++ L))) L') := by
  have hlen := h.len
  intro d
  induction d with
  | zero =>
    intro t τ ws a B hd hnd hlt2 hg hw hW ho hb h6 h7 h8 h59 h60
    have hτ : τ.length = n := by omega
    rw [hτ] at h60 hb
    refine wo_loop ?_
    repeat (first | intro id | refine goq ?_)
    have e : ordL os = τ.reverse.map (gO os) := by rw [ho]; simp [ordF]
    have hp : τ.reverse.Perm (List.range os.length) := by
      refine (List.perm_ext_iff_of_nodup (List.pairwise_reverse.2 (hnd.imp Ne.symm)) List.nodup_range).2 fun j => ?_
      rw [List.mem_reverse, List.mem_range]
      constructor
      · intro hj; have := hlt2 j hj; omega
      · intro hj
        have := alive_len hnd hlt2
        by_cases hm : j ∈ τ
        · exact hm
        · have hm2 := mem_alive.2 ⟨(show j < n by omega), hm⟩
          have : (aliveL n τ).length = 0 := by omega
          rw [List.eq_nil_of_length_eq_zero this] at hm2
          simp at hm2
    refine ⟨rfl, by exact keepq, a, _, B, τ.reverse.flatMap Bf, hb, ?_, ?_⟩
    · rw [e]
      exact h.some_of τ.reverse (fun k hk => by have := hlt2 k (List.mem_reverse.1 hk); omega)
    · have hP : H.Perm (τ.reverse.flatMap Bf) := by rw [h.H]; exact (List.Perm.flatMap_right Bf hp).symm
      refine ⟨(iw, ws.map aint) :: (ic, cs) :: [], ?_⟩
      refine List.Perm.trans ?_ (List.perm_append_comm)
      simp only [List.cons_append, List.nil_append]
      refine List.Perm.trans (List.Perm.cons _ (List.perm_middle.trans (List.Perm.cons _ List.perm_middle))) ?_
      refine List.Perm.trans (List.Perm.swap _ _ _) (List.Perm.cons _ ?_)
      refine List.Perm.trans (List.Perm.swap _ _ _) (List.Perm.cons _ ?_)
      exact List.Perm.cons _ (List.Perm.append_left _ (List.Perm.append_right _ hP))
  | succ d ih =>
    intro t τ ws a B hd hnd hlt2 hg hw hW ho hb h6 h7 h8 h59 h60
    have a1 := hb.isOne
    have hal := alive_len hnd hlt2
    have hex : ∃ b, b < n ∧ W os τ b = 0 := by rw [hn]; exact some_free (by rw [← hn]; omega)
    refine wo_loop ?_
    repeat (first | intro id | refine goq ?_)
    refine WpO.weak (WpO.mono (order_l2 hF hcm hcst hcmo hcms hcmc hcmn hcmc1 hcmn1 hcmc2 hcmn2 hst24 h (L := (i6, [aint cq, aint cb, a]) :: (B ++ L)) (iw := iw) (ic := ic) (τ := τ) hn hlt hw hW hex n 0 _ (-1) (by omega) (.inl ⟨rfl, fun j hj => by omega⟩) ?_ ?_ ?_ ?_ ?_) ?_) (by exact subq)
    · exact slotq
    · exact slotq
    · exact slotq
    · exact slotq
    · exact slotq
    rintro ex t1 L' ⟨rfl, hK, ⟨b, g11, hbn, hb0, hleast⟩, rfl⟩
    have g6 : t1.get 6 = some (.ptr i6 0) := (hK.ex 6 rfl).trans (by exact slotq)
    have g7 : t1.get 7 = some (.sl ic 0 n 6 none) := (hK.ex 7 rfl).trans (by exact slotq)
    have g8 : t1.get 8 = some (.sl iw 0 n 1 (some n)) := (hK.ex 8 rfl).trans (by exact slotq)
    have g59 : t1.get 59 = some (aint n) := (hK.ex 59 rfl).trans (by exact slotq)
    have g60 : t1.get 60 = some (aint τ.length) := (hK.ex 60 rfl).trans (by exact slotq)
    have hKt : Keep [1, 2, 6] t t1 := Keep.trans (by exact keepq) (hK.less rfl)
    clear hK
    have hbt := (W_zero.1 hb0).1
    have hstep := ord_step (m := d) hqp (by omega) hb0 (fun j hj hj0 => hleast j (by omega) hj0)
    rw [← hn] at hstep
    have sb := h.seg b (by omega)
    have hu1 := (h.own b (by omega)).isOne
    unfold opCells at sb
    refine blkO.x (seqO.n ?_)
    repeat (first | intro id | refine goq ?_)
    have hb2 := hb.pushed (id := id) (nw := opCells (u b) (gO os b)) rfl (by simp only [opCells, List.all_cons, List.all_nil, hu1, Bool.and_true]; rfl)
    have hrev : (b :: τ).reverse = τ.reverse ++ [b] := by simp
    rw [← tcells_snoc, ← hrev] at hb2
    have hbox : tcells u os τ.reverse ++ [aint (gO os b).kind, aint (gO os b).gate, u b, aint (gO os b).bit, aint (gO os b).ifc, aint (gO os b).whn] = tcells u os (b :: τ).reverse := by rw [hrev, tcells_snoc]; rfl
    rw [hbox]
    refine WpO.weak (WpO.mono (order_l3 hF hm hma hm1 hm2 hmc hmi hmcf hmif hst31 h (L := (i6, [aint cq, aint cb, .sl id 0 (τ.length + 1) 6 none]) :: ([(id, tcells u os (b :: τ).reverse)] ++ L)) (iw := iw) (ic := ic) hn hlt hbn hbt hg (n - (b + 1)) (b + 1) _ (ws.set b (-1)) (by omega) (by omega) (by simp [hw]) ?_ ?_ ?_ ?_ ?_) ?_) (by exact subq)
    · intro k hk
      by_cases e : k = b
      · subst e
        rw [if_pos (by omega)]
        simp [hw, hk, W]
      · have e3 : (ws.set b (-1)).getD k 0 = ws.getD k 0 := by simp [Ne.symm e]
        rw [e3, hW k hk]
        by_cases e4 : k < b + 1
        · rw [if_pos e4, W_cons hg hbt, if_neg e, if_neg (fun x => by omega)]
        · rw [if_neg e4]
    · exact slotq
    · exact slotq
    · exact slotq
    · exact slotq
    rintro ex t2 L' ⟨rfl, hK2, ws2, hw2, hW2, rfl⟩
    have k6 : t2.get 6 = some (.ptr i6 0) := (hK2.ex 6 rfl).trans (by exact slotq)
    have k7 : t2.get 7 = some (.sl ic 0 n 6 none) := (hK2.ex 7 rfl).trans (by exact slotq)
    have k8 : t2.get 8 = some (.sl iw 0 n 1 (some n)) := (hK2.ex 8 rfl).trans (by exact slotq)
    have k59 : t2.get 59 = some (aint n) := (hK2.ex 59 rfl).trans (by exact slotq)
    have k60 : t2.get 60 = some (aint τ.length) := (hK2.ex 60 rfl).trans (by exact slotq)
    have hKu : Keep [1, 2, 6] t t2 := Keep.trans (Keep.trans hKt (by exact keepq)) (hK2.less rfl)
    clear hK2
    refine blkO.x (blkO.n (seqO.n ?_))
    repeat (first | intro id | refine goq ?_)
    refine WpO.weak (WpO.mono (ih _ (b :: τ) ws2 (.sl id 0 (τ.length + 1) 6 none) [(id, tcells u os (b :: τ).reverse)] (by simp; omega) (List.nodup_cons.2 ⟨hbt, hnd⟩) (fun j hj => by rcases List.mem_cons.1 hj with rfl | hj; exact hbn; exact hlt2 j hj) (hg.cons hb0) hw2 hW2 ?_ hb2 ?_ ?_ ?_ ?_ ?_) ?_) (by exact subq)
    · rw [ho, hstep, hrev, List.map_append, List.append_assoc]
      rfl
    · exact slotq
    · exact slotq
    · exact slotq
    · exact slotq
    · exact slotq
    · rintro ex t' L' ⟨x1, x2, x3⟩
      exact ⟨x1, Keep.trans (by exact keepq) x2, x3⟩
/-- What Order tells, in boxes of its own. -/
def OrdO (c : CircD) (r : AVal) (B : Hp) : Prop := (¬ CircOk c ∧ r = .tup [.agg zeroC, aint 80] ∧ B = []) ∨ (CircOk c ∧ ∃ v, r = .tup [v, aint 0] ∧ CircO v ⟨c.qubits, c.bits, ordL c.ops⟩ B)
theorem Order_open (hF : E.fns = fnsT) (hmO : E.mode f_rewrite_Order = .open_) (hm : E.mode f_rewrite_Touch = .iso false) (hma : E.mode f_rewrite_asks = .iso false) (hm1 : E.mode f_rewrite_Touch_1 = .iso false) (hm2 : E.mode f_rewrite_Touch_2 = .iso false) (hmc : E.mode f_slices_Contains_int_int = .iso false) (hmi : E.mode f_slices_Index_int_int = .iso false) (hmcf : E.mode f_slices_ContainsFunc_int_int = .iso false) (hmif : E.mode f_slices_IndexFunc_int_int = .iso false) (hcm : E.mode f_rewrite_compare = .iso false) (hcst : still E c_rewrite_compare_r1 = true) (hcmo : E.mode f_cmp_Or_int = .iso false) (hcms : E.mode f_slices_Compare_int_int = .iso false) (hcmc : E.mode f_cmp_Compare_int = .iso false) (hcmn : E.mode f_cmp_isNaN_int = .iso false) (hcmc1 : E.mode f_cmp_Compare_api_OpKind = .iso false) (hcmn1 : E.mode f_cmp_isNaN_api_OpKind = .iso false) (hcmc2 : E.mode f_cmp_Compare_api_GateKind = .iso false) (hcmn2 : E.mode f_cmp_isNaN_api_GateKind = .iso false) (hst14 : still E c_rewrite_Order_r14 = true) (hst24 : still E c_rewrite_Order_r24 = true) (hst27 : still E c_rewrite_Order_r27 = true) (hst31 : still E c_rewrite_Order_r31 = true)
    (hcC : E.mode f_circuit_Check = .iso false) (hmm : E.mode f_circuit_may = .iso false) (hmg : E.mode f_gate_Check = .iso false) (hmA : E.mode f_gate_Arity = .iso false) (hmo : E.mode f_gate_of = .iso false) (hmt : E.mode f_gate_table = .iso false) (hmcp : E.mode f_circuit_Copy = .open_) (hmcl : E.mode f_slices_Clone_int_int = .open_)
    {v : AVal} {c : CircD} (hv : CircA v c) (hsm : Small c) : CallO E f_rewrite_Order [v] L fun r L' => ∃ B, OrdO c r B ∧ L' = B ++ L := by
  refine CallO.to (callO_open hmO (fns_of hF n_rewrite_Order) ?_)
  have hv0 := hv
  obtain ⟨so, rfl, hops⟩ := hv
  have hso1 : so.one = true := by obtain ⟨_, hr, -, -⟩ := hops; exact RowA.isOne hr
  have hsm1 := hsm.ops
  refine bodyO_of (Nat.le_of_ble_eq_true rfl) ?_; generalize ht : argSlots _ 0 .nil = t; have h0 : t.get 0 = some _ := (by rw [← ht]; rfl); clear ht
  repeat (first | intro id | refine goq ?_)
  rename_i i1
  have z1 : AVal.sc (Value.int .i64 0) = aint 0 := rfl
  have z2 : AVal.sc (Value.slice none 0 0) = anil := rfl
  simp only [z1, z2]
  refine gok ?_
  refine (Check_okC hF hcC hmm hmg hmA hmo hmt hmc hmi hv0).mono ?_
  rintro w L' ⟨⟨ie, e, rfl, hce⟩, rfl⟩
  rcases hce with ⟨rfl, hC⟩ | ⟨rfl, hC⟩
  · repeat (first | intro id | refine goq ?_)
    refine gok ?_
    refine (CCopy_open hF hmcp hmcl hv0 hsm).mono ?_
    rintro r L' ⟨B, hB, rfl⟩
    obtain ⟨so2, cs, Bs, H, rfl, hb, hob, hlt2, rfl⟩ := hB
    have so21 := hb.isOne
    have hqp : QsPos c.ops := fun j hj => ok_qs_pos (hC.ok j hj)
    obtain ⟨u, Bf, hf⟩ := hob.fn
    have hHl := ordL_length c.ops
    rcases bufInv hb with ⟨rfl, hcs0, hn0, rfl⟩ | ⟨ic, rfl, rfl⟩
    · have hos : c.ops = [] := List.eq_nil_of_length_eq_zero hn0
      repeat (first | intro id | refine goq ?_)
      rename_i i2 i6
      refine WpO.mono (Q := fun ex t' L' => ex = .exit 0 ∧ t'.get 2 = some (.ptr i2 0) ∧ t'.get 6 = some (.ptr i6 0) ∧ t'.get 7 = some anil ∧ Am.Sub ((i6, [aint c.qubits, aint c.bits, anil]) :: (i2, [aint 0, aint 0, anil]) :: (H ++ L)) L') ?_ ?_
      · refine wo_loop ?_
        repeat (first | intro id | refine goq ?_)
        exact ⟨rfl, by exact slotq, by exact slotq, by exact slotq, by exact subq⟩
      · rintro ex t1 L' ⟨rfl, g2, g6, g7, hsub⟩
        refine blkO.x (seqO.n (WpO.weak ?_ hsub))
        repeat (first | intro id | refine goq ?_)
        refine wo_loop ?_
        repeat (first | intro id | refine goq ?_)
        ((first | apply retO_r | apply retO_n); (focus (exact resq)))
        refine ⟨L, by exact subq, [], .inr ⟨hC, _, rfl, anil, [], [], [], rfl, by rw [hos]; exact BufO.nil, by rw [hos]; exact .nil, by rw [hHl]; omega, rfl⟩, rfl⟩
    · repeat (first | intro id | refine goq ?_)
      rename_i i2 i6
      generalize hnn : c.ops.length = n at *
      refine WpO.weak (WpO.mono (order_l1 hF hm hma hm1 hm2 hmc hmi hmcf hmif hst14 hf (L := (i6, [aint c.qubits, aint c.bits, anil]) :: (i2, [aint 0, aint 0, anil]) :: L) (iw := id) (ic := ic) (n := n) hnn.symm (by omega) n 0 _ (List.replicate n 0) (by omega) (by simp) ?_ ?_ ?_ ?_ ?_) ?_) ?_
      · intro k hk
        rw [if_neg (by omega)]
        simp [hk]
      · exact slotq
      · exact slotq
      · exact slotq
      · exact slotq
      · rintro ex t1 L' ⟨rfl, hK, ws1, hw1, hW1, rfl⟩
        have g2 : t1.get 2 = some (.ptr i2 0) := (hK.ex 2 rfl).trans (by exact slotq)
        have g6 : t1.get 6 = some (.ptr i6 0) := (hK.ex 6 rfl).trans (by exact slotq)
        have g7 : t1.get 7 = some (.sl ic 0 n 6 none) := (hK.ex 7 rfl).trans (by exact slotq)
        have g8 : t1.get 8 = some (.sl id 0 n 1 (some n)) := (hK.ex 8 rfl).trans (by exact slotq)
        clear hK
        refine blkO.x (seqO.n ?_)
        repeat (first | intro id | refine goq ?_)
        refine WpO.weak (WpO.mono (order_l4 hF hm hma hm1 hm2 hmc hmi hmcf hmif hcm hcst hcmo hcms hcmc hcmn hcmc1 hcmn1 hcmc2 hcmn2 hst24 hst27 hst31 hf (L := (i2, [aint 0, aint 0, anil]) :: L) (i6 := i6) (iw := id) (ic := ic) (n := n) (cq := c.qubits) (cb := c.bits) hnn.symm (by omega) hqp n _ [] ws1 anil [] (by simp) List.nodup_nil (fun j hj => by simp at hj) (fun j hj => by simp at hj) hw1 hW1 ?_ (by simpa [tcells] using BufO.nil) ?_ ?_ ?_ ?_ ?_) ?_) (by exact subq)
        · rw [← hnn, rem_nil]
          rfl
        · exact slotq
        · exact slotq
        · exact slotq
        · exact slotq
        · exact slotq
        · rintro ex t2 L' ⟨rfl, hK2, a', cs', B', H', hb', ho', hsub⟩
          have k2 : t2.get 2 = some (.ptr i2 0) := (hK2.ex 2 rfl).trans (by exact slotq)
          have k6 : t2.get 6 = some (.ptr i6 0) := (hK2.ex 6 rfl).trans (by exact slotq)
          clear hK2
          have a1 := hb'.isOne
          refine blkO.x (seqO.n (WpO.weak ?_ hsub))
          repeat (first | intro id | refine goq ?_)
          ((first | apply retO_r | apply retO_n); (focus (exact resq)))
          refine ⟨B' ++ (H' ++ L), by exact subq, B' ++ H', .inr ⟨hC, _, rfl, a', cs', B', H', rfl, ?_, ho', by rw [hHl]; omega, rfl⟩, by rw [List.append_assoc]⟩
          rw [hHl]
          exact hb'
      · have e : (List.replicate n (0 : Int)).map aint = List.replicate n (aint 0) := by simp
        rw [e]
        simp only [List.append_assoc]
        exact subq
  · repeat (first | intro id | refine goq ?_)
    ((first | apply retO_r | apply retO_n); (focus (exact resq)))
    exact ⟨L, by exact subq, [], .inl ⟨hC, rfl, rfl⟩, rfl⟩
end Go.Proofs.Ytmflheoafeenfaa
namespace Go.Proofs.Ytmflheoafeenfaa
open Go.Am
set_option maxRecDepth 4000
set_option maxHeartbeats 16000000
variable {E : Env} {L : Hp}
theorem equalI_l0 (hst : still E c_slices_Equal_int_int_r6 = true) {la lb : List Int} {va vb : AVal} (ha : SlI va la) (hb : SlI vb lb) (hl : la.length = lb.length) (hlt : la.length < 2 ^ 62) : ∀ (d k : Nat) (t : Tr AVal), d + k = la.length → t.get 0 = some va → t.get 1 = some vb → t.get 12 = some (aint la.length) → t.get 13 = some (aint k) →
    WpO E (.loop c_slices_Equal_int_int_l0) t L (fun ex t' _ => (ex = .exit 0 ∧ la.drop k = lb.drop k) ∨ (ex = .ret ∧ t'.get 4 = some (abool false) ∧ la.drop k ≠ lb.drop k)) := by
  have ha1 := RowA.isOne ha
  have hb1 := RowA.isOne hb
  intro d
  induction d with
  | zero =>
    intro k t hk h0 h1 h12 h13
    refine wo_loop ?_
    repeat (first | intro id | refine goq ?_)
    refine .inl ⟨rfl, ?_⟩
    rw [List.drop_of_length_le (by omega), List.drop_of_length_le (by omega)]
  | succ d ih =>
    intro k t hk h0 h1 h12 h13
    refine wo_loop ?_
    have hde := drop_eq 0 hl (show k < la.length by omega)
    by_cases c : la.getD k 0 = lb.getD k 0
    · repeat (first | intro id | refine goq ?_)
      refine WpO.mono (ih (k + 1) _ (by omega) (by exact slotq) (by exact slotq) (by exact slotq) (by exact slotq)) fun ex t' L' hq => ?_
      simp only [c, true_and] at hde
      simp only [ne_eq, hde]
      exact hq
    · repeat (first | intro id | refine goq ?_)
      exact .inr ⟨rfl, by exact slotq, fun he => c (hde.1 he).1⟩
theorem equalI_ok (hF : E.fns = fnsT) (hm : E.mode f_slices_Equal_int_int = .iso false) (hst : still E c_slices_Equal_int_int_r6 = true) {a b va vb : AVal} {la lb : List Int} (hv : ViewsO L [a, b] [va, vb]) (ha : SlI va la) (hb : SlI vb lb) (hlt : la.length < 2 ^ 62) :
    CallO E f_slices_Equal_int_int [a, b] L fun v L' => v = abool (decide (la = lb)) ∧ L' = L := by
  refine callO_iso0 hm (fns_of hF n_slices_Equal_int_int) hv ?_
  have ha1 := RowA.isOne ha
  have hb1 := RowA.isOne hb
  refine bodyO_of (Nat.le_of_ble_eq_true rfl) ?_; generalize ht : argSlots _ 0 .nil = t; have h0 : t.get 0 = some _ := (by rw [← ht]; rfl); have h1 : t.get 1 = some _ := (by rw [← ht]; rfl); clear ht
  by_cases hl : la.length = lb.length
  · repeat (first | intro id | refine goq ?_)
    refine WpO.mono (equalI_l0 hst ha hb hl hlt la.length 0 _ (by omega) (by exact slotq) (by exact slotq) (by exact slotq) (by exact slotq)) fun ex t' L' hq => ?_
    obtain ⟨rfl, hq2⟩ | ⟨rfl, hq2, hq3⟩ := hq
    · simp only [List.drop_zero] at hq2
      repeat (first | intro id | refine goq ?_)
      ((first | apply retO_r | apply retO_n); (focus (exact resq)))
      exact ⟨rfl, by rw [decide_eq_true hq2]; rfl⟩
    · simp only [List.drop_zero] at hq3
      repeat (first | intro id | refine goq ?_)
      ((first | apply retO_r | apply retO_n); (focus (exact resq)))
      exact ⟨rfl, by rw [decide_eq_false hq3]; rfl⟩
  · repeat (first | intro id | refine goq ?_)
    ((first | apply retO_r | apply retO_n); (focus (exact resq)))
    exact ⟨rfl, by rw [decide_eq_false (by rintro rfl; exact hl rfl)]; rfl⟩
theorem Same1_ok (hF : E.fns = fnsT) (hm : E.mode f_circuit_Same_1 = .iso false) (hmi : E.mode f_slices_Equal_int_int = .iso false) (hst : still E c_slices_Equal_int_int_r6 = true) {p q : AVal} {a b : OpD} (hp : SlI p a.qs) (hq : SlI q b.qs) (hlt : a.qs.length < 2 ^ 62) :
    CallO E f_circuit_Same_1 [.agg (opCells p a), .agg (opCells q b)] L fun v L' => (∃ x, v = abool x ∧ (x = true ↔ a = b)) ∧ L' = L := by
  refine callO_iso0 (R := fun v => ∃ x, v = abool x ∧ (x = true ↔ a = b)) hm (fns_of hF n_circuit_Same_1) (vs_bare ?_ (vs_bare ?_ vs_nil)) ?_
  · simp [opCells, AVal.bare, bareAll, aint, bare_SlI hp]
  · simp [opCells, AVal.bare, bareAll, aint, bare_SlI hq]
  have hp1 := RowA.isOne hp
  have hq1 := RowA.isOne hq
  unfold opCells
  obtain ⟨a1, a2, a3, a4, a5, a6⟩ := a
  obtain ⟨b1, b2, b3, b4, b5, b6⟩ := b
  simp only at hp hq hlt ⊢
  simp only [OpD.mk.injEq]
  refine bodyO_of (Nat.le_of_ble_eq_true rfl) ?_; generalize ht : argSlots _ 0 .nil = t; have h0 : t.get 0 = some _ := (by rw [← ht]; rfl); have h1 : t.get 1 = some _ := (by rw [← ht]; rfl); clear ht
  by_cases c1 : a1 = b1
  · by_cases c2 : a2 = b2
    · repeat (first | intro id | refine goq ?_)
      refine gok ?_
      refine (equalI_ok hF hmi hst (vs_bare (bare_SlI hp) (vs_bare (bare_SlI hq) vs_nil)) hp hq hlt).mono ?_
      rintro r L' ⟨rfl, rfl⟩
      by_cases c3 : a3 = b3
      · rw [decide_eq_true c3]
        repeat' (first | intro id | refine goq ?_ | (refine oo_guard (by exact slotq) (fun hc => ?_) (fun hc => ?_) <;> (fail_if_success (exact absurd hc (by decide))) <;> rw [hc] <;> (try simp only [decide_eq_true_eq, decide_eq_false_iff_not, ne_eq, Decidable.not_not] at hc)) | (refine wo_cond_if (by exact slotq) (fun hc => ?_) (fun hc => ?_) <;> (try simp only [decide_eq_true_eq, decide_eq_false_iff_not, ne_eq, Decidable.not_not] at hc)) | ((first | apply retO_r | apply retO_n); (focus (exact resq))))
        all_goals (refine ⟨rfl, _, rfl, ?_⟩; grind)
      · rw [decide_eq_false c3]
        repeat' (first | intro id | refine goq ?_ | (refine oo_guard (by exact slotq) (fun hc => ?_) (fun hc => ?_) <;> (fail_if_success (exact absurd hc (by decide))) <;> rw [hc] <;> (try simp only [decide_eq_true_eq, decide_eq_false_iff_not, ne_eq, Decidable.not_not] at hc)) | (refine wo_cond_if (by exact slotq) (fun hc => ?_) (fun hc => ?_) <;> (try simp only [decide_eq_true_eq, decide_eq_false_iff_not, ne_eq, Decidable.not_not] at hc)) | ((first | apply retO_r | apply retO_n); (focus (exact resq))))
        all_goals (refine ⟨rfl, _, rfl, ?_⟩; grind)
    · repeat' (first | intro id | refine goq ?_ | (refine oo_guard (by exact slotq) (fun hc => ?_) (fun hc => ?_) <;> (fail_if_success (exact absurd hc (by decide))) <;> rw [hc] <;> (try simp only [decide_eq_true_eq, decide_eq_false_iff_not, ne_eq, Decidable.not_not] at hc)) | (refine wo_cond_if (by exact slotq) (fun hc => ?_) (fun hc => ?_) <;> (try simp only [decide_eq_true_eq, decide_eq_false_iff_not, ne_eq, Decidable.not_not] at hc)) | ((first | apply retO_r | apply retO_n); (focus (exact resq))))
      all_goals (refine ⟨rfl, _, rfl, ?_⟩; grind)
  · repeat' (first | intro id | refine goq ?_ | (refine oo_guard (by exact slotq) (fun hc => ?_) (fun hc => ?_) <;> (fail_if_success (exact absurd hc (by decide))) <;> rw [hc] <;> (try simp only [decide_eq_true_eq, decide_eq_false_iff_not, ne_eq, Decidable.not_not] at hc)) | (refine wo_cond_if (by exact slotq) (fun hc => ?_) (fun hc => ?_) <;> (try simp only [decide_eq_true_eq, decide_eq_false_iff_not, ne_eq, Decidable.not_not] at hc)) | ((first | apply retO_r | apply retO_n); (focus (exact resq))))
    all_goals (refine ⟨rfl, _, rfl, ?_⟩; grind)
theorem equalF_l0 (hF : E.fns = fnsT) (hm : E.mode f_circuit_Same_1 = .iso false) (hmi : E.mode f_slices_Equal_int_int = .iso false) (hst : still E c_slices_Equal_int_int_r6 = true) {a b : List OpD} {va vb : AVal} {ca cb : List AVal} (ha : RowA va ca a.length) (hca : OpsC ca a) (hb : RowA vb cb b.length) (hcb : OpsC cb b) (hl : a.length = b.length) (hlt : a.length < 2 ^ 62) :
    ∀ (d k : Nat) (t : Tr AVal) (L : Hp), d + k = a.length → t.get 0 = some va → t.get 1 = some vb → t.get 2 = some (.fn (.func f_circuit_Same_1) [] []) → t.get 15 = some va → t.get 16 = some (aint a.length) → t.get 17 = some (aint k) →
    WpO E (.loop c_slices_EqualFunc_api_Op_api_Op_api_Op_api_Op_l0) t L (fun ex t' _ => (ex = .exit 0 ∧ a.drop k = b.drop k) ∨ (ex = .ret ∧ t'.get 6 = some (abool false) ∧ a.drop k ≠ b.drop k)) := by
  have ha1 := RowA.isOne ha
  have hb1 := RowA.isOne hb
  intro d
  induction d with
  | zero =>
    intro k t L hk h0 h1 h2 h15 h16 h17
    refine wo_loop ?_
    repeat (first | intro id | refine goq ?_)
    refine .inl ⟨rfl, ?_⟩
    rw [List.drop_of_length_le (by omega), List.drop_of_length_le (by omega)]
  | succ d ih =>
    intro k t L hk h0 h1 h2 h15 h16 h17
    refine wo_loop ?_
    have hde := drop_eq default hl (show k < a.length by omega)
    obtain ⟨p, hp, hpl, hp6, hps⟩ := hca.getE (show k < a.length by omega)
    obtain ⟨q, hq, hql, hq6, hqs⟩ := hcb.getE (show k < b.length by omega)
    have hp1 := RowA.isOne hp
    have hq1 := RowA.isOne hq
    generalize a.getD k default = x at *
    generalize b.getD k default = y at *
    have ss := fun (M : Hp) => Same1_ok (L := M) hF hm hmi hst hp hq hpl
    unfold opCells at hps hqs ss
    repeat (first | intro id | refine goq ?_)
    refine gok ?_
    refine (ss _).mono ?_
    rintro r L' ⟨⟨z, rfl, hz⟩, rfl⟩
    cases z with
    | true =>
      have e := hz.1 rfl
      repeat (first | intro id | refine goq ?_)
      refine WpO.mono (ih (k + 1) _ _ (by omega) (by exact slotq) (by exact slotq) (by exact slotq) (by exact slotq) (by exact slotq) (by exact slotq)) fun ex t' L' hq => ?_
      simp only [e, true_and] at hde
      simp only [ne_eq, hde]
      exact hq
    | false =>
      repeat (first | intro id | refine goq ?_)
      refine .inr ⟨rfl, by exact slotq, fun he => ?_⟩
      have := hz.2 (hde.1 he).1
      cases this
theorem equalF_ok (hF : E.fns = fnsT) (hmE : E.mode f_slices_EqualFunc_api_Op_api_Op_api_Op_api_Op = .iso false) (hm : E.mode f_circuit_Same_1 = .iso false) (hmi : E.mode f_slices_Equal_int_int = .iso false) (hst : still E c_slices_Equal_int_int_r6 = true) {a b : List OpD} {va vb : AVal} (ha : OpsA va a) (hb : OpsA vb b) :
    CallO E f_slices_EqualFunc_api_Op_api_Op_api_Op_api_Op [va, vb, .fn (.func f_circuit_Same_1) [] []] L fun v L' => v = abool (decide (a = b)) ∧ L' = L := by
  refine callO_iso0 hmE (fns_of hF n_slices_EqualFunc_api_Op_api_Op_api_Op_api_Op) (vs_bare ha.bare (vs_bare hb.bare (vs_bare rfl vs_nil))) ?_
  obtain ⟨ca, hra, hca, hlt⟩ := ha
  obtain ⟨cb, hrb, hcb, -⟩ := hb
  have ha1 := RowA.isOne hra
  have hb1 := RowA.isOne hrb
  refine bodyO_of (Nat.le_of_ble_eq_true rfl) ?_; generalize ht : argSlots _ 0 .nil = t; have h0 : t.get 0 = some _ := (by rw [← ht]; rfl); have h1 : t.get 1 = some _ := (by rw [← ht]; rfl); have h2 : t.get 2 = some _ := (by rw [← ht]; rfl); clear ht
  by_cases hl : a.length = b.length
  · repeat (first | intro id | refine goq ?_)
    refine WpO.mono (equalF_l0 hF hm hmi hst hra hca hrb hcb hl hlt a.length 0 _ _ (by omega) (by exact slotq) (by exact slotq) (by exact slotq) (by exact slotq) (by exact slotq) (by exact slotq)) fun ex t' L' hq => ?_
    obtain ⟨rfl, hq2⟩ | ⟨rfl, hq2, hq3⟩ := hq
    · simp only [List.drop_zero] at hq2
      repeat (first | intro id | refine goq ?_)
      ((first | apply retO_r | apply retO_n); (focus (exact resq)))
      exact ⟨rfl, by rw [decide_eq_true hq2]; rfl⟩
    · simp only [List.drop_zero] at hq3
      repeat (first | intro id | refine goq ?_)
      ((first | apply retO_r | apply retO_n); (focus (exact resq)))
      exact ⟨rfl, by rw [decide_eq_false hq3]; rfl⟩
  · repeat (first | intro id | refine goq ?_)
    ((first | apply retO_r | apply retO_n); (focus (exact resq)))
    exact ⟨rfl, by rw [decide_eq_false (by rintro rfl; exact hl rfl)]; rfl⟩
theorem CSame_ok (hF : E.fns = fnsT) (hmS : E.mode f_circuit_Same = .iso false) (hmE : E.mode f_slices_EqualFunc_api_Op_api_Op_api_Op_api_Op = .iso false) (hm : E.mode f_circuit_Same_1 = .iso false) (hmi : E.mode f_slices_Equal_int_int = .iso false) (hst : still E c_slices_Equal_int_int_r6 = true) {a b va vb : AVal} {c d : CircD} (hv : ViewsO L [a, b] [va, vb]) (hc : CircA va c) (hd : CircA vb d) :
    CallO E f_circuit_Same [a, b] L fun v L' => (∃ x, v = abool x ∧ (x = true ↔ c = d)) ∧ L' = L := by
  refine callO_iso0 (R := fun v => ∃ x, v = abool x ∧ (x = true ↔ c = d)) hmS (fns_of hF n_circuit_Same) hv ?_
  obtain ⟨sa, rfl, hoa⟩ := hc
  obtain ⟨sb, rfl, hob⟩ := hd
  have ha1 : sa.one = true := by obtain ⟨_, hr, -, -⟩ := hoa; exact RowA.isOne hr
  have hb1 : sb.one = true := by obtain ⟨_, hr, -, -⟩ := hob; exact RowA.isOne hr
  obtain ⟨c1, c2, c3⟩ := c
  obtain ⟨d1, d2, d3⟩ := d
  simp only at *
  simp only [CircD.mk.injEq]
  refine bodyO_of (Nat.le_of_ble_eq_true rfl) ?_; generalize ht : argSlots _ 0 .nil = t; have h0 : t.get 0 = some _ := (by rw [← ht]; rfl); have h1 : t.get 1 = some _ := (by rw [← ht]; rfl); clear ht
  by_cases e1 : c1 = d1
  · by_cases e2 : c2 = d2
    · repeat (first | intro id | refine goq ?_)
      refine gok ?_
      refine (equalF_ok hF hmE hm hmi hst hoa hob).mono ?_
      rintro r L' ⟨rfl, rfl⟩
      repeat (first | intro id | refine goq ?_)
      ((first | apply retO_r | apply retO_n); (focus (exact resq)))
      exact ⟨rfl, _, rfl, by simp [e1, e2]⟩
    · repeat (first | intro id | refine goq ?_)
      ((first | apply retO_r | apply retO_n); (focus (exact resq)))
      exact ⟨rfl, _, rfl, by simp [e2]⟩
  · repeat (first | intro id | refine goq ?_)
    ((first | apply retO_r | apply retO_n); (focus (exact resq)))
    exact ⟨rfl, _, rfl, by simp [e1]⟩
end Go.Proofs.Ytmflheoafeenfaa
namespace Go.Proofs.Ytmflheoafeenfaa
open Go.Am
set_option maxRecDepth 4000
set_option maxHeartbeats 8000000
variable {E : Env} {L : Hp}
/-! A copied circuit, from the front -/
inductive OpsS (cs : List AVal) (os : List OpD) : Nat → Hp → Prop where
  | done : OpsS cs os os.length []
  | more {k : Nat} {u : AVal} {B H : Hp} (hk : k < os.length) (hs : seg cs (0 + k * 6) 6 = some (opCells u (os.getD k default))) (hq : OwnI u (os.getD k default).qs B) (h : OpsS cs os (k + 1) H) : OpsS cs os k (B ++ H)
theorem OpsS.set {cs : List AVal} {os : List OpD} {k i : Nat} {H : Hp} {v : AVal} (h : OpsS cs os k H) (hi : i < k * 6) : OpsS (cs.set i v) os k H := by
  induction h with
  | done => exact .done
  | @more k u B H hk hs hq h ih =>
    refine .more (u := u) hk ?_ hq (ih (by omega))
    unfold seg at hs ⊢
    rw [List.length_set]
    split at hs
    · rename_i hle
      rw [if_pos hle]
      rw [List.drop_set_of_lt (by omega)]
      exact hs
    · cases hs
theorem CircO.views {v : AVal} {c : CircD} {B M : Hp} (h : CircO v c B) (hM : ∀ id c, In id c B → In id c M) : ∃ u, CircA u c ∧ ∀ vs us, ViewsO M vs us → ViewsO M (v :: vs) (u :: us) := by
  have h0 := h
  obtain ⟨s, cs, Bs, H, rfl, hb, ho, hlt, rfl⟩ := h
  rcases bufInv hb with ⟨rfl, -, e, -⟩ | ⟨id, rfl, -⟩
  · have e3 : c.ops = [] := List.eq_nil_of_length_eq_zero e
    exact ⟨_, ⟨anil, rfl, [], .inl ⟨rfl, e, rfl⟩, by rw [e3]; exact .nil, by omega⟩, fun vs us hv => vs_bare rfl hv⟩
  · obtain ⟨u, h1, h2⟩ := h0.view 60 hM
    exact ⟨u, h2, fun vs us hv => vs_view rfl h1 hv⟩
end Go.Proofs.Ytmflheoafeenfaa
namespace Go.Proofs.Ytmflheoafeenfaa
open Go.Am
set_option maxRecDepth 4000
set_option maxHeartbeats 16000000
variable {E : Env} {L : Hp}
end Go.Proofs.Ytmflheoafeenfaa
