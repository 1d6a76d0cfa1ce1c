/- Parts of the proof, joined by program: RwS8, RwS9, RwS10, RwS11, RwS12, RwS13, RwS14, RwS15. -/
import Derived.Test.YtmflheoafeenfaaGreatPa11
set_option linter.unusedSimpArgs false
set_option linter.unusedVariables false
namespace Go.Proofs.YtmflheoafeenfaaGreat
open Go.Am
set_option maxRecDepth 4000
set_option maxHeartbeats 8000000
variable {E : Env} {L : Hp}
def synHp (i4 i8 i5 il i6 n k : Nat) (cap : Option Nat) (s : SynS) (a : AVal) (B H L : Hp) : Hp := (i4, [aint (n : Int)]) :: (i8, [aint (k : Int)]) :: (i5, [.sl il 0 n 1 cap]) :: (il, s.l.map au) :: (i6, [aint (n : Int), aint 0, a]) :: (B ++ (H ++ L))
theorem has_ok (hF : E.fns = fnsT) (hm : E.mode f_rewrite_Synth_3 = .iso false) {i8 k : Nat} {x : Int} {M : Hp} (hi : In i8 [aint (k : Int)] M) : CallO E f_rewrite_Synth_3 [au x, .ptr i8 0] M fun r L' => r = abool (bitB x k) ∧ L' = M :=
  Synth3_ok hF hm (vs_bare rfl (vs_view rfl (vo_ptr hi (by simp) (vl_cons vo_sc vl_nil)) vs_nil))
theorem synth_l0 (hF : E.fns = fnsT) (hm2 : E.mode f_rewrite_Synth_2 = .open_) (hst : still E c_rewrite_Synth_2_r0 = true) (hm3 : E.mode f_rewrite_Synth_3 = .iso false) {n k i4 i8 i5 il i6 : Nat} {cap : Option Nat} (hn : n ≤ 64) (hk : k < n) :
    ∀ (d i : Nat) (t : Tr AVal) (s : SynS) (a : AVal) (cs : List AVal) (B H L : Hp), d + i = n → s.l.length = n → s.ps.length + d ≤ 100000 → BufO 6 a cs s.ps.length B → OpsB cs (synOps s.ps) H →
    t.get 5 = some (.ptr i5 0) → t.get 7 = some (.fn (.func f_rewrite_Synth_2) [] [.ptr i5 0, .ptr i6 0]) → t.get 8 = some (.ptr i8 0) → t.get 9 = some (.fn (.func f_rewrite_Synth_3) [] [.ptr i8 0]) → t.get 53 = some (aint n) → t.get 54 = some (aint i) →
    WpO E (.loop c_rewrite_Synth_l0) t (synHp i4 i8 i5 il i6 n k cap s a B H L) (fun ex t' L' => ex = .exit 2 ∧ Keep [2, 3, 4, 5, 6, 7, 27, 28] t t' ∧ ∃ a' cs' B' H', BufO 6 a' cs' ((List.range' i d).foldl (rowS k) s).ps.length B' ∧ OpsB cs' (synOps ((List.range' i d).foldl (rowS k) s).ps) H' ∧ ((List.range' i d).foldl (rowS k) s).l.length = n ∧ Am.Sub (synHp i4 i8 i5 il i6 n k cap ((List.range' i d).foldl (rowS k) s) a' B' H' L) L') := by
  intro d
  induction d with
  | zero =>
    intro i t s a cs B H L hd hl hps hb ho h5 h7 h8 h9 h53 h54
    obtain rfl : i = n := by omega
    refine wo_loop ?_
    repeat (first | intro id | refine goq ?_)
    exact ⟨rfl, by exact keepq, a, cs, B, H, hb, ho, hl, Sub.refl _⟩
  | succ d ih =>
    intro i t s a cs B H L hd hl hps hb ho h5 h7 h8 h9 h53 h54
    have hin : i < n := by omega
    have ha1 := hb.isOne
    have hgi := getAu (l := s.l) (i := i) (by omega)
    have hll : (s.l.map au).length = n := by simp [hl]
    have hr : List.range' i (d + 1) = i :: List.range' (i + 1) d := rfl
    rw [hr, List.foldl_cons]
    unfold synHp
    refine wo_loop ?_
    by_cases hik : i = k
    · have e : rowS k s i = s := by unfold rowS; rw [if_neg (by simp [hik])]
      rw [e]
      repeat (first | intro id | refine goq ?_)
      refine WpO.mono (ih (i + 1) _ s a cs B H L (by omega) hl (by omega) hb ho ?_ ?_ ?_ ?_ ?_ ?_) ?_
      · exact slotq
      · exact slotq
      · exact slotq
      · exact slotq
      · exact slotq
      · exact slotq
      · rintro ex t' L' ⟨e1, e2, e3⟩
        exact ⟨e1, Keep.trans (by exact keepq) e2, e3⟩
    · repeat (first | intro id | refine goq ?_)
      refine gok ?_
      refine (has_ok hF hm3 (k := k) (.next .here)).mono ?_
      rintro r L' ⟨rfl, rfl⟩
      cases hbit : bitB (gU s.l i) k with
      | false =>
        have e : rowS k s i = s := by unfold rowS; rw [if_neg (by simp [hbit])]
        rw [e]
        repeat (first | intro id | refine goq ?_)
        refine WpO.mono (ih (i + 1) _ s a cs B H L (by omega) hl (by omega) hb ho ?_ ?_ ?_ ?_ ?_ ?_) ?_
        · exact slotq
        · exact slotq
        · exact slotq
        · exact slotq
        · exact slotq
        · exact slotq
        · rintro ex t' L' ⟨e1, e2, e3⟩
          exact ⟨e1, Keep.trans (by exact keepq) e2, e3⟩
      | true =>
        have e : rowS k s i = addS s k i := by unfold rowS; rw [if_pos ⟨hik, hbit⟩]
        rw [e]
        have hsl : (synOps s.ps).length = s.ps.length := by simp [synOps]
        have hadd := Synth2_open (L := (i4, [aint (n : Int)]) :: (i8, [aint (k : Int)]) :: L) hF hm2 hst (l := s.l) (x := k) (y := i) (by omega) (by omega) (i5 := i5) (il := il) (i6 := i6) (cap := cap) (q := n) (b := 0) (os := synOps s.ps) (by rw [hsl]; exact hb) ho (by omega) (by omega)
        rw [hl, hsl] at hadd
        repeat (first | intro id | refine goq ?_)
        refine gok ?_
        refine CallO.weak (CallO.mono hadd ?_) ?_
        · rintro r L' ⟨a', cs', B', H', rfl, hb', ho', rfl⟩
          have ha2 := hb'.isOne
          have hps2 : (addS s k i).ps.length = s.ps.length + 1 := by simp [addS]
          have hso : synOps (addS s k i).ps = synOps s.ps ++ [cxD k i] := by simp [synOps, addS]
          repeat (first | intro id | refine goq ?_)
          refine WpO.weak (WpO.mono (ih (i + 1) _ (addS s k i) a' cs' B' H' L (by omega) (by simp [addS, hl]) (by omega) (by rw [hps2]; exact hb') (by rw [hso]; exact ho') ?_ ?_ ?_ ?_ ?_ ?_) ?_) ?_
          · exact slotq
          · exact slotq
          · exact slotq
          · exact slotq
          · exact slotq
          · exact slotq
          · rintro ex t' L' ⟨e1, e2, e3⟩
            exact ⟨e1, Keep.trans (by exact keepq) e2, e3⟩
          · unfold synHp addS
            exact subq
        · exact subq
end Go.Proofs.YtmflheoafeenfaaGreat
namespace Go.Proofs.YtmflheoafeenfaaGreat
open Go.Am
set_option maxRecDepth 4000
set_option maxHeartbeats 8000000
variable {E : Env} {L : Hp}
theorem seek_none {l : List Int} {n k : Nat} : ∀ (d r : Nat), (∀ j, r ≤ j → j < n → bitB (gU l j) k = false) → n ≤ d + r → r ≤ n → seekS l n k d r = n
  | 0, r, h, h1, h2 => by unfold seekS; omega
  | d + 1, r, h, h1, h2 => by
    unfold seekS
    by_cases hr : r < n
    · rw [if_pos ⟨hr, h r (Nat.le_refl _) hr⟩]
      exact seek_none d (r + 1) (fun j hj => h j (by omega)) (by omega) (by omega)
    · rw [if_neg (fun h => hr h.1)]
      omega
theorem seek_some {l : List Int} {n k x : Nat} : ∀ (d r : Nat), r ≤ x → x < n → bitB (gU l x) k = true → (∀ j, r ≤ j → j < x → bitB (gU l j) k = false) → x ≤ d + r → seekS l n k d r = x
  | 0, r, h0, h1, h2, h3, h4 => by unfold seekS; omega
  | d + 1, r, h0, h1, h2, h3, h4 => by
    unfold seekS
    by_cases hr : r = x
    · subst hr
      rw [if_neg (by simp [h2])]
    · rw [if_pos ⟨by omega, h3 r (Nat.le_refl _) (by omega)⟩]
      exact seek_some d (r + 1) (by omega) h1 h2 (fun j hj => h3 j (by omega)) (by omega)
theorem gU_drop (l : List Int) (k j : Nat) : (l.drop k).getD j 0 = gU l (k + j) := by simp [gU]
theorem idxB_ok (hF : E.fns = fnsT) (hmi : E.mode f_slices_IndexFunc_uint64_uint64 = .iso false) (hm3 : E.mode f_rewrite_Synth_3 = .iso false) {i8 il k n off m : Nat} {cap : Option Nat} {l : List Int} {M : Hp} (hl : l.length = n) (hn : n ≤ 64) (hk : k ≤ n) (ho : off = k) (hm : m = n - k) (hi8 : In i8 [aint (k : Int)] M) (hil : In il (l.map au) M) :
    CallO E f_slices_IndexFunc_uint64_uint64 [.sl il off m 1 cap, .fn (.func f_rewrite_Synth_3) [] [.ptr i8 0]] M fun r L' => (∃ i, r = aint i ∧ IdxP (l.drop k) (fun x => bitB x k) i) ∧ L' = M := by
  subst ho hm
  have hlen : (l.drop off).length = n - off := by simp [hl]
  have hseg : seg (l.map au) off ((n - off) * 1) = some ((l.drop off).map au) := by
    rw [seg, if_pos (by simp [hl]; omega), List.map_drop]
    congr 1
    rw [List.take_of_length_le (by simp [hl])]
  refine indexU_ok (g := f_rewrite_Synth_3) (p := fun x => bitB x off) (l := l.drop off) (v := .rs ((l.drop off).map au) (n - off) cap) (cv := [.ro [aint (off : Int)]]) hF hmi ?_ ?_ (by omega) ?_
  · refine vs_view rfl (vo_sl hil hseg (vl_sc ?_)) (vs_view rfl (vo_fn vl_nil (vl_cons (vo_ptr hi8 (by simp) (vl_cons vo_sc vl_nil)) vl_nil)) vs_nil)
    intro a ha
    obtain ⟨x, -, rfl⟩ := List.mem_map.1 ha
    exact ⟨_, rfl⟩
  · unfold SlU
    rw [hlen]
    exact .inr ⟨cap, rfl⟩
  · intro j hj
    exact Synth3_ok hF hm3 (vs_bare rfl (vs_bare rfl vs_nil))
theorem foldl_rowS_ps (k : Nat) : ∀ (is : List Nat) (s : SynS), (is.foldl (rowS k) s).ps.length ≤ s.ps.length + is.length
  | [], s => by simp
  | i :: is, s => by
    rw [List.foldl_cons]
    have h := foldl_rowS_ps k is (rowS k s i)
    have h2 : (rowS k s i).ps.length ≤ s.ps.length + 1 := by unfold rowS addS; split <;> simp
    simp only [List.length_cons]
    omega
theorem foldl_rowS_col {n k : Nat} (hk : k < n) (s : SynS) : ((List.range n).foldl (rowS k) s).ps.length ≤ s.ps.length + (n - 1) := by
  have e : List.range n = List.range' 0 k ++ k :: List.range' (k + 1) (n - k - 1) := by
    have h1 : k :: List.range' (k + 1) (n - k - 1) = List.range' (0 + k) (n - k) := by
      have : n - k = (n - k - 1) + 1 := by omega
      rw [Nat.zero_add]
      conv => rhs; rw [this]
      rfl
    rw [h1, List.range'_append_1, List.range_eq_range']
    congr 1
    omega
  rw [e, List.foldl_append, List.foldl_cons]
  have h0 : ∀ s, rowS k s k = s := fun s => by unfold rowS; rw [if_neg (by simp)]
  rw [h0]
  have h1 := foldl_rowS_ps k (List.range' (k + 1) (n - k - 1)) ((List.range' 0 k).foldl (rowS k) s)
  have h2 := foldl_rowS_ps k (List.range' 0 k) s
  simp only [List.length_range'] at h1 h2
  omega
def SynQ (e : Option SynS) (i2 i4 i5 il i6 n : Nat) (cap : Option Nat) (t : Tr AVal) (L : Hp) (ex : Ex) (t' : Tr AVal) (L' : Hp) : Prop :=
  match e with
  | some s => ex = .exit 0 ∧ Keep [2, 4, 5, 6] t t' ∧ ∃ a cs B H, BufO 6 a cs s.ps.length B ∧ OpsB cs (synOps s.ps) H ∧ s.l.length = n ∧ s.ps.length ≤ 4096 ∧ Am.Sub ((i2, [aint 0, aint 0, anil]) :: (i4, [aint (n : Int)]) :: (i5, [.sl il 0 n 1 cap]) :: (il, s.l.map au) :: (i6, [aint (n : Int), aint 0, a]) :: (B ++ (H ++ L))) L'
  | none => ex = .ret ∧ t'.get 2 = some (.ptr i2 0) ∧ t'.get 3 = some (aint 2) ∧ In i2 [aint 0, aint 0, anil] L' ∧ Am.Sub L L'
theorem synth_l1 (hF : E.fns = fnsT) (hm2 : E.mode f_rewrite_Synth_2 = .open_) (hst : still E c_rewrite_Synth_2_r0 = true) (hm3 : E.mode f_rewrite_Synth_3 = .iso false) (hmi : E.mode f_slices_IndexFunc_uint64_uint64 = .iso false) {n i2 i4 i5 il i6 : Nat} {cap : Option Nat} (hn : n ≤ 64) :
    ∀ (d k : Nat) (t : Tr AVal) (s : SynS) (a : AVal) (cs : List AVal) (B H L : Hp), d + k = n → s.l.length = n → s.ps.length ≤ k * 64 → BufO 6 a cs s.ps.length B → OpsB cs (synOps s.ps) H →
    t.get 2 = some (.ptr i2 0) → t.get 4 = some (.ptr i4 0) → t.get 5 = some (.ptr i5 0) → t.get 6 = some (.ptr i6 0) → t.get 7 = some (.fn (.func f_rewrite_Synth_2) [] [.ptr i5 0, .ptr i6 0]) → t.get 27 = some (aint n) → t.get 28 = some (aint k) →
    WpO E (.loop c_rewrite_Synth_l1) t ((i2, [aint 0, aint 0, anil]) :: (i4, [aint (n : Int)]) :: (i5, [.sl il 0 n 1 cap]) :: (il, s.l.map au) :: (i6, [aint (n : Int), aint 0, a]) :: (B ++ (H ++ L))) (SynQ (synS n d k s) i2 i4 i5 il i6 n cap t L) := by
  intro d
  induction d with
  | zero =>
    intro k t s a cs B H L hd hl hps hb ho h2 h4 h5 h6 h7 h27 h28
    obtain rfl : k = n := by omega
    refine wo_loop ?_
    repeat (first | intro id | refine goq ?_)
    exact ⟨rfl, by exact keepq, a, cs, B, H, hb, ho, hl, by omega, Sub.refl _⟩
  | succ d ih =>
    intro k t s a cs B H L hd hl hps hb ho h2 h4 h5 h6 h7 h27 h28
    have hkn : k < n := by omega
    have ha1 := hb.isOne
    have hgk := getAu (l := s.l) (i := k) (by omega)
    have hll : (s.l.map au).length = n := by simp [hl]
    have tail : ∀ (t1 : Tr AVal) (s1 : SynS) (a1 : AVal) (cs1 : List AVal) (B1 H1 Lx : Hp) (i8 : Nat), colS n s k = some ((List.range n).foldl (rowS k) s1) → s1.l.length = n → s1.ps.length ≤ k * 64 + 1 → BufO 6 a1 cs1 s1.ps.length B1 → OpsB cs1 (synOps s1.ps) H1 → Keep [2, 4, 5, 6, 7, 27, 28] t t1 → t1.get 8 = some (.ptr i8 0) → t1.get 9 = some (.fn (.func f_rewrite_Synth_3) [] [.ptr i8 0]) → t1.get 53 = some (aint n) → t1.get 54 = some (aint ((0 : Nat) : Int)) →
        Am.Sub ((i8, [aint (k : Int)]) :: (i2, [aint 0, aint 0, anil]) :: (i4, [aint (n : Int)]) :: (i5, [.sl il 0 n 1 cap]) :: (il, s1.l.map au) :: (i6, [aint (n : Int), aint 0, a1]) :: (B1 ++ (H1 ++ L))) Lx →
        WpO E (.loop c_rewrite_Synth_l0) t1 Lx (blkO 2 (blkO 1 (seqO E (AC.reg c_rewrite_Synth_r22 false) (seqO E (.loop c_rewrite_Synth_l1) (SynQ (synS n (d + 1) k s) i2 i4 i5 il i6 n cap t L))))) := by
      intro t1 s1 a1 cs1 B1 H1 Lx i8 hcol e2 e3 hb1 ho1 hK g8 g9 g53 g54 hsub
      have g5 := (hK.ex 5 rfl).trans h5
      have g7 := (hK.ex 7 rfl).trans h7
      refine WpO.weak (WpO.mono (synth_l0 hF hm2 hst hm3 (i4 := i4) (i8 := i8) (i5 := i5) (il := il) (i6 := i6) (cap := cap) hn hkn n 0 t1 s1 a1 cs1 B1 H1 ((i2, [aint 0, aint 0, anil]) :: L) (by omega) e2 (by omega) hb1 ho1 g5 g7 g8 g9 g53 g54) ?_) (Sub.trans ?_ hsub)
      · rintro ex t2 L2 ⟨rfl, hK2, a2, cs2, B2, H2, hb2, ho2, hl2, hsub2⟩
        rw [← List.range_eq_range'] at hb2 ho2 hl2 hsub2
        have hps2 := foldl_rowS_col hkn s1
        have hs' : synS n (d + 1) k s = synS n d (k + 1) ((List.range n).foldl (rowS k) s1) := by simp only [synS, hcol]
        rw [hs']
        generalize (List.range n).foldl (rowS k) s1 = s2 at *
        have q2 : t2.get 2 = some (.ptr i2 0) := (hK2.ex 2 rfl).trans ((hK.ex 2 rfl).trans h2)
        have q4 : t2.get 4 = some (.ptr i4 0) := (hK2.ex 4 rfl).trans ((hK.ex 4 rfl).trans h4)
        have q5 : t2.get 5 = some (.ptr i5 0) := (hK2.ex 5 rfl).trans g5
        have q6 : t2.get 6 = some (.ptr i6 0) := (hK2.ex 6 rfl).trans ((hK.ex 6 rfl).trans h6)
        have q7 := (hK2.ex 7 rfl).trans g7
        have q27 : t2.get 27 = some (aint n) := (hK2.ex 27 rfl).trans ((hK.ex 27 rfl).trans h27)
        have q28 : t2.get 28 = some (aint k) := (hK2.ex 28 rfl).trans ((hK.ex 28 rfl).trans h28)
        refine blkO.x (blkO.n (seqO.n (WpO.weak ?_ hsub2)))
        unfold synHp
        repeat (first | intro id | refine goq ?_)
        refine WpO.weak (WpO.mono (ih (k + 1) _ s2 a2 cs2 B2 H2 L (by omega) hl2 (by omega) hb2 ho2 ?_ ?_ ?_ ?_ ?_ ?_ ?_) ?_) ?_
        · exact slotq
        · exact slotq
        · exact slotq
        · exact slotq
        · exact slotq
        · exact slotq
        · exact slotq
        · intro ex t3 L3 h
          unfold SynQ at h ⊢
          split at h
          · obtain ⟨r1, r2, r3⟩ := h
            refine ⟨r1, ⟨fun j hj => ?_⟩, r3⟩
            have hj' : j = 2 ∨ j = 4 ∨ j = 5 ∨ j = 6 := by simpa using hj
            rw [r2.ex j hj]
            rcases hj' with rfl | rfl | rfl | rfl
            · exact (show _ = some (AVal.ptr i2 0) by exact slotq).trans h2.symm
            · exact (show _ = some (AVal.ptr i4 0) by exact slotq).trans h4.symm
            · exact (show _ = some (AVal.ptr i5 0) by exact slotq).trans h5.symm
            · exact (show _ = some (AVal.ptr i6 0) by exact slotq).trans h6.symm
          · exact h
        · exact subq
      · unfold synHp
        exact subq
    refine wo_loop ?_
    repeat (first | intro id | refine goq ?_)
    refine gok ?_
    refine (has_ok hF hm3 (k := k) .here).mono ?_
    rintro r L' ⟨rfl, rfl⟩
    cases hbit : bitB (gU s.l k) k with
    | true =>
      have hsk : seekS s.l n k n k = k := seek_some n k (Nat.le_refl _) hkn hbit (fun j h1 h2 => by omega) (by omega)
      have hcol : colS n s k = some ((List.range n).foldl (rowS k) s) := by
        unfold colS
        simp only [hsk]
        rw [if_neg (by omega)]
        rfl
      repeat (first | intro id | refine goq ?_)
      refine tail _ s a cs B H _ id hcol hl (by omega) hb ho (by exact keepq) ?_ ?_ ?_ ?_ ?_
      · exact slotq
      · exact slotq
      · exact slotq
      · exact slotq
      · exact subq
    | false =>
      repeat (first | intro id | refine goq ?_)
      refine gok ?_
      refine (idxB_ok hF hmi hm3 (k := k) hl hn (by omega) (by omega) rfl .here (.next (.next (.next (.next .here))))).mono ?_
      rintro r L' ⟨⟨i, rfl, hi⟩, rfl⟩
      have hdl : (s.l.drop k).length = n - k := by simp [hl]
      rcases hi with ⟨rfl, hno⟩ | ⟨m, rfl, hm, hpm, hbef⟩
      · have hsk : seekS s.l n k n k = n := seek_none n k (fun j h1 h2 => by
          have := hno (j - k) (by omega)
          rw [gU_drop] at this
          have e : k + (j - k) = j := by omega
          rwa [e] at this) (by omega) (by omega)
        have hcol : colS n s k = none := by
          unfold colS
          simp only [hsk, if_true]
        have hs' : synS n (d + 1) k s = none := by simp only [synS, hcol]
        rw [hs']
        repeat (first | intro id | refine goq ?_)
        refine ⟨rfl, by exact slotq, by exact slotq, .next .here, ?_⟩
        exact subq
      · rw [gU_drop] at hpm
        replace hpm : bitB (gU s.l (k + m)) k = true := hpm
        have hm0 : m ≠ 0 := by
          rintro rfl
          rw [Nat.add_zero, hbit] at hpm
          cases hpm
        have hsk : seekS s.l n k n k = k + m := seek_some n k (by omega) (by omega) hpm (fun j h1 h2 => by
          have := hbef (j - k) (by omega)
          rw [gU_drop] at this
          have e : k + (j - k) = j := by omega
          rwa [e] at this) (by omega)
        have hcol : colS n s k = some ((List.range n).foldl (rowS k) (addS s (k + m) k)) := by
          unfold colS
          simp only [hsk]
          rw [if_neg (by omega), if_neg (by omega)]
        have hsl : (synOps s.ps).length = s.ps.length := by simp [synOps]
        repeat (first | intro id | refine goq ?_)
        have hadd := Synth2_open (L := (id, [aint (k : Int)]) :: (i2, [aint 0, aint 0, anil]) :: (i4, [aint (n : Int)]) :: L) hF hm2 hst (l := s.l) (x := k + m) (y := k) (by omega) (by omega) (i5 := i5) (il := il) (i6 := i6) (cap := cap) (q := n) (b := 0) (os := synOps s.ps) (by rw [hsl]; exact hb) ho (by omega) (by omega)
        rw [hl, hsl] at hadd
        refine gok ?_
        refine CallO.weak (CallO.mono hadd ?_) ?_
        · rintro r L' ⟨a', cs', B', H', rfl, hb', ho', rfl⟩
          have ha2 := hb'.isOne
          have hps2 : (addS s (k + m) k).ps.length = s.ps.length + 1 := by simp [addS]
          have hso : synOps (addS s (k + m) k).ps = synOps s.ps ++ [cxD (k + m) k] := by simp [synOps, addS]
          repeat (first | intro id | refine goq ?_)
          refine tail _ (addS s (k + m) k) a' cs' B' H' _ id hcol (by simp [addS, hl]) (by omega) (by rw [hps2]; exact hb') (by rw [hso]; exact ho') (by exact keepq) ?_ ?_ ?_ ?_ ?_
          · exact slotq
          · exact slotq
          · exact slotq
          · exact slotq
          · unfold addS
            exact subq
        · exact subq
end Go.Proofs.YtmflheoafeenfaaGreat
namespace Go.Proofs.YtmflheoafeenfaaGreat
open Go.Am
set_option maxRecDepth 4000
set_option maxHeartbeats 8000000
variable {E : Env} {L : Hp}
theorem ends_of {α : Type} {m : List α} (h : 2 ≤ m.length) : ∃ a m' b, m = a :: (m' ++ [b]) := by
  match m, h with
  | a :: r, h =>
    have hr : r ≠ [] := by rintro rfl; simp at h
    exact ⟨a, r.dropLast, r.getLast hr, by rw [List.dropLast_concat_getLast]⟩
theorem rev_l0 (hst : still E c_slices_Reverse_api_Op_api_Op_r2 = true) {ic n : Nat} {cap : Option Nat} (hn : n ≤ 1000000) : ∀ (d : Nat) (m X Y : List Trip) (i : Nat) (t : Tr AVal) (L : Hp), m.length ≤ d → X.length = i → Y.length = i → 2 * i + m.length = n → 1 ≤ i + m.length → TrOk X → TrOk m → TrOk Y → t.get 0 = some (.sl ic 0 n 6 cap) → t.get 2 = some (aint i) → t.get 3 = some (aint ((i + m.length - 1 : Nat) : Int)) →
    WpO E (.loop c_slices_Reverse_api_Op_api_Op_l0) t ((ic, tpC (X ++ (m ++ Y))) :: L) (fun ex t' L' => ex = .exit 0 ∧ L' = (ic, tpC (X ++ (m.reverse ++ Y))) :: L) := by
  intro d
  induction d with
  | zero =>
    intro m X Y i t L hm hX hY hnn h1 okX okm okY h0 h2 h3
    have : m = [] := List.eq_nil_of_length_eq_zero (by omega)
    subst this
    simp only [List.length_nil] at hnn h1 h3
    refine wo_loop ?_
    repeat (first | intro id | refine goq ?_)
    exact ⟨rfl, rfl⟩
  | succ d ih =>
    intro m X Y i t L hm hX hY hnn h1 okX okm okY h0 h2 h3
    by_cases hlt : m.length < 2
    · have hrev : m.reverse = m := by
        match m, hlt with
        | [], _ => rfl
        | [x], _ => rfl
      refine wo_loop ?_
      repeat (first | intro id | refine goq ?_)
      rw [hrev]
      exact ⟨rfl, rfl⟩
    · obtain ⟨a, m', b, rfl⟩ := ends_of (m := m) (by omega)
      have hml : (a :: (m' ++ [b])).length = m'.length + 2 := by simp
      rw [hml] at hnn h3 hm
      have oka := okm a (by simp)
      have okb := okm b (by simp)
      have hu1 := oka.1.isOne
      have hu2 := okb.1.isOne
      have e0 : X ++ ((a :: (m' ++ [b])) ++ Y) = X ++ a :: (m' ++ b :: Y) := by simp
      have e1 : X ++ a :: (m' ++ b :: Y) = (X ++ a :: m') ++ b :: Y := by simp
      have e2 : X ++ b :: (m' ++ b :: Y) = (X ++ b :: m') ++ b :: Y := by simp
      have e3 : (X ++ b :: m') ++ a :: Y = (X ++ [b]) ++ (m' ++ (a :: Y)) := by simp
      have hj : i + (m'.length + 2) - 1 = i + m'.length + 1 := by omega
      rw [hj] at h3
      rw [e0]
      have hlen := tpC_len (X ++ a :: (m' ++ b :: Y))
      have hlen2 : (X ++ a :: (m' ++ b :: Y)).length = n := by simp; omega
      rw [hlen2] at hlen
      have sa : seg (tpC (X ++ a :: (m' ++ b :: Y))) (0 + i * 6) 6 = some (opCells a.u a.o) := by rw [Nat.zero_add]; exact tp_seg a hX
      have sb : seg (tpC (X ++ a :: (m' ++ b :: Y))) (0 + (i + m'.length + 1) * 6) 6 = some (opCells b.u b.o) := by
        rw [Nat.zero_add, e1]
        exact tp_seg b (by simp; omega)
      have p1 := tp_put (xs := X) (ys := m' ++ b :: Y) a b hX
      have p2 := tp_put (xs := X ++ b :: m') (ys := Y) b a (k := i + m'.length + 1) (by simp; omega)
      rw [← e2, ← p1, e3] at p2
      unfold opCells at sa sb
      refine wo_loop ?_
      repeat (first | intro id | refine goq ?_)
      have e4 : (a :: (m' ++ [b])).reverse = b :: (m'.reverse ++ [a]) := by simp
      have e5 : (X ++ [b]) ++ (m'.reverse ++ (a :: Y)) = X ++ ((b :: (m'.reverse ++ [a])) ++ Y) := by simp
      rw [e4, ← e5]
      refine WpO.weak (ih m' (X ++ [b]) (a :: Y) (i + 1) _ L (by omega) (by simp [hX]) (by simp [hY]) (by omega) (by omega) (fun p hp => ?_) (fun p hp => okm p (by simp [hp])) (fun p hp => ?_) ?_ ?_ ?_) ?_
      · rcases List.mem_append.1 hp with hp | hp
        · exact okX p hp
        · obtain rfl := List.mem_singleton.1 hp
          exact okb
      · rcases List.mem_cons.1 hp with rfl | hp
        · exact oka
        · exact okY p hp
      · exact slotq
      · exact slotq
      · have e : ((i + 1 + m'.length - 1 : Nat)) = i + m'.length + 1 - 1 := by omega
        rw [e]
        exact slotq
      · rw [← p2]
        exact Sub.refl _
theorem tpH_rev (T : List Trip) : (tpH T.reverse).Perm (tpH T) := List.Perm.flatMap_right _ (List.reverse_perm T)
theorem tpO_rev (T : List Trip) : tpO T.reverse = (tpO T).reverse := by simp [tpO]
theorem Reverse_open (hF : E.fns = fnsT) (hm : E.mode f_slices_Reverse_api_Op_api_Op = .open_) (hst : still E c_slices_Reverse_api_Op_api_Op_r2 = true) {a : AVal} {cs : List AVal} {os : List OpD} {B H : Hp} (hb : BufO 6 a cs os.length B) (ho : OpsB cs os H) (hn : os.length ≤ 1000000) :
    CallO E f_slices_Reverse_api_Op_api_Op [a] (B ++ (H ++ L)) fun r L' => ∃ cs' B' H', r = .tup [] ∧ BufO 6 a cs' os.length B' ∧ OpsB cs' os.reverse H' ∧ L' = B' ++ (H' ++ L) := by
  refine CallO.to (callO_open hm (fns_of hF n_slices_Reverse_api_Op_api_Op) ?_)
  have ha1 := hb.isOne
  by_cases h0 : os.length = 0
  · have : os = [] := List.eq_nil_of_length_eq_zero h0
    subst this
    simp only [List.length_nil] at hb
    refine bodyO_of (Nat.le_of_ble_eq_true rfl) ?_; generalize ht : argSlots _ 0 .nil = t; have h0 : t.get 0 = some _ := (by rw [← ht]; rfl); clear ht
    repeat (first | intro id | refine goq ?_)
    refine wo_loop ?_
    repeat (first | intro id | refine goq ?_)
    ((first | apply retO_r | apply retO_n); (focus (exact resq)))
    exact ⟨B ++ (H ++ L), by exact subq, cs, B, H, rfl, hb, ho, rfl⟩
  · rcases bufInv hb with ⟨rfl, -, e, -⟩ | ⟨ic, rfl, rfl⟩
    · omega
    obtain ⟨T, hT, rfl, rfl, rfl⟩ := ho.trip
    have hTn : T.length = (tpO T).length := by simp [tpO]
    refine bodyO_of (Nat.le_of_ble_eq_true rfl) ?_; generalize ht : argSlots _ 0 .nil = t; have h0 : t.get 0 = some _ := (by rw [← ht]; rfl); clear ht
    repeat (first | intro id | refine goq ?_)
    refine WpO.weak (WpO.mono (rev_l0 (ic := ic) (cap := none) hst hn T.length T [] [] 0 _ (tpH T ++ L) (Nat.le_refl _) rfl rfl (by omega) (by omega) (fun p hp => by cases hp) hT (fun p hp => by cases hp) ?_ ?_ ?_) ?_) ?_
    · exact slotq
    · exact slotq
    · have e : (0 + T.length - 1 : Nat) = (tpO T).length - 1 := by omega
      rw [e]
      exact slotq
    · rintro ex t' L' ⟨rfl, rfl⟩
      refine blkO.x ?_
      simp only [List.nil_append, List.append_nil]
      have okR : TrOk T.reverse := fun p hp => hT p (by simpa using hp)
      ((first | apply retO_r | apply retO_n); (focus (exact resq)))
      refine ⟨(ic, tpC T.reverse) :: (tpH T.reverse ++ L), ⟨[], ?_⟩, tpC T.reverse, [(ic, tpC T.reverse)], tpH T.reverse, rfl, .box (by rw [tpC_len, List.length_reverse, hTn]) ?_, by rw [← tpO_rev]; exact okR.ops, rfl⟩
      · rw [List.append_nil]
        exact ((tpH_rev T).symm.append_right L).cons _
      · have : ∀ T : List Trip, TrOk T → (tpC T).all AVal.one = true := by
          intro T
          induction T with
          | nil => intro _; rfl
          | cons p T ih =>
            intro h
            have h1 := (h p (by simp)).1.isOne
            have e : tpC (p :: T) = opCells p.u p.o ++ tpC T := by simp [tpC]
            rw [e, List.all_append, ih fun q hq => h q (by simp [hq])]
            simp only [opCells, List.all_cons, List.all_nil, h1, Bool.and_true]
            rfl
        exact this _ okR
    · simp only [List.nil_append, List.append_nil]
      exact subq
end Go.Proofs.YtmflheoafeenfaaGreat
namespace Go.Proofs.YtmflheoafeenfaaGreat
open Go.Am
set_option maxRecDepth 4000
set_option maxHeartbeats 8000000
variable {E : Env} {L : Hp}
def OwnU (u : AVal) (l : List Int) (B : Hp) : Prop := (u = anil ∧ l = [] ∧ B = []) ∨ ∃ id cap, u = .sl id 0 l.length 1 cap ∧ B = [(id, l.map au)]
theorem OwnU.isOne {u : AVal} {l : List Int} {B : Hp} (h : OwnU u l B) : u.one = true := by
  rcases h with ⟨rfl, -, -⟩ | ⟨id, cap, rfl, -⟩ <;> rfl
theorem OwnU.view {u : AVal} {l : List Int} {B M : Hp} (h : OwnU u l B) (k : Nat) (hM : ∀ id c, In id c B → In id c M) : ∃ q, ViewO M (k + 2) u q ∧ SlU q l := by
  rcases h with ⟨rfl, rfl, rfl⟩ | ⟨id, cap, rfl, rfl⟩
  · exact ⟨anil, vo_sc, .inl ⟨rfl, rfl, rfl⟩⟩
  · refine ⟨.rs (l.map au) l.length cap, vo_sl (hM _ _ .here) (by rw [Nat.mul_one]; exact seg_full (by simp)) (vl_sc ?_), .inr ⟨cap, rfl⟩⟩
    intro a ha
    obtain ⟨x, -, rfl⟩ := List.mem_map.1 ha
    exact ⟨_, rfl⟩
theorem CloneU_open (hF : E.fns = fnsT) (hm : E.mode f_slices_Clone_uint64_uint64 = .open_) {u : AVal} {l : List Int} {B : Hp} (hu : OwnU u l B) (hi : ∀ id c, In id c B → In id c L) (hl : l.length ≤ 2000000) : CallO E f_slices_Clone_uint64_uint64 [u] L fun r L' => ∃ B, OwnU r l B ∧ L' = B ++ L := by
  refine CallO.to (callO_open hm (fns_of hF n_slices_Clone_uint64_uint64) ?_)
  rcases hu with ⟨rfl, rfl, -⟩ | ⟨iq, cap, rfl, rfl⟩
  · refine bodyO_of (Nat.le_of_ble_eq_true rfl) ?_; generalize ht : argSlots _ 0 .nil = t; have h0 : t.get 0 = some _ := (by rw [← ht]; rfl); clear ht
    repeat (first | intro id | refine goq ?_)
    ((first | apply retO_r | apply retO_n); (focus (exact resq)))
    exact ⟨_, by exact subq, [], .inl ⟨rfl, rfl, rfl⟩, rfl⟩
  · have hin := hi iq _ .here
    refine bodyO_of (Nat.le_of_ble_eq_true rfl) ?_; generalize ht : argSlots _ 0 .nil = t; have h0 : t.get 0 = some _ := (by rw [← ht]; rfl); clear ht
    repeat (first | intro id | refine goq ?_)
    by_cases hl0 : l.length = 0
    · have : l = [] := List.eq_nil_of_length_eq_zero hl0
      subst this
      refine oo_append0 wanted_none (by exact slotq) rfl (by exact slotq) rfl ?_
      repeat (first | intro id | refine goq ?_)
      ((first | apply retO_r | apply retO_n); (focus (exact resq)))
      exact ⟨_, by exact subq, [(id, [])], .inr ⟨id, some 0, rfl, rfl⟩, rfl⟩
    · refine oo_appendFB wanted_none (by exact slotq) .here (old := []) rfl rfl (by exact slotq) (.next hin) (by omega) (by simp) (all_one_au _) (by omega) (by omega) ?_
      intro id2
      repeat (first | intro id | refine goq ?_)
      ((first | apply retO_r | apply retO_n); (focus (exact resq)))
      exact ⟨_, by exact subq, [(id2, l.map au)], .inr ⟨id2, none, by simp [resultV], rfl⟩, rfl⟩
theorem overIdx_ok (hF : E.fns = fnsT) (hmc : E.mode f_slices_ContainsFunc_uint64_uint64 = .iso false) (hmi : E.mode f_slices_IndexFunc_uint64_uint64 = .iso false) (hm1 : E.mode f_rewrite_Synth_1 = .iso false) {i4 n : Nat} {u : AVal} {l : List Int} {B M : Hp} (hu : OwnU u l B) (hi : ∀ id c, In id c B → In id c M) (hl : l.length ≤ 2000000) (hi4 : In i4 [aint (n : Int)] M) :
    CallO E f_slices_ContainsFunc_uint64_uint64 [u, .fn (.func f_rewrite_Synth_1) [] [.ptr i4 0]] M fun r L' => r = abool (l.any fun x => overB x n) ∧ L' = M := by
  have fnv : ViewsO M [.fn (.func f_rewrite_Synth_1) [] [.ptr i4 0]] [.fn (.func f_rewrite_Synth_1) [] [.ro [aint (n : Int)]]] := vs_view rfl (vo_fn vl_nil (vl_cons (vo_ptr hi4 (by simp) (vl_cons vo_sc vl_nil)) vl_nil)) vs_nil
  have hv : ∃ q, ViewsO M [u, .fn (.func f_rewrite_Synth_1) [] [.ptr i4 0]] [q, .fn (.func f_rewrite_Synth_1) [] [.ro [aint (n : Int)]]] ∧ SlU q l := by
    obtain ⟨q, h1, h2⟩ := hu.view (M := M) 62 hi
    rcases hu with ⟨rfl, rfl, -⟩ | ⟨id, cap, rfl, -⟩
    · exact ⟨anil, vs_bare rfl fnv, .inl ⟨rfl, rfl, rfl⟩⟩
    · exact ⟨q, vs_view rfl h1 fnv, h2⟩
  obtain ⟨q, h1, h2⟩ := hv
  exact containsU_ok (g := f_rewrite_Synth_1) (p := fun x => overB x n) (cv := [.ro [aint (n : Int)]]) hF hmc hmi h1 (by rfl) h2 (by omega) fun j hj => Synth1_ok hF hm1
end Go.Proofs.YtmflheoafeenfaaGreat
namespace Go.Proofs.YtmflheoafeenfaaGreat
open Go.Am
set_option maxRecDepth 4000
set_option maxHeartbeats 8000000
variable {E : Env} {L : Hp}
def SynO (l : List Int) (r : AVal) (B : Hp) : Prop := (synAll l = none ∧ r = .tup [.agg zeroC, aint 2] ∧ B = []) ∨ ∃ ps v, synAll l = some ps ∧ ps.length ≤ 4096 ∧ r = .tup [v, aint 0] ∧ CircO v ⟨l.length, 0, (synOps ps).reverse⟩ B
theorem OwnU.slen {u : AVal} {l : List Int} {B : Hp} (h : OwnU u l B) : sliceLen u = some l.length := by
  rcases h with ⟨rfl, rfl, -⟩ | ⟨id, cap, rfl, -⟩ <;> rfl
theorem Synth_open (hF : E.fns = fnsT) (hm : E.mode f_rewrite_Synth = .open_) (hm2 : E.mode f_rewrite_Synth_2 = .open_) (hst : still E c_rewrite_Synth_2_r0 = true) (hm3 : E.mode f_rewrite_Synth_3 = .iso false) (hm1 : E.mode f_rewrite_Synth_1 = .iso false) (hmi : E.mode f_slices_IndexFunc_uint64_uint64 = .iso false) (hmc : E.mode f_slices_ContainsFunc_uint64_uint64 = .iso false) (hmcl : E.mode f_slices_Clone_uint64_uint64 = .open_) (hmR : E.mode f_slices_Reverse_api_Op_api_Op = .open_) (hstR : still E c_slices_Reverse_api_Op_api_Op_r2 = true)
    {u : AVal} {l : List Int} {B0 : Hp} (hu : OwnU u l B0) (hl : l.length ≤ 2000000) : CallO E f_rewrite_Synth [u] (B0 ++ L) fun r L' => ∃ B, SynO l r B ∧ L' = B ++ (B0 ++ L) := by
  refine CallO.to (callO_open hm (fns_of hF n_rewrite_Synth) ?_)
  have hu1 := hu.isOne
  have hsl := hu.slen
  by_cases h64 : 64 < l.length
  · have hn : synAll l = none := by unfold synAll; rw [if_pos (.inl h64)]
    refine bodyO_of (Nat.le_of_ble_eq_true rfl) ?_; generalize ht : argSlots _ 0 .nil = t; have h0 : t.get 0 = some _ := (by rw [← ht]; rfl); clear ht
    repeat (first | intro id | refine goq ?_)
    refine oo_p wanted_none (fun mm hmm => op_len (by exact slotq) hsl) ?_
    repeat (first | intro id | refine goq ?_)
    ((first | apply retO_r | apply retO_n); (focus (exact resq)))
    exact ⟨B0 ++ L, by exact subq, [], .inl ⟨hn, rfl, rfl⟩, rfl⟩
  · refine bodyO_of (Nat.le_of_ble_eq_true rfl) ?_; generalize ht : argSlots _ 0 .nil = t; have h0 : t.get 0 = some _ := (by rw [← ht]; rfl); clear ht
    repeat (first | intro id | refine goq ?_)
    refine oo_p wanted_none (fun mm hmm => op_len (by exact slotq) hsl) ?_
    repeat (first | intro id | refine goq ?_)
    rename_i i2
    refine gok ?_
    refine (overIdx_ok (n := l.length) hF hmc hmi hm1 hu (fun id c hi => .next (.next hi.appl)) hl .here).mono ?_
    rintro r L' ⟨rfl, rfl⟩
    cases hov : l.any (fun x => overB x l.length) with
    | true =>
      have hn : synAll l = none := by unfold synAll; rw [if_pos (.inr hov)]
      repeat (first | intro id | refine goq ?_)
      ((first | apply retO_r | apply retO_n); (focus (exact resq)))
      exact ⟨B0 ++ L, by exact subq, [], .inl ⟨hn, rfl, rfl⟩, rfl⟩
    | false =>
      have hsy : synAll l = (synS l.length l.length 0 ⟨l, []⟩).map SynS.ps := by unfold synAll; rw [if_neg (by simp [h64, hov])]
      repeat (first | intro id | refine goq ?_)
      refine gok ?_
      refine (CloneU_open hF hmcl hu (fun id c hi => .next (.next hi.appl)) hl).mono ?_
      rintro r L' ⟨B1, hB1, rfl⟩
      have hr1 := hB1.isOne
      rcases hB1 with ⟨rfl, rfl, rfl⟩ | ⟨il, cap, rfl, rfl⟩
      · have hrev := fun (M : Hp) => Reverse_open (L := M) hF hmR hstR (a := anil) (cs := []) (os := []) (B := []) (H := []) .nil .nil (by simp)
        simp only [List.length_nil] at *
        repeat (first | intro id | refine goq ?_)
        rename_i i4 i5
        refine wo_loop ?_
        repeat (first | intro id | refine goq ?_)
        refine gok ?_
        refine (hrev _).mono ?_
        rintro r L' ⟨cs2, B2, H2, rfl, hb2, ho2, rfl⟩
        repeat (first | intro id | refine goq ?_)
        ((first | apply retO_r | apply retO_n); (focus (exact resq)))
        refine ⟨B0 ++ L, by exact subq, [], .inr ⟨[], _, by rw [hsy]; rfl, by simp, rfl, anil, [], [], [], rfl, .nil, .nil, by simp [synOps], rfl⟩, rfl⟩
      · repeat (first | intro id | refine goq ?_)
        rename_i i4 i5
        refine WpO.weak (WpO.mono (synth_l1 (n := l.length) (i2 := i2) (i4 := i4) (i5 := i5) (il := il) (i6 := id) (cap := cap) hF hm2 hst hm3 hmi (by omega) l.length 0 _ ⟨l, []⟩ anil [] [] [] (B0 ++ L) (by omega) rfl (by simp) .nil .nil ?_ ?_ ?_ ?_ ?_ ?_ ?_) ?_) (by exact subq)
        · exact slotq
        · exact slotq
        · exact slotq
        · exact slotq
        · exact slotq
        · exact slotq
        · exact slotq
        · intro ex t1 L1 h
          unfold SynQ at h
          split at h
          · rename_i s1 hs1
            obtain ⟨rfl, hK, a1, cs1, B1, H1, hb1, ho1, hl1, hps, hsub⟩ := h
            have k2 : t1.get 2 = some (.ptr i2 0) := (hK.ex 2 rfl).trans (by exact slotq)
            have k6 : t1.get 6 = some (.ptr id 0) := (hK.ex 6 rfl).trans (by exact slotq)
            clear hK
            have ha1 := hb1.isOne
            have hsp : (synOps s1.ps).length = s1.ps.length := by simp [synOps]
            have hrev := fun (M : Hp) => Reverse_open (L := M) hF hmR hstR (os := synOps s1.ps) (by rw [hsp]; exact hb1) ho1 (by omega)
            refine blkO.x (seqO.n (WpO.weak ?_ hsub))
            have hpsl : (synOps s1.ps).length ≤ 4096 := by omega
            repeat (first | intro id | refine goq ?_)
            refine gok ?_
            refine CallO.weak (CallO.mono (hrev ((id, [aint (l.length : Int), aint 0, a1]) :: (i2, [aint 0, aint 0, anil]) :: (B0 ++ L))) ?_) (by exact subq)
            rintro r L' ⟨cs2, B2, H2, rfl, hb2, ho2, rfl⟩
            rw [hsp] at hb2
            repeat (first | intro id | refine goq ?_)
            ((first | apply retO_r | apply retO_n); (focus (exact resq)))
            have hrl : (synOps s1.ps).reverse.length = s1.ps.length := by rw [List.length_reverse, hsp]
            refine ⟨(B2 ++ H2) ++ (B0 ++ L), ?_, B2 ++ H2, .inr ⟨s1.ps, _, by rw [hsy, hs1]; rfl, hps, rfl, a1, cs2, B2, H2, rfl, by simp only [hrl]; exact hb2, ho2, by simp only [hrl]; omega, rfl⟩, rfl⟩
            simp only [List.append_assoc]
            exact subq
          · rename_i hs1
            obtain ⟨rfl, g2, g3, hin, hsub⟩ := h
            have hn : synAll l = none := by rw [hsy, hs1]; rfl
            refine blkO.r (seqO.r ?_)
            ((first | apply retO_r | apply retO_n); (focus (exact resq)))
            exact ⟨B0 ++ L, hsub, [], .inl ⟨hn, rfl, rfl⟩, rfl⟩
end Go.Proofs.YtmflheoafeenfaaGreat
namespace Go.Proofs.YtmflheoafeenfaaGreat
open Go.Am
theorem andV_one (a : Int) : andV a 1 = 0 ∨ andV a 1 = 1 := by
  have h : (BitVec.ofInt 64 a &&& BitVec.ofInt 64 1).toNat = (BitVec.ofInt 64 a).toNat % 2 := by
    rw [BitVec.toNat_and]
    exact Nat.and_one_is_mod _
  unfold andV
  rw [h]
  generalize (BitVec.ofInt 64 a).toNat = y
  have e : IntKind.wrap .u64 ((y % 2 : Nat) : Int) = ((y % 2 : Nat) : Int) := by
    show ((y % 2 : Nat) : Int) % 18446744073709551616 = _
    omega
  rw [e]
  omega
end Go.Proofs.YtmflheoafeenfaaGreat
namespace Go.Proofs.YtmflheoafeenfaaGreat
open Go.Am
set_option maxRecDepth 4000
set_option maxHeartbeats 8000000
variable {E : Env} {L : Hp}
theorem rsyn_l1 {n k il : Nat} {cap : Option Nat} {l : List Int} (hn : n ≤ 64) (hl : l.length = n) : ∀ (d r : Nat) (t : Tr AVal) (L : Hp), n ≤ d + r → r ≤ n → In il (l.map au) L → t.get 4 = some (aint n) → t.get 5 = some (.sl il 0 n 1 cap) → t.get 8 = some (aint k) → t.get 9 = some (aint r) → k < n →
    WpO E (.loop c_phasorref18_Synth_l1) t L (fun ex t' L' => ex = .exit 4 ∧ Keep [0, 1, 2, 3, 4, 5, 6, 7, 8] t t' ∧ t'.get 9 = some (aint (seekS l n k d r : Nat)) ∧ L' = L) := by
  intro d
  induction d with
  | zero =>
    intro r t L hd hr hin h4 h5 h8 h9 hk
    obtain rfl : r = n := by omega
    refine wo_loop ?_
    repeat (first | intro id | refine goq ?_)
    exact ⟨rfl, by exact keepq, by unfold seekS; exact slotq, rfl⟩
  | succ d ih =>
    intro r t L hd hr hin h4 h5 h8 h9 hk
    by_cases hrn : r < n
    · have hg := getAu (l := l) (i := r) (by omega)
      have hw : IntKind.wrap .u64 (k : Int) = (k : Int) := by show (k : Int) % 18446744073709551616 = k; omega
      have hz : (IntKind.wrap .u64 ((BitVec.ofInt (IntKind.bits .u64) ((gU l r).fdiv (2 ^ min ((k : Int)).toNat (IntKind.bits .u64))) &&& BitVec.ofInt (IntKind.bits .u64) 1).toNat : Int) == 0) = !bitB (gU l r) k := by
        show (andV (shrV (gU l r) k) 1 == 0) = !bitB (gU l r) k
        unfold bitB
        rcases andV_one (shrV (gU l r) k) with h | h <;> rw [h] <;> decide
      refine wo_loop ?_
      repeat (first | intro id | refine goq ?_)
      rw [hw, hz]
      cases hb : bitB (gU l r) k with
      | true =>
        repeat (first | intro id | refine goq ?_)
        exact ⟨rfl, by exact keepq, by unfold seekS; rw [if_neg (by simp [hb])]; exact slotq, rfl⟩
      | false =>
        repeat (first | intro id | refine goq ?_)
        refine WpO.mono (ih (r + 1) _ L (by omega) (by omega) hin ?_ ?_ ?_ ?_ hk) ?_
        · exact slotq
        · exact slotq
        · exact slotq
        · exact slotq
        · rintro ex t' L' ⟨e1, e2, e3, e4⟩
          refine ⟨e1, Keep.trans (by exact keepq) e2, ?_, e4⟩
          unfold seekS
          rw [if_pos ⟨hrn, hb⟩]
          exact e3
    · obtain rfl : r = n := by omega
      refine wo_loop ?_
      repeat (first | intro id | refine goq ?_)
      exact ⟨rfl, by exact keepq, by unfold seekS; rw [if_neg (by omega)]; exact slotq, rfl⟩
end Go.Proofs.YtmflheoafeenfaaGreat
namespace Go.Proofs.YtmflheoafeenfaaGreat
open Go.Am
set_option maxRecDepth 4000
set_option maxHeartbeats 8000000
variable {E : Env} {L : Hp}
theorem rone_open (hF : E.fns = fnsT) (hm : E.mode f_phasorref18_one = .open_) {g : Int} {l : List Int} {iq : Nat} {cap : Option Nat} (h0 : 0 < l.length) (hl : l.length ≤ 2000000) (hin : In iq (l.map aint) L) : CallO E f_phasorref18_one [aint g, .sl iq 0 l.length 1 cap] L fun r L' => ∃ u B, OwnI u l B ∧ r = .agg (opCells u ⟨1, g, l, 0, -1, 0⟩) ∧ L' = B ++ L := by
  refine CallO.to (callO_open hm (fns_of hF n_phasorref18_one) ?_)
  refine bodyO_of (Nat.le_of_ble_eq_true rfl) ?_; generalize ht : argSlots _ 0 .nil = t; have h0 : t.get 0 = some _ := (by rw [← ht]; rfl); have h1 : t.get 1 = some _ := (by rw [← ht]; rfl); clear ht
  repeat (first | intro id | refine goq ?_)
  refine oo_appendFB wanted_none (by exact slotq) .here (old := []) rfl rfl (by exact slotq) (.next (.next hin)) (by omega) (by simp) (all_one_ints _) (by omega) (by omega) ?_
  intro id2
  repeat (first | intro id | refine goq ?_)
  ((first | apply retO_r | apply retO_n); (focus (exact resq)))
  exact ⟨_, by exact subq, _, [(id2, l.map aint)], .inr ⟨id2, none, by simp, rfl⟩, rfl, rfl⟩
def RcpQ (b : Bool) (l : List Int) (n i2 : Nat) (t : Tr AVal) (L : Hp) (ex : Ex) (t' : Tr AVal) (L' : Hp) : Prop :=
  match b with
  | false => ex = .exit 0 ∧ Keep [0, 2, 4] t t' ∧ ∃ v' B', t'.get 5 = some v' ∧ BufO 1 v' (l.map au) n B' ∧ L' = B' ++ ((i2, [aint 0, aint 0, anil]) :: L)
  | true => ex = .ret ∧ t'.get 2 = some (.ptr i2 0) ∧ t'.get 3 = some (aint 2) ∧ ∃ B', L' = B' ++ ((i2, [aint 0, aint 0, anil]) :: L)
theorem rsyn_l0 {s : AVal} {l : List Int} {n i2 : Nat} (hs : SlU s l) (hn : n ≤ 64) (hl : l.length = n) (h64 : n = 64 → l.any (fun x => overB x n) = false) :
    ∀ (d k : Nat) (t : Tr AVal) (v : AVal) (B : Hp), d + k = n → t.get 0 = some s → t.get 2 = some (.ptr i2 0) → t.get 4 = some (aint n) → t.get 5 = some v → t.get 6 = some (aint k) → BufO 1 v ((l.take k).map au) k B → (l.take k).any (fun x => overB x n) = false →
    WpO E (.loop c_phasorref18_Synth_l0) t (B ++ ((i2, [aint 0, aint 0, anil]) :: L)) (RcpQ (l.any fun x => overB x n) l n i2 t L) := by
  unfold SlU at hs
  have hs1 := RowA.isOne hs
  intro d
  induction d with
  | zero =>
    intro k t v B hd h0 h2 h4 h5 h6 hb hno
    obtain rfl : k = n := by omega
    rw [← hl, List.take_length] at hno
    rw [hl] at hno
    rw [hno]
    rw [← hl, List.take_length] at hb
    rw [hl] at hb
    have hv1 := hb.isOne
    refine wo_loop ?_
    repeat (first | intro id | refine goq ?_)
    exact ⟨rfl, by exact keepq, v, B, by exact slotq, hb, rfl⟩
  | succ d ih =>
    intro k t v B hd h0 h2 h4 h5 h6 hb hno
    have hv1 := hb.isOne
    have hkl : k < l.length := by omega
    have hg : (List.drop (k * 1) (l.map au))[0]? = some (au (gU l k)) := by rw [Nat.mul_one, List.getElem?_drop, Nat.add_zero]; exact getAu hkl
    have hw : IntKind.wrap .u64 (n : Int) = (n : Int) := by show (n : Int) % 18446744073709551616 = n; omega
    have hz : ((gU l k).fdiv (2 ^ min ((n : Int)).toNat (IntKind.bits .u64)) != 0) = overB (gU l k) n := rfl
    have htk : l.take (k + 1) = l.take k ++ [gU l k] := by
      rw [List.take_succ_eq_append_getElem hkl]
      simp [gU, hkl]
    have hmem : gU l k ∈ l := by simp [gU, hkl]
    have step : ∀ (t1 : Tr AVal), overB (gU l k) n = false → t1.get 0 = some s → t1.get 2 = some (.ptr i2 0) → t1.get 4 = some (aint n) → t1.get 5 = some v → t1.get 6 = some (aint k) → Keep [0, 2, 4] t t1 →
        WpO E (.reg c_phasorref18_Synth_r9 false) t1 (B ++ ((i2, [aint 0, aint 0, anil]) :: L)) (blkO 1 (seqO E (.reg c_phasorref18_Synth_r10 false) (seqO E (.loop c_phasorref18_Synth_l0) (RcpQ (l.any fun x => overB x n) l n i2 t L)))) := by
      intro t1 hov g0 g2 g4 g5 g6 hK
      repeat (first | intro id | refine goq ?_)
      have hb2 := hb.pushed (id := id) (nw := [au (gU l k)]) rfl rfl
      have e : (l.take k).map au ++ [au (gU l k)] = (l.take (k + 1)).map au := by rw [htk]; simp
      rw [e] at hb2
      refine WpO.weak (WpO.mono (ih (k + 1) _ _ _ (by omega) ?_ ?_ ?_ ?_ ?_ hb2 (by rw [htk, List.any_append, hno]; simp [hov])) ?_) ?_
      · exact slotq
      · exact slotq
      · exact slotq
      · exact slotq
      · exact slotq
      · intro ex t' L' h
        unfold RcpQ at h ⊢
        split at h
        · obtain ⟨e1, e2, e3⟩ := h
          exact ⟨e1, hK.trans (Keep.trans (by exact keepq) e2), e3⟩
        · exact h
      · rw [← e]
        exact subq
    refine wo_loop ?_
    by_cases hn64 : n < 64
    · repeat (first | intro id | refine goq ?_)
      rw [hw, hz]
      cases hov : overB (gU l k) n with
      | true =>
        have ha : l.any (fun x => overB x n) = true := List.any_eq_true.2 ⟨_, hmem, hov⟩
        rw [ha]
        repeat (first | intro id | refine goq ?_)
        exact ⟨rfl, by exact slotq, by exact slotq, B, rfl⟩
      | false =>
        refine wo_cond_f (by exact slotq) (wo_skip (seqO.n ?_))
        refine step _ hov ?_ ?_ ?_ ?_ ?_ ?_
        · exact slotq
        · exact slotq
        · exact slotq
        · exact slotq
        · exact slotq
        · exact keepq
    · have hov : overB (gU l k) n = false := by
        have := h64 (by omega)
        rw [List.any_eq_false] at this
        simpa using this _ hmem
      repeat (first | intro id | refine goq ?_)
      have hb2 := hb.pushed (id := id) (nw := [au (gU l k)]) rfl rfl
      have e : (l.take k).map au ++ [au (gU l k)] = (l.take (k + 1)).map au := by rw [htk]; simp
      rw [e] at hb2
      refine WpO.weak (WpO.mono (ih (k + 1) _ _ _ (by omega) ?_ ?_ ?_ ?_ ?_ hb2 (by rw [htk, List.any_append, hno]; simp [hov])) ?_) ?_
      · exact slotq
      · exact slotq
      · exact slotq
      · exact slotq
      · exact slotq
      · intro ex t' L' h
        unfold RcpQ at h ⊢
        split at h
        · obtain ⟨e1, e2, e3⟩ := h
          exact ⟨e1, Keep.trans (by exact keepq) e2, e3⟩
        · exact h
      · rw [← e]
        exact subq
end Go.Proofs.YtmflheoafeenfaaGreat
