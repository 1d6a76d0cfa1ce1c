/- Parts of the proof, joined by program: RtC5, RtC6, RtC7, RtC8, RtDed. -/
import Derived.Test.YtfaphhcloanhnaaPa9
import Derived.Test.YtfaphhcloanhnaaPa10
set_option linter.unusedSimpArgs false
set_option linter.unusedVariables false
namespace Go.Proofs.Ytfaphhcloanhnaa
open Go.Am Go.Dist
set_option maxRecDepth 4000
set_option maxHeartbeats 4000000
variable {E : Env} {L : Hp}
theorem far_l1 {N i1 ir : Nat} {s : Int} {v1 : List AVal} {va : AVal} {ps : List (Nat × Nat)} (hs : 0 ≤ s) (hs2 : s < 100) (hst : still E c_phasorref20_far_r14 = true) (hps : ∀ k, k < ps.length → (ps.getD k (0, 0)).1 < N ∧ (ps.getD k (0, 0)).2 < N) (hva : SlN va ps) (hlt : ps.length < 2 ^ 62) (hi1 : In i1 [aint N, va] L) :
    ∀ (d k : Nat) (t : Tr AVal) (r : List Int), d + k = ps.length → t.get 1 = some (.ptr i1 0) → t.get 5 = some (.sl ir 0 N 1 (some N)) → t.get 7 = some (aint s) → t.get 8 = some (aint k) → r.length = N →
    WpO E (.loop c_phasorref20_far_l1) t ((ir, r.map aint) :: L) (fun ex t' L' => ex = .exit 6 ∧ Keep [1, 2, 3, 4, 5, 7] t t' ∧ L' = (ir, (relA s (ps.drop k) r).map aint) :: L) := by
  intro d
  induction d with
  | zero =>
    intro k t r hk h1 h5 h7 h8 hr
    refine wo_loop ?_
    repeat (first | intro id | refine goq ?_)
    refine ⟨rfl, by exact keepq, ?_⟩
    rw [List.drop_of_length_le (by omega)]
    rfl
  | succ d ih =>
    intro k t0 r hk h1 h5 h7 h8 hr
    obtain ⟨ha, hb⟩ := hps k (by omega)
    have key : ∀ (t1 : Tr AVal) (r1 : List Int), Keep [1, 2, 3, 4, 5, 7] t0 t1 → t1.get 8 = some (aint ((k + 1 : Nat) : Int)) → r1.length = N → r1 = relP s r (ps.getD k (0, 0)) →
        WpO E (.loop c_phasorref20_far_l1) t1 ((ir, r1.map aint) :: L) (fun ex t' L' => ex = .exit 6 ∧ Keep [1, 2, 3, 4, 5, 7] t0 t' ∧ L' = (ir, (relA s (ps.drop k) r).map aint) :: L) := by
      intro t1 r1 hK h8' hl hr1
      refine WpO.mono (ih (k + 1) t1 r1 (by omega) ((hK.ex 1 rfl).trans h1) ((hK.ex 5 rfl).trans h5) ((hK.ex 7 rfl).trans h7) h8' hl) ?_
      rintro ex t' L' ⟨e1, e2, e3⟩
      refine ⟨e1, hK.trans e2, ?_⟩
      have e : ps.drop k = ps.getD k (0, 0) :: ps.drop (k + 1) := by
        rw [List.drop_eq_getElem_cons (by omega : k < ps.length)]
        simp [show k < ps.length by omega]
      rw [e3, hr1, e]
      rfl
    refine wo_loop ?_
    repeat (first | intro id | refine goq ?_)
    ((first | apply genO7 (t0 := t0) (js := [1, 2, 3, 4, 5, 7]) 1 5 7 8 9 10 63 | apply genW7 (t0 := t0) (js := [1, 2, 3, 4, 5, 7]) 1 5 7 8 9 10 63); (focus exact keepq); (focus exact slotq); (focus exact slotq); (focus exact slotq); (focus exact slotq); (focus exact slotq); (focus exact slotq); (focus exact slotq); intro t gK g1 g5 g7 g8 g9 g10 g63)
    (refine oo_guard g63 (fun hc => ?_) (fun hc => ?_) <;> (rw [hc] at g63) <;> (try simp only [decide_eq_true_eq, decide_eq_false_iff_not, ne_eq, Decidable.not_not] at hc))
    · have c1 := hc
      repeat (first | intro id | refine goq ?_)
      refine wo_cond_if (by exact slotq) (fun hc => ?_) (fun hc => ?_) <;> (try simp only [decide_eq_true_eq, decide_eq_false_iff_not, ne_eq, Decidable.not_not] at hc)
      · have e1 : (r.set (ps.getD k (0, 0)).2 (s + 1)).getD (ps.getD k (0, 0)).2 0 = s + 1 := by rw [getD_set, if_pos ⟨rfl, by omega⟩]
        have hl2 : (r.set (ps.getD k (0, 0)).2 (s + 1)).length = N := by rw [List.length_set, hr]
        have er : r.set (ps.getD k (0, 0)).2 (s + 1) = relP s r (ps.getD k (0, 0)) := by
          unfold relP
          rw [show rel1 s r (ps.getD k (0, 0)).1 (ps.getD k (0, 0)).2 = r.set (ps.getD k (0, 0)).2 (s + 1) by unfold rel1; rw [if_pos ⟨by omega, by omega⟩]]
          unfold rel1
          rw [if_neg (by omega)]
        repeat (first | intro id | refine goq ?_)
        exact key _ _ (by exact keepq) (by exact slotq) hl2 er
      · have er : r = relP s r (ps.getD k (0, 0)) := by
          unfold relP
          rw [show rel1 s r (ps.getD k (0, 0)).1 (ps.getD k (0, 0)).2 = r by unfold rel1; rw [if_neg (by omega)]]
          unfold rel1
          rw [if_neg (by omega)]
        repeat (first | intro id | refine goq ?_)
        (refine oo_guard (by exact slotq) (fun hc => ?_) (fun hc => ?_) <;> (try simp only [hc]) <;> (try simp only [decide_eq_true_eq, decide_eq_false_iff_not, ne_eq, Decidable.not_not] at hc))
        · repeat (first | intro id | refine goq ?_)
          exact key _ _ (by exact keepq) (by exact slotq) hr er
        · repeat (first | intro id | refine goq ?_)
          exact key _ _ (by exact keepq) (by exact slotq) hr er
    · have er1 : rel1 s r (ps.getD k (0, 0)).1 (ps.getD k (0, 0)).2 = r := by unfold rel1; rw [if_neg (by omega)]
      repeat (first | intro id | refine goq ?_)
      (refine oo_guard (by exact slotq) (fun hc => ?_) (fun hc => ?_) <;> (try simp only [hc]) <;> (try simp only [decide_eq_true_eq, decide_eq_false_iff_not, ne_eq, Decidable.not_not] at hc))
      · have c3 := hc
        repeat (first | intro id | refine goq ?_)
        refine wo_cond_if (by exact slotq) (fun hc => ?_) (fun hc => ?_) <;> (try simp only [decide_eq_true_eq, decide_eq_false_iff_not, ne_eq, Decidable.not_not] at hc)
        · have hl2 : (r.set (ps.getD k (0, 0)).1 (s + 1)).length = N := by rw [List.length_set, hr]
          have er : r.set (ps.getD k (0, 0)).1 (s + 1) = relP s r (ps.getD k (0, 0)) := by
            unfold relP
            rw [er1]
            unfold rel1
            rw [if_pos ⟨by omega, by omega⟩]
          repeat (first | intro id | refine goq ?_)
          exact key _ _ (by exact keepq) (by exact slotq) hl2 er
        · have er : r = relP s r (ps.getD k (0, 0)) := by
            unfold relP
            rw [er1]
            unfold rel1
            rw [if_neg (by omega)]
          repeat (first | intro id | refine goq ?_)
          exact key _ _ (by exact keepq) (by exact slotq) hr er
      · have er : r = relP s r (ps.getD k (0, 0)) := by
          unfold relP
          rw [er1]
          unfold rel1
          rw [if_neg (by omega)]
        repeat (first | intro id | refine goq ?_)
        exact key _ _ (by exact keepq) (by exact slotq) hr er
end Go.Proofs.Ytfaphhcloanhnaa
namespace Go.Proofs.Ytfaphhcloanhnaa
open Go.Am Go.Dist
set_option maxRecDepth 4000
set_option maxHeartbeats 4000000
variable {E : Env} {L : Hp}
theorem far_l0 {N i1 ir : Nat} {va : AVal} (hN : N ≤ 64) (hi1 : In i1 [aint N, va] L) :
    ∀ (d k : Nat) (t : Tr AVal), d + k = N → t.get 1 = some (.ptr i1 0) → t.get 5 = some (.sl ir 0 N 1 (some N)) → t.get 6 = some (aint k) →
    WpO E (.loop c_phasorref20_far_l0) t ((ir, (fillI (-1) k N).map aint) :: L) (fun ex t' L' => ex = .exit 2 ∧ Keep [1, 2, 3, 4, 5] t t' ∧ L' = (ir, (List.replicate N (-1)).map aint) :: L) := by
  intro d
  induction d with
  | zero =>
    intro k t hk h1 h5 h6
    obtain rfl : k = N := by omega
    refine wo_loop ?_
    repeat (first | intro id | refine goq ?_)
    exact ⟨rfl, by exact keepq, by rw [fillI_all]⟩
  | succ d ih =>
    intro k t hk h1 h5 h6
    have hl : (fillI (-1) k N).length = N := fillI_length (by omega)
    refine wo_loop ?_
    repeat (first | intro id | refine goq ?_)
    rw [fillI_set (by omega)]
    refine WpO.mono (ih (k + 1) _ ?_ ?_ ?_ ?_) ?_
    · omega
    · exact slotq
    · exact slotq
    · exact slotq
    · rintro ex t' L' ⟨e1, e2, e3⟩
      exact ⟨e1, Keep.trans (by exact keepq) e2, e3⟩

theorem relA_len (s : Int) : ∀ (ps : List (Nat × Nat)) (r : List Int), (relA s ps r).length = r.length
  | [], r => rfl
  | p :: ps, r => by
    show (relA s ps (relP s r p)).length = _
    rw [relA_len s ps]
    show (rel1 s (rel1 s r p.1 p.2) p.2 p.1).length = _
    rw [(rel1_ext _ _ _).len, (rel1_ext _ _ _).len]

theorem far_l2 {N i1 ir : Nat} {va : AVal} {ps : List (Nat × Nat)} (hN : N ≤ 64) (hst : still E c_phasorref20_far_r14 = true) (hps : ∀ k, k < ps.length → (ps.getD k (0, 0)).1 < N ∧ (ps.getD k (0, 0)).2 < N) (hva : SlN va ps) (hlt : ps.length < 2 ^ 62) (hi1 : In i1 [aint N, va] L) :
    ∀ (d s : Nat) (t : Tr AVal) (r : List Int), d + s = N → t.get 1 = some (.ptr i1 0) → t.get 5 = some (.sl ir 0 N 1 (some N)) → t.get 7 = some (aint s) → r.length = N →
    WpO E (.loop c_phasorref20_far_l2) t ((ir, r.map aint) :: L) (fun ex t' L' => ex = .exit 4 ∧ Keep [1, 2, 3, 4, 5] t t' ∧ L' = (ir, (relN ps d s r).map aint) :: L) := by
  intro d
  induction d with
  | zero =>
    intro s t r hk h1 h5 h7 hr
    refine wo_loop ?_
    repeat (first | intro id | refine goq ?_)
    exact ⟨rfl, by exact keepq, rfl⟩
  | succ d ih =>
    intro s t r hk h1 h5 h7 hr
    refine wo_loop ?_
    repeat (first | intro id | refine goq ?_)
    refine WpO.mono (far_l1 (s := s) (v1 := []) (by omega) (by omega) hst hps hva hlt hi1 ps.length 0 _ r (by omega) ?_ ?_ ?_ ?_ hr) ?_
    · exact slotq
    · exact slotq
    · exact slotq
    · exact slotq
    rintro ex t1 L' ⟨rfl, hK, rfl⟩
    have k1 : t1.get 1 = some (.ptr i1 0) := (hK.ex 1 rfl).trans (by exact slotq)
    have k5 : t1.get 5 = some (.sl ir 0 N 1 (some N)) := (hK.ex 5 rfl).trans (by exact slotq)
    have k7 : t1.get 7 = some (aint s) := (hK.ex 7 rfl).trans (by exact slotq)
    have hK' : Keep [1, 2, 3, 4, 5] t t1 := Keep.trans (by exact keepq) (hK.less rfl)
    repeat (first | intro id | refine goq ?_)
    refine WpO.mono (ih (s + 1) _ _ ?_ ?_ ?_ ?_ ?_) ?_
    · omega
    · exact slotq
    · exact slotq
    · exact slotq
    · rw [relA_len]; exact hr
    · rintro ex t' L' ⟨e1, e2, e3⟩
      exact ⟨e1, Keep.trans (by exact keepq) e2, e3⟩

/-- The first k rows. -/
def dists (N : Nat) (ps : List (Nat × Nat)) (k : Nat) : List (List Int) := (List.range k).map (dist N ps)
theorem dists_succ (N : Nat) (ps : List (Nat × Nat)) (k : Nat) : dists N ps (k + 1) = dists N ps k ++ [dist N ps k] := by unfold dists; rw [List.range_succ, List.map_append]; rfl
theorem relN_len (ps : List (Nat × Nat)) : ∀ (k : Nat) (s : Int) (r : List Int), (relN ps k s r).length = r.length
  | 0, s, r => rfl
  | k + 1, s, r => by rw [relN, relN_len ps k, relA_len]
theorem dist_len (N : Nat) (ps : List (Nat × Nat)) (i : Nat) : (dist N ps i).length = N := by unfold dist; rw [relN_len]; show ((List.replicate N (-1)).set i 0).length = N; rw [List.length_set, List.length_replicate]
theorem dists_length (N : Nat) (ps : List (Nat × Nat)) (k : Nat) : (dists N ps k).length = k := by simp [dists]

theorem far_l3 {N i1 : Nat} {va : AVal} {ps : List (Nat × Nat)} (hN : N ≤ 64) (hst : still E c_phasorref20_far_r14 = true) (hps : ∀ k, k < ps.length → (ps.getD k (0, 0)).1 < N ∧ (ps.getD k (0, 0)).2 < N) (hva : SlN va ps) (hlt : ps.length < 2 ^ 62) :
    ∀ (d k : Nat) (t : Tr AVal) (a : AVal) (cs : List AVal) (B H : Hp), d + k = N → t.get 1 = some (.ptr i1 0) → t.get 3 = some a → t.get 4 = some (aint k) → BufO 1 a cs k B → RowsO cs (dists N ps k) H →
    WpO E (.loop c_phasorref20_far_l3) t (B ++ (H ++ ((i1, [aint N, va]) :: L))) (fun ex t' L' => ex = .exit 0 ∧ ∃ a' cs' B' H', t'.get 3 = some a' ∧ BufO 1 a' cs' N B' ∧ RowsO cs' (dists N ps N) H' ∧ L' = B' ++ (H' ++ ((i1, [aint N, va]) :: L))) := by
  intro d
  induction d with
  | zero =>
    intro k t a cs B H hk h1 h3 h4 hb hr
    obtain rfl : k = N := by omega
    refine wo_loop ?_
    repeat (first | intro id | refine goq ?_)
    exact ⟨rfl, a, cs, B, H, by exact slotq, hb, hr, rfl⟩
  | succ d ih =>
    intro k t a cs B H hk h1 h3 h4 hb hr
    refine wo_loop ?_
    repeat (first | intro id | refine goq ?_)
    rw [zeros_ints, ← fillI_zero (-1)]
    have hi1 : In i1 [aint N, va] (B ++ (H ++ ((i1, [aint N, va]) :: L))) := by exact inq
    refine WpO.mono (far_l0 hN hi1 N 0 _ (by omega) ?_ ?_ ?_) ?_
    · exact slotq
    · exact slotq
    · exact slotq
    rintro ex t1 L' ⟨rfl, hK, rfl⟩
    have k1 : t1.get 1 = some (.ptr i1 0) := (hK.ex 1 rfl).trans (by exact slotq)
    have k3 : t1.get 3 = some a := (hK.ex 3 rfl).trans (by exact slotq)
    have k4 : t1.get 4 = some (aint k) := (hK.ex 4 rfl).trans (by exact slotq)
    have k5 : t1.get 5 = some (.sl id 0 N 1 (some N)) := (hK.ex 5 rfl).trans (by exact slotq)
    clear hK h1 h3 h4
    repeat (first | intro id | refine goq ?_)
    refine WpO.mono (far_l2 hN hst hps hva hlt hi1 N 0 _ _ (by omega) ?_ ?_ ?_ ?_) ?_
    · exact slotq
    · exact slotq
    · exact slotq
    · simp
    rintro ex t2 L' ⟨rfl, hK, rfl⟩
    have q1 : t2.get 1 = some (.ptr i1 0) := (hK.ex 1 rfl).trans (by exact slotq)
    have q3 : t2.get 3 = some a := (hK.ex 3 rfl).trans (by exact slotq)
    have q4 : t2.get 4 = some (aint k) := (hK.ex 4 rfl).trans (by exact slotq)
    have q5 : t2.get 5 = some (.sl id 0 N 1 (some N)) := (hK.ex 5 rfl).trans (by exact slotq)
    clear hK k1 k3 k4 k5
    have hone := hr.one.1
    repeat (first | intro id | refine goq ?_)
    rename_i ir jj
    rw [show relN ps N ((0 : Nat) : Int) ((List.replicate N (-1)).set k 0) = dist N ps k from rfl]
    have hb' := hb.pushed (id := id) (nw := [.sl ir 0 N 1 (some N)]) rfl rfl
    have hr' := hr.snoc (id := ir) (cap := some N) (dist_len N ps k)
    rw [← dists_succ] at hr'
    refine WpO.weak (ih (k + 1) _ _ _ _ _ ?_ ?_ ?_ ?_ hb' hr') ?_
    · omega
    · exact slotq
    · exact slotq
    · exact slotq
    · rw [List.append_assoc]
      exact subq
theorem bare_SlN {v : AVal} {ps : List (Nat × Nat)} (h : SlN v ps) : v.bare = true := bare_Row h (bare_pcells _)
theorem far_ok (hF : E.fns = fnsT) (hm : E.mode f_phasorref20_far = .iso true) {N : Nat} {va : AVal} {ps : List (Nat × Nat)} (hN : N ≤ 64) (hps : ∀ k, k < ps.length → (ps.getD k (0, 0)).1 < N ∧ (ps.getD k (0, 0)).2 < N) (hva : SlN va ps) (hlt : ps.length < 2 ^ 62) :
    CallO E f_phasorref20_far [.agg [aint N, va]] L fun v L' => SlS v (dists N ps N) ∧ L' = L := by
  refine callO_iso1 hm (fns_of hF n_phasorref20_far) ?_ ?_
  · simp only [List.all_cons, List.all_nil, AVal.bare, bareAll, bare_SlN hva]; rfl
  refine bodyO_of (Nat.le_of_ble_eq_true rfl) ?_; generalize ht : argSlots _ 0 .nil = t; have h0 : t.get 0 = some _ := (by rw [← ht]; rfl); clear ht
  repeat (first | intro id | refine goq ?_)
  refine WpO.mono (far_l3 hN rfl hps hva hlt N 0 _ anil [] [] [] (by omega) ?_ ?_ ?_ .nil .nil) ?_
  · exact slotq
  · exact slotq
  · exact slotq
  rintro ex t1 L' ⟨rfl, a, cs, B, H, h3, hb, hr, rfl⟩
  repeat (first | intro id | refine goq ?_)
  ((first | apply retO_r | apply retO_n); (focus (exact resq)))
  obtain ⟨us, e1, e2, e3⟩ := hr.view (L := B ++ (H ++ [(id, [aint N, va])])) (k := 61) fun _ _ h => by exact In.app h.appl
  rw [dists_length] at e2
  cases hb with
  | nil => exact ⟨anil, ⟨fun m hm => rfl⟩, [], .inl ⟨rfl, dists_length _ _ _, rfl⟩, by simp [dists], fun j u l h => by simp at h⟩
  | box hl h1 => exact ⟨.rs us N none, vo_sl (In.appl .here) (seg_full (by omega)) e1, us, .inr ⟨none, by rw [dists_length]⟩, by rw [dists_length]; exact e2, e3⟩
end Go.Proofs.Ytfaphhcloanhnaa
namespace Go.Proofs.Ytfaphhcloanhnaa
open Go.Am Go.Dist
set_option maxRecDepth 4000
set_option maxHeartbeats 4000000
variable {E : Env} {L : Hp}
def okP (N : Int) (p : Int × Int) : Prop := 0 ≤ p.1 ∧ p.1 < N ∧ 0 ≤ p.2 ∧ p.2 < N ∧ p.1 ≠ p.2
def npairs (ps : List (Int × Int)) : List (Nat × Nat) := ps.map fun p => (p.1.toNat, p.2.toNat)
def okAll (N : Int) (ps : List (Int × Int)) : Prop := ∀ j, j < ps.length → okP N (ps.getD j (0, 0))
structure RightP (N : Int) (ps : List (Int × Int)) : Prop where
  n1 : 1 ≤ N
  n2 : N ≤ 64
  ok : okAll N ps
  all : ∀ v, v < N.toNat → 0 ≤ (dist N.toNat (npairs ps) 0).getD v 0
theorem npairs_length (ps : List (Int × Int)) : (npairs ps).length = ps.length := by simp [npairs]
theorem npairs_getD {ps : List (Int × Int)} {k : Nat} (h : k < ps.length) : (npairs ps).getD k (0, 0) = ((ps.getD k (0, 0)).1.toNat, (ps.getD k (0, 0)).2.toNat) := by simp [npairs, h]
theorem ipairs_npairs {N : Int} {ps : List (Int × Int)} (h : okAll N ps) : ipairs (npairs ps) = ps := by
  refine List.ext_getElem (by rw [ipairs_length, npairs_length]) fun k h1 h2 => ?_
  have := h k h2
  simp only [List.getD_eq_getElem?_getD, List.getElem?_eq_getElem h2, Option.getD_some] at this
  simp only [ipairs, npairs, List.getElem_map]
  unfold okP at this
  rw [Int.toNat_of_nonneg this.1, Int.toNat_of_nonneg this.2.2.1]
theorem npairs_lt {N : Nat} {ps : List (Int × Int)} (h : okAll N ps) : ∀ k, k < (npairs ps).length → ((npairs ps).getD k (0, 0)).1 < N ∧ ((npairs ps).getD k (0, 0)).2 < N := by
  intro k hk
  rw [npairs_length] at hk
  rw [npairs_getD hk]
  have := h k hk
  unfold okP at this
  simp only
  omega
theorem SlP_N {N : Int} {v : AVal} {ps : List (Int × Int)} (h : okAll N ps) (hv : SlP v ps) : SlN v (npairs ps) := by
  unfold SlN
  rw [ipairs_npairs h, npairs_length]
  exact hv

theorem right_l0 {N : Int} {i1 : Nat} {va : AVal} {ps : List (Int × Int)} (hst : still E c_phasorref20_Right_r5 = true) (hva : SlP va ps) (hlt : ps.length < 2 ^ 62) (hi1 : In i1 [aint N, va] L) :
    ∀ (d k : Nat) (t : Tr AVal), d + k = ps.length → t.get 1 = some (.ptr i1 0) → t.get 3 = some (aint k) →
    WpO E (.loop c_phasorref20_Right_l0) t L (fun ex t' L' => Keep [1] t t' ∧ L' = L ∧ ((ex = .exit 0 ∧ ∀ j, k ≤ j → j < ps.length → okP N (ps.getD j (0, 0))) ∨ (ex = .ret ∧ t'.get 2 = some (abool false) ∧ ¬ okAll N ps))) := by
  intro d
  induction d with
  | zero =>
    intro k t hk h1 h3
    refine wo_loop ?_
    repeat (first | intro id | refine goq ?_)
    exact ⟨by exact keepq, rfl, .inl ⟨rfl, fun j h1 h2 => by omega⟩⟩
  | succ d ih =>
    intro k t0 hk h1 h3
    have bad : ¬ okP N (ps.getD k (0, 0)) → ¬ okAll N ps := fun h h' => h (h' k (by omega))
    refine wo_loop ?_
    repeat (first | intro id | refine goq ?_)
    ((first | apply genO5 (t0 := t0) (js := [1]) 1 3 4 5 37 | apply genW5 (t0 := t0) (js := [1]) 1 3 4 5 37); (focus exact keepq); (focus exact slotq); (focus exact slotq); (focus exact slotq); (focus exact slotq); (focus exact slotq); intro t gK g1 g3 g4 g5 g37)
    (refine oo_guard g37 (fun hc => ?_) (fun hc => ?_) <;> (rw [hc] at g37) <;> (try simp only [decide_eq_true_eq, decide_eq_false_iff_not, ne_eq, Decidable.not_not] at hc))
    · repeat (first | intro id | refine goq ?_)
      exact ⟨by exact keepq, rfl, .inr ⟨rfl, by exact slotq, bad fun h => by unfold okP at h; omega⟩⟩
    · repeat (first | intro id | refine goq ?_)
      (refine oo_guard (by exact slotq) (fun hc => ?_) (fun hc => ?_) <;> (try simp only [hc]) <;> (try simp only [decide_eq_true_eq, decide_eq_false_iff_not, ne_eq, Decidable.not_not] at hc))
      · repeat (first | intro id | refine goq ?_)
        exact ⟨by exact keepq, rfl, .inr ⟨rfl, by exact slotq, bad fun h => by unfold okP at h; omega⟩⟩
      · repeat (first | intro id | refine goq ?_)
        (refine oo_guard (by exact slotq) (fun hc => ?_) (fun hc => ?_) <;> (try simp only [hc]) <;> (try simp only [decide_eq_true_eq, decide_eq_false_iff_not, ne_eq, Decidable.not_not] at hc))
        · repeat (first | intro id | refine goq ?_)
          exact ⟨by exact keepq, rfl, .inr ⟨rfl, by exact slotq, bad fun h => by unfold okP at h; omega⟩⟩
        · repeat (first | intro id | refine goq ?_)
          (refine oo_guard (by exact slotq) (fun hc => ?_) (fun hc => ?_) <;> (try simp only [hc]) <;> (try simp only [decide_eq_true_eq, decide_eq_false_iff_not, ne_eq, Decidable.not_not] at hc))
          · repeat (first | intro id | refine goq ?_)
            exact ⟨by exact keepq, rfl, .inr ⟨rfl, by exact slotq, bad fun h => by unfold okP at h; omega⟩⟩
          · repeat (first | intro id | refine goq ?_)
            refine wo_cond_if (by exact slotq) (fun hc => ?_) (fun hc => ?_) <;> (try simp only [decide_eq_true_eq, decide_eq_false_iff_not, ne_eq, Decidable.not_not] at hc)
            · repeat (first | intro id | refine goq ?_)
              exact ⟨by exact keepq, rfl, .inr ⟨rfl, by exact slotq, bad fun h => by unfold okP at h; omega⟩⟩
            · repeat (first | intro id | refine goq ?_)
              refine WpO.mono (ih (k + 1) _ ?_ ?_ ?_) ?_
              · omega
              · exact slotq
              · exact slotq
              · rintro ex t' L' ⟨e1, e2, e3⟩
                refine ⟨Keep.trans (by exact keepq) e1, e2, ?_⟩
                rcases e3 with ⟨e3, e4⟩ | e3
                · refine .inl ⟨e3, fun j hj hl => ?_⟩
                  by_cases e : j = k
                  · subst e; unfold okP; omega
                  · exact e4 j (by omega) hl
                · exact .inr e3

theorem right_l1 {N i1 : Nat} {va vd : AVal} {us : List AVal} {u : AVal} {r : List Int} {n : Nat} (hN : N ≤ 64) (hi1 : In i1 [aint N, va] L) (hd : RowA vd us n) (hn : 0 < n) (hl : 0 < us.length) (hu : us[0]? = some u) (hr : SlI u r) (hrl : r.length = N) :
    ∀ (d k : Nat) (t : Tr AVal), d + k = N → t.get 1 = some (.ptr i1 0) → t.get 6 = some vd → t.get 7 = some (aint k) →
    WpO E (.loop c_phasorref20_Right_l1) t L (fun ex t' L' => L' = L ∧ ((ex = .exit 2 ∧ ∀ j, k ≤ j → j < N → 0 ≤ r.getD j 0) ∨ (ex = .ret ∧ t'.get 2 = some (abool false) ∧ ∃ j, j < N ∧ r.getD j 0 < 0))) := by
  intro d
  induction d with
  | zero =>
    intro k t hk h1 h6 h7
    refine wo_loop ?_
    repeat (first | intro id | refine goq ?_)
    exact ⟨rfl, .inl ⟨rfl, fun j h1 h2 => by omega⟩⟩
  | succ d ih =>
    intro k t hk h1 h6 h7
    refine wo_loop ?_
    repeat (first | intro id | refine goq ?_)
    refine wo_cond_if (by exact slotq) (fun hc => ?_) (fun hc => ?_) <;> (try simp only [decide_eq_true_eq, decide_eq_false_iff_not, ne_eq, Decidable.not_not] at hc)
    · repeat (first | intro id | refine goq ?_)
      exact ⟨rfl, .inr ⟨rfl, by exact slotq, k, by omega, hc⟩⟩
    · repeat (first | intro id | refine goq ?_)
      refine WpO.mono (ih (k + 1) _ ?_ ?_ ?_ ?_) ?_
      · omega
      · exact slotq
      · exact slotq
      · exact slotq
      · rintro ex t' L' ⟨e2, e3⟩
        refine ⟨e2, ?_⟩
        rcases e3 with ⟨e3, e4⟩ | e3
        · refine .inl ⟨e3, fun j hj hl => ?_⟩
          by_cases e : j = k
          · subst e; omega
          · exact e4 j (by omega) hl
        · exact .inr e3

theorem Right_ok (hF : E.fns = fnsT) (hm : E.mode f_phasorref20_Right = .iso false) (hmf : E.mode f_phasorref20_far = .iso true) {N : Int} {va : AVal} {ps : List (Int × Int)} (hva : SlP va ps) (hlt : ps.length < 2 ^ 62) :
    CallO E f_phasorref20_Right [.agg [aint N, va]] L fun v L' => (∃ b : Bool, v = abool b ∧ (b = true ↔ RightP N ps)) ∧ L' = L := by
  refine callO_iso0 (R := fun v => ∃ b : Bool, v = abool b ∧ (b = true ↔ RightP N ps)) hm (fns_of hF n_phasorref20_Right) (vs_bare (bare_MapA ⟨va, rfl, hva⟩) vs_nil) ?_
  refine bodyO_of (Nat.le_of_ble_eq_true rfl) ?_; generalize ht : argSlots _ 0 .nil = t; have h0 : t.get 0 = some _ := (by rw [← ht]; rfl); clear ht
  by_cases b1 : N < 1
  · repeat (first | intro id | refine goq ?_)
    ((first | apply retO_r | apply retO_n); (focus (exact resq)))
    exact ⟨rfl, false, rfl, fun h => (nomatch h), fun h => by have := h.n1; omega⟩
  by_cases b2 : 64 < N
  · repeat (first | intro id | refine goq ?_)
    ((first | apply retO_r | apply retO_n); (focus (exact resq)))
    exact ⟨rfl, false, rfl, fun h => (nomatch h), fun h => by have := h.n2; omega⟩
  obtain ⟨M, rfl⟩ : ∃ k : Nat, N = k := ⟨N.toNat, by omega⟩
  repeat (first | intro id | refine goq ?_)
  refine WpO.mono (right_l0 (i1 := id) rfl hva hlt (by exact inq) ps.length 0 _ (by omega) ?_ ?_) ?_
  · exact slotq
  · exact slotq
  rintro ex t1 L' ⟨hK, rfl, ⟨rfl, hall⟩ | ⟨rfl, h2, hbad⟩⟩
  · have h1 : t1.get 1 = some (.ptr id 0) := (hK.ex 1 rfl).trans (by exact slotq)
    have hok : okAll M ps := fun j hj => hall j (by omega) hj
    repeat (first | intro id | refine goq ?_)
    refine gok ?_
    refine (far_ok hF hmf (by omega) (npairs_lt hok) (SlP_N hok hva) (by rw [npairs_length]; exact hlt)).mono ?_
    rintro vd L' ⟨hd, rfl⟩
    obtain ⟨us, hd1, hd2, hd3⟩ := hd.row
    rw [dists_length] at hd1 hd2 hd3
    obtain ⟨u, hu1, hu2⟩ := hd3 0 (by omega)
    have e0 : (dists M (npairs ps) M).getD 0 [] = dist M (npairs ps) 0 := by simp [dists, show 0 < M by omega]
    rw [e0] at hu2
    repeat (first | intro id | refine goq ?_)
    refine WpO.mono (right_l1 (N := M) (i1 := id) (by omega) (by exact inq) hd1 (by omega) (by omega) hu1 hu2 (dist_len _ _ _) M 0 _ (by omega) ?_ ?_ ?_) ?_
    · exact slotq
    · exact slotq
    · exact slotq
    rintro ex t2 L' ⟨rfl, ⟨rfl, hq⟩ | ⟨rfl, g2, j, hj, hq⟩⟩
    · repeat (first | intro id | refine goq ?_)
      ((first | apply retO_r | apply retO_n); (focus (exact resq)))
      exact ⟨rfl, true, rfl, fun _ => ⟨by omega, by omega, hok, fun v hv => hq v (by omega) (by omega)⟩, fun _ => rfl⟩
    ·
      repeat (first | intro id | refine goq ?_)
      ((first | apply retO_r | apply retO_n); (focus (exact resq)))
      refine ⟨rfl, false, rfl, fun h => (nomatch h), fun h => ?_⟩
      have := h.all j (by omega)
      rw [Int.toNat_natCast] at this
      omega
  ·
    repeat (first | intro id | refine goq ?_)
    ((first | apply retO_r | apply retO_n); (focus (exact resq)))
    exact ⟨rfl, false, rfl, fun h => (nomatch h), fun h => (hbad h.ok).elim⟩
end Go.Proofs.Ytfaphhcloanhnaa
namespace Go.Proofs.Ytfaphhcloanhnaa
open Go.Am Go.Dist
set_option maxRecDepth 4000
set_option maxHeartbeats 4000000
variable {E : Env} {L : Hp}
theorem steps_l0 {N io : Nat} (hN : N ≤ 64) : ∀ (d k : Nat) (t : Tr AVal), d + k = N → t.get 5 = some (.sl io 0 N 1 (some N)) → t.get 14 = some (aint N) → t.get 15 = some (aint k) →
    WpO E (.loop c_route_steps_l0) t ((io, (fillI (-1) k N).map aint) :: L) (fun ex t' L' => ex = .exit 0 ∧ Keep [0, 1, 5] t t' ∧ L' = (io, (List.replicate N (-1)).map aint) :: L) := by
  intro d
  induction d with
  | zero =>
    intro k t hk h5 h14 h15
    obtain rfl : k = N := by omega
    refine wo_loop ?_
    repeat (first | intro id | refine goq ?_)
    exact ⟨rfl, by exact keepq, by rw [fillI_all]⟩
  | succ d ih =>
    intro k t hk h5 h14 h15
    have hl : (fillI (-1) k N).length = N := fillI_length (by omega)
    refine wo_loop ?_
    repeat (first | intro id | refine goq ?_)
    rw [fillI_set (by omega)]
    refine WpO.mono (ih (k + 1) _ ?_ ?_ ?_ ?_) ?_
    · omega
    · exact slotq
    · exact slotq
    · exact slotq
    · rintro ex t' L' ⟨e1, e2, e3⟩
      exact ⟨e1, Keep.trans (by exact keepq) e2, e3⟩

theorem ub_push {N h p : Nat} {r : List Int} (hl : r.length = N) (hp : p < N) (hn : r.getD p 0 < 0) (hh : h < N) (h0 : 0 ≤ r.getD h 0) (hub : ∀ v, v < N → r.getD v 0 + negs r ≤ N) : ∀ v, v < N → (r.set p (r.getD h 0 + 1)).getD v 0 + negs (r.set p (r.getD h 0 + 1)) ≤ N := by
  intro v hv
  have e := negs_set (x := r.getD h 0 + 1) (by omega : p < r.length) hn (by omega)
  have h1 := hub v hv
  have h2 := hub h hh
  rw [getD_set]
  split <;> omega

theorem steps_l1 {N io src h : Nat} {adj : Nat → Nat → Prop} {row tl : List Nat} {u : AVal} (hN : N ≤ 64) (hu : SlI u (inat row)) (hadj : ∀ b, b ∈ row → b < N ∧ adj h b) (hlt : row.length < 2 ^ 62) :
    ∀ (d k : Nat) (t : Tr AVal) (r : List Int) (new : List Nat) (iw off : Nat) (cap : Option Nat) (cs : List AVal), d + k = row.length → t.get 5 = some (.sl io 0 N 1 (some N)) → t.get 7 = some (.sl iw off (tl.length + 1 + new.length) 1 cap) → t.get 37 = some u → t.get 38 = some (aint row.length) → t.get 39 = some (aint k) →
    seg cs off ((tl.length + 1 + new.length) * 1) = some ((inat (h :: tl ++ new)).map aint) → (cap = some (tl.length + 1 + new.length) ∨ cap = none) → cs.length ≤ off + (tl.length + 1 + new.length) → QMid N adj src h tl r new (fun b => b ∈ row.take k) → (tl.length + 1 + new.length) + negs r ≤ 65 → (∀ v, v < N → r.getD v 0 + negs r ≤ N) →
    WpO E (.loop c_route_steps_l1) t ((io, r.map aint) :: (iw, cs) :: L) (fun ex t' L' => ex = .exit 4 ∧ Keep [0, 5] t t' ∧ ∃ r' new' iw' off' cap' cs', t'.get 7 = some (.sl iw' off' (tl.length + 1 + new'.length) 1 cap') ∧ seg cs' off' ((tl.length + 1 + new'.length) * 1) = some ((inat (h :: tl ++ new')).map aint) ∧ (cap' = some (tl.length + 1 + new'.length) ∨ cap' = none) ∧ cs'.length ≤ off' + (tl.length + 1 + new'.length) ∧
      L' = (io, r'.map aint) :: (iw', cs') :: L ∧ QMid N adj src h tl r' new' (fun b => b ∈ row) ∧ new'.length + negs r' = new.length + negs r ∧ ∀ v, v < N → r'.getD v 0 + negs r' ≤ N) := by
  intro d
  induction d with
  | zero =>
    intro k t r new iw off cap cs hk h5 h7 h37 h38 h39 hs hcp hte hq hb hub
    refine wo_loop ?_
    repeat (first | intro id | refine goq ?_)
    refine ⟨rfl, by exact keepq, r, new, iw, off, cap, cs, by exact slotq, hs, hcp, hte, rfl, ?_, rfl, hub⟩
    rw [List.take_of_length_le (by omega)] at hq
    exact hq
  | succ d ih =>
    intro k t0 r new iw off cap cs hk h5 h7 h37 h38 h39 hs hcp hte hq hb hub
    have hkr : k < row.length := by omega
    obtain ⟨p, hp⟩ : ∃ p, p = row.getD k 0 := ⟨_, rfl⟩
    have hmem : p ∈ row := by rw [hp, List.getD_eq_getElem?_getD, List.getElem?_eq_getElem hkr]; exact List.getElem_mem hkr
    have htake : ∀ b, b ∈ row.take (k + 1) ↔ b ∈ row.take k ∨ b = p := by
      intro b
      rw [List.take_succ_eq_append_getElem hkr, List.mem_append, List.mem_singleton, hp, List.getD_eq_getElem?_getD, List.getElem?_eq_getElem hkr]
      rfl
    obtain ⟨hpN, hpa⟩ := hadj p hmem
    have hh := hq.wait h (by simp)
    have hrl := hq.len
    have hw0 : cs[off + 0]? = some (aint ((h : Nat) : Int)) := by rw [seg_get hs (by omega)]; rfl
    have hlr := inat_length row
    have hubh := hub h hh.1
    refine wo_loop ?_
    repeat (first | intro id | refine goq ?_)
    rw [← hp]
    ((first | apply genO7 (t0 := t0) (js := [0, 5]) 5 7 9 37 38 39 47 | apply genW7 (t0 := t0) (js := [0, 5]) 5 7 9 37 38 39 47); (focus exact keepq); (focus exact slotq); (focus exact slotq); (focus exact slotq); (focus exact slotq); (focus exact slotq); (focus exact slotq); (focus exact slotq); intro t gK g5 g7 g9 g37 g38 g39 g47)
    refine wo_cond_if (by exact slotq) (fun hc => ?_) (fun hc => ?_) <;> (try simp only [decide_eq_true_eq, decide_eq_false_iff_not, ne_eq, Decidable.not_not] at hc)
    · rcases hcp with rfl | rfl
      all_goals
        have hneg := negs_set (x := r.getD h 0 + 1) (by omega : p < r.length) hc (by omega)
        repeat (first | intro id | refine goq ?_)
        have hcell : (inat (h :: tl ++ new)).map aint ++ [aint p] = (inat (h :: tl ++ (new ++ [p]))).map aint := by
          rw [← List.append_assoc, inat_app _ [p], List.map_append]
          rfl
        have hlen : ((inat (h :: tl ++ (new ++ [p]))).map aint).length = tl.length + 1 + (new ++ [p]).length := by simp [inat]; omega
        rw [hcell]
        refine WpO.weak (WpO.mono (ih (k + 1) _ (r.set p (r.getD h 0 + 1)) (new ++ [p]) id 0 none ((inat (h :: tl ++ (new ++ [p]))).map aint) ?_ ?_ ?_ ?_ ?_ ?_ ?_ (.inr rfl) (by rw [hlen]; omega) ?_ ?_ ?_) ?_) ?_
        · omega
        · exact slotq
        · rw [List.length_append]; exact slotq
        · exact slotq
        · exact slotq
        · exact slotq
        · rw [Nat.mul_one]; exact seg_full hlen
        · have := hq.push hpN hpa hc
          simp only [htake]
          exact this
        · rw [List.length_append]; simp only [List.length_singleton]; omega
        · exact ub_push hrl hpN hc hh.1 hh.2 hub
        · rintro ex t' L' ⟨e1, e2, r', new', iw', off', cap', cs', e3, e4, f1, f2, e5, e6, e7, e8⟩
          refine ⟨e1, Keep.trans (by exact keepq) e2, r', new', iw', off', cap', cs', e3, e4, f1, f2, e5, e6, ?_, e8⟩
          rw [List.length_append] at e7
          simp only [List.length_singleton] at e7
          omega
        · exact subq
    · repeat (first | intro id | refine goq ?_)
      refine WpO.mono (ih (k + 1) _ r new iw off cap cs ?_ ?_ ?_ ?_ ?_ ?_ hs hcp hte ?_ hb hub) ?_
      · omega
      · exact slotq
      · exact slotq
      · exact slotq
      · exact slotq
      · exact slotq
      · have := hq.old (p := p) (by omega)
        simp only [htake]
        exact this
      · rintro ex t' L' ⟨e1, e2, e3⟩
        exact ⟨e1, Keep.trans (by exact keepq) e2, e3⟩

theorem steps_l2 {N io src : Nat} {adj : Nat → Nat → Prop} {nbs : List (List Nat)} {us : List AVal} {vn : AVal} (hN : N ≤ 64) (hvn : RowA vn us N) (hus : us.length = N) (hrow : ∀ j, j < N → ∃ u, us[j]? = some u ∧ SlI u (inat (nbs.getD j []))) (hadj : ∀ a, a < N → ∀ b, b ∈ nbs.getD a [] ↔ b < N ∧ adj a b) (hlen : ∀ a, (nbs.getD a []).length < 2 ^ 62) :
    ∀ (d : Nat) (t : Tr AVal) (r : List Int) (w : List Nat) (iw off : Nat) (cap : Option Nat) (cs : List AVal), w.length + negs r = d → d ≤ 65 → t.get 0 = some vn → t.get 5 = some (.sl io 0 N 1 (some N)) → t.get 7 = some (.sl iw off w.length 1 cap) →
    seg cs off (w.length * 1) = some ((inat w).map aint) → (cap = some w.length ∨ cap = none) → cs.length ≤ off + w.length → QInv N adj src r w → (∀ v, v < N → r.getD v 0 + negs r ≤ N) →
    WpO E (.loop c_route_steps_l2) t ((io, r.map aint) :: (iw, cs) :: L) (fun ex t' L' => ex = .exit 2 ∧ t'.get 5 = some (.sl io 0 N 1 (some N)) ∧ ∃ r' iw' cs', L' = (io, r'.map aint) :: (iw', cs') :: L ∧ IsDist N adj src r') := by
  intro d
  induction d with
  | zero =>
    intro t r w iw off cap cs hd hd2 h0 h5 h7 hs hcp hte hq hub
    have hw : w = [] := List.length_eq_zero_iff.1 (by omega)
    subst hw
    refine wo_loop ?_
    repeat (first | intro id | refine goq ?_)
    exact ⟨rfl, by exact slotq, r, iw, cs, rfl, hq.end_⟩
  | succ d ih =>
    intro t r w iw off cap cs hd hd2 h0 h5 h7 hs hcp hte hq hub
    cases w with
    | nil =>
      refine wo_loop ?_
      repeat (first | intro id | refine goq ?_)
      exact ⟨rfl, by exact slotq, r, iw, cs, rfl, hq.end_⟩
    | cons h tl =>
      simp only [List.length_cons] at h7 hs hd hcp hte
      have hh := hq.wait h (by simp)
      obtain ⟨u, hu1, hu2⟩ := hrow h hh.1
      have hw0 : cs[off + 0]? = some (aint ((h : Nat) : Int)) := by rw [seg_get hs (by omega)]; rfl
      have hlr := inat_length (nbs.getD h [])
      refine wo_loop ?_
      repeat (first | intro id | refine goq ?_)
      refine WpO.mono (steps_l1 (src := src) (h := h) (adj := adj) (row := nbs.getD h []) (tl := tl) hN hu2 (fun b hb => (hadj h hh.1 b).1 hb) (hlen h) (nbs.getD h []).length 0 _ r [] iw off cap cs (by omega) ?_ ?_ ?_ ?_ ?_ ?_ hcp hte ?_ ?_ hub) ?_
      · exact slotq
      · exact slotq
      · exact slotq
      · rw [← hlr]; exact slotq
      · exact slotq
      · rw [List.append_nil]; exact hs
      · simp only [List.take_zero, List.not_mem_nil]; exact hq.enter
      · simp only [List.length_nil]; omega
      rintro ex t1 L' ⟨rfl, hK, r', new', iw', off', cap', cs', g7, hs', hcp', hte', rfl, hq', hneg, hub'⟩
      have g0 : t1.get 0 = some vn := (hK.ex 0 rfl).trans (by exact slotq)
      have g5 : t1.get 5 = some (.sl io 0 N 1 (some N)) := (hK.ex 5 rfl).trans (by exact slotq)
      repeat (first | intro id | refine goq ?_)
      have hq2 := hq'.leave fun b hb hab => (hadj h hh.1 b).2 ⟨hb, hab⟩
      simp only [List.length_nil] at hneg
      refine ih _ r' (tl ++ new') iw' (off' + 1) (cap'.map (· - 1)) cs' ?_ ?_ ?_ ?_ ?_ ?_ ?_ ?_ hq2 hub'
      · rw [List.length_append]; omega
      · omega
      · exact slotq
      · exact slotq
      · rw [List.length_append, show tl.length + new'.length = tl.length + 1 + new'.length - 1 by omega]; exact slotq
      · rw [Nat.mul_one] at hs' ⊢
        rw [List.length_append]
        rw [show tl.length + 1 + new'.length = tl.length + new'.length + 1 by omega] at hs'
        exact seg_tail hs'
      · rw [List.length_append]
        rcases hcp' with rfl | rfl
        · left; simp only [Option.map_some, Option.some.injEq]; omega
        · right; rfl
      · rw [List.length_append]; omega

theorem steps_body {N src : Nat} {adj : Nat → Nat → Prop} {nbs : List (List Nat)} {vn : AVal} (hN : N ≤ 64) (hsrc : src < N) (hl : nbs.length = N) (hvn : SlS vn (nbs.map inat)) (hadj : ∀ a, a < N → ∀ b, b ∈ nbs.getD a [] ↔ b < N ∧ adj a b) (hlen : ∀ a, (nbs.getD a []).length < 2 ^ 62) :
    BodyO E c_route_steps [vn, aint src] L fun v L' => ∃ io r iw cs, v = .sl io 0 N 1 (some N) ∧ IsDist N adj src r ∧ L' = (io, r.map aint) :: (iw, cs) :: L := by
  obtain ⟨us, r1, r2, h3⟩ := hvn.row
  simp only [List.length_map, hl] at r1 r2 h3
  have h3' : ∀ j, j < N → ∃ u, us[j]? = some u ∧ SlI u (inat (nbs.getD j [])) := fun j hj => by
    obtain ⟨u, e1, e2⟩ := h3 j hj
    refine ⟨u, e1, ?_⟩
    have : (nbs.map inat).getD j [] = inat (nbs.getD j []) := by simp [hl, hj]
    rwa [this] at e2
  refine bodyO_of (Nat.le_of_ble_eq_true rfl) ?_; generalize ht : argSlots _ 0 .nil = t; have h0 : t.get 0 = some _ := (by rw [← ht]; rfl); have h1 : t.get 1 = some _ := (by rw [← ht]; rfl); clear ht
  repeat (first | intro id | refine goq ?_)
  rw [zeros_ints, ← fillI_zero (-1)]
  refine WpO.mono (steps_l0 hN N 0 _ (by omega) ?_ ?_ ?_) ?_
  · exact slotq
  · exact slotq
  · exact slotq
  rintro ex t1 L' ⟨rfl, hK, rfl⟩
  have k0 : t1.get 0 = some vn := (hK.ex 0 rfl).trans (by exact slotq)
  have k1 : t1.get 1 = some (aint src) := (hK.ex 1 rfl).trans (by exact slotq)
  have k5 : t1.get 5 = some (.sl id 0 N 1 (some N)) := (hK.ex 5 rfl).trans (by exact slotq)
  clear hK h0 h1
  repeat (first | intro id | refine goq ?_)
  rename_i io
  have hst : (List.replicate N (-1)).set src 0 = Dist.start N src := rfl
  rw [hst]
  have hpre := start_pre (adj := adj) hsrc
  have hneg : negs (Dist.start N src) ≤ N := by
    have := List.length_filter_le (fun x => decide (x < 0)) (Dist.start N src)
    rw [hpre.len] at this
    exact this
  refine WpO.weak (WpO.mono (steps_l2 (src := src) (adj := adj) hN r1 r2 h3' hadj hlen (1 + negs (Dist.start N src)) _ (Dist.start N src) [src] id 0 (some 1) [aint src] rfl ?_ ?_ ?_ ?_ rfl (.inl rfl) (by simp) (QInv.start hsrc) ?_) ?_) (Sub.cons Rem.one.next (Sub.cons Rem.one (Sub.refl _)))
  · omega
  · exact slotq
  · exact slotq
  · exact slotq
  · intro v hv
    have := hpre.hi v hv
    omega
  rintro ex t2 L' ⟨rfl, g5, r', iw', cs', rfl, hd⟩
  repeat (first | intro id | refine goq ?_)
  ((first | apply retO_r | apply retO_n); (focus (exact resq)))
  exact ⟨io, r', iw', cs', rfl, hd, rfl⟩

theorem steps_open (hF : E.fns = fnsT) (hm : E.mode f_route_steps = .open_) {N src : Nat} {adj : Nat → Nat → Prop} {nbs : List (List Nat)} {vn : AVal} (hN : N ≤ 64) (hsrc : src < N) (hl : nbs.length = N) (hvn : SlS vn (nbs.map inat)) (hadj : ∀ a, a < N → ∀ b, b ∈ nbs.getD a [] ↔ b < N ∧ adj a b) (hlen : ∀ a, (nbs.getD a []).length < 2 ^ 62) :
    CallO E f_route_steps [vn, aint src] L fun v L' => ∃ io r, v = .sl io 0 N 1 (some N) ∧ IsDist N adj src r ∧ L' = (io, r.map aint) :: L := by
  refine CallO.to ((callO_open hm (fns_of hF n_route_steps) (steps_body hN hsrc hl hvn hadj hlen)).mono ?_)
  rintro v L' ⟨io, r, iw, cs, rfl, hd, rfl⟩
  exact ⟨(io, r.map aint) :: L, Sub.cons Rem.one (Sub.skip (Sub.refl _)), io, r, rfl, hd, rfl⟩
/-- What a value, its boxes laid asq rows, is for a callee: whatever else lies beside. -/
def Seen (B : Hp) (v u : AVal) : Prop := ∀ M vs us, (∀ id c, In id c B → In id c M) → ViewsO M vs us → ViewsO M (v :: vs) (u :: us)
theorem Seen.bare {v : AVal} (h : v.bare = true) : Seen [] v v := fun M vs us _ hv => vs_bare h hv
/-- Steps from a place, however they are handed over. -/
def StepsC (E : Env) : Prop := ∀ (L : Hp) (N src : Nat) (adj : Nat → Nat → Prop) (nbs : List (List Nat)) (vn : AVal), N ≤ 64 → src < N → nbs.length = N → SlS vn (nbs.map inat) → (∀ a, a < N → ∀ b, b ∈ nbs.getD a [] ↔ b < N ∧ adj a b) → (∀ a, (nbs.getD a []).length < 2 ^ 62) →
  CallO E f_route_steps [vn, aint src] L fun v L' => ∃ r B u, IsDist N adj src r ∧ SlI u r ∧ L' = B ++ L ∧ Seen B v u
theorem stepsC_open (hF : E.fns = fnsT) (hm : E.mode f_route_steps = .open_) : StepsC E := fun L N src adj nbs vn h1 h2 h3 h4 h5 h6 => (steps_open hF hm h1 h2 h3 h4 h5 h6).mono fun v L' ⟨io, r, e1, hd, e⟩ => by
  subst e1
  have hl := hd.len
  exact ⟨r, [(io, r.map aint)], .rs (r.map aint) N (some N), hd, .inr ⟨some N, by rw [hl]⟩, e, fun M vs us hM hv => vs_view rfl (vo_sl (hM _ _ .here) (by rw [Nat.mul_one]; exact seg_full (by simp [hl])) (vl_sc (sc_ints r))) hv⟩
end Go.Proofs.Ytfaphhcloanhnaa
namespace Go.Ded
/-- Of neighbours that are equal one stays. -/
def dd : List Int → List Int
  | [] => []
  | [a] => [a]
  | a :: b :: r => if a = b then dd (b :: r) else a :: dd (b :: r)
theorem dd_mem (x : Int) : ∀ l, x ∈ dd l ↔ x ∈ l
  | [] => by simp [dd]
  | [a] => by simp [dd]
  | a :: b :: r => by
    have ih := dd_mem x (b :: r)
    unfold dd
    split
    · rename_i e
      subst e
      rw [ih]
      simp
    · rw [List.mem_cons, ih, List.mem_cons (l := b :: r)]
theorem dd_rise : ∀ l : List Int, l.Pairwise (· ≤ ·) → (dd l).Pairwise (· < ·)
  | [], _ => by simp [dd]
  | [a], _ => by simp [dd]
  | a :: b :: r, h => by
    have h1 := List.pairwise_cons.1 h
    have ih := dd_rise (b :: r) h1.2
    unfold dd
    split
    · exact ih
    · rename_i hne
      refine List.pairwise_cons.2 ⟨fun x hx => ?_, ih⟩
      rw [dd_mem] at hx
      have h2 := h1.1 b (by simp)
      have h3 : b ≤ x := by
        rcases List.mem_cons.1 hx with rfl | hx
        · exact Int.le_refl _
        · exact (List.pairwise_cons.1 h1.2).1 x hx
      omega
theorem dd_snoc (l : List Int) (x : Int) : dd (l ++ [x]) = if l.getLast? = some x then dd l else dd l ++ [x] := by
  induction l with
  | nil => simp [dd]
  | cons a r ih =>
    cases r with
    | nil =>
      by_cases h : a = x <;> simp [dd, h]
    | cons b r =>
      rw [List.cons_append, List.cons_append]
      unfold dd
      rw [← List.cons_append, ih]
      have e : (a :: b :: r).getLast? = (b :: r).getLast? := by simp
      rw [e]
      split <;> split <;> simp
/-- Rising lists of the same numbers are one. -/
theorem rise_eq : ∀ {a b : List Int}, a.Pairwise (· < ·) → b.Pairwise (· < ·) → (∀ x, x ∈ a ↔ x ∈ b) → a = b
  | [], [], _, _, _ => rfl
  | [], y :: b, _, _, h => by have := (h y).2 (by simp); simp at this
  | x :: a, [], _, _, h => by have := (h x).1 (by simp); simp at this
  | x :: a, y :: b, ha, hb, h => by
    have ha' := List.pairwise_cons.1 ha
    have hb' := List.pairwise_cons.1 hb
    have e : x = y := by
      rcases List.mem_cons.1 ((h x).1 (by simp)) with e | h1
      · exact e
      · rcases List.mem_cons.1 ((h y).2 (by simp)) with e | h2
        · exact e.symm
        · have := ha'.1 y h2
          have := hb'.1 x h1
          omega
    subst e
    rw [rise_eq ha'.2 hb'.2 fun z => ?_]
    constructor
    · intro hz
      rcases List.mem_cons.1 ((h z).1 (by simp [hz])) with e | h1
      · have := ha'.1 z hz; omega
      · exact h1
    · intro hz
      rcases List.mem_cons.1 ((h z).2 (by simp [hz])) with e | h1
      · have := hb'.1 z hz; omega
      · exact h1
end Go.Ded
