/- The document's way to reckon steps, whole. -/
import Derived.Test.YtfaphhcloanhnaaRtC5
set_option linter.unusedSimpArgs false
set_option linter.unusedVariables false
namespace Go.Proofs.Ytfaphhcloanhnaa
open Go.Am Go.Dist
set_option maxRecDepth 4000
set_option maxHeartbeats 4000000
variable {E : Env} {L : Hp}
theorem far_l0 {N i1 ir : Nat} {va : AVal} (hN : N ≤ 64) (hi1 : In i1 [aint N, va] L) :
    ∀ (d k : Nat) (t : Tr AVal), d + k = N → t.get 1 = some (.ptr i1 0) → t.get 5 = some (.sl ir 0 N 1 (some N)) → t.get 6 = some (aint k) →
    WpO E (.loop c_phasorref20_far_l0) t ((ir, (fillI (-1) k N).map aint) :: L) (fun ex t' L' => ex = .exit 2 ∧ Keep [1, 2, 3, 4, 5] t t' ∧ L' = (ir, (List.replicate N (-1)).map aint) :: L) := by
  intro d
  induction d with
  | zero =>
    intro k t hk h1 h5 h6
    obtain rfl : k = N := by omega
    refine wo_loop ?_
    repeat (first | intro id | refine goq ?_)
    exact ⟨rfl, by exact keepq, by rw [fillI_all]⟩
  | succ d ih =>
    intro k t hk h1 h5 h6
    have hl : (fillI (-1) k N).length = N := fillI_length (by omega)
    refine wo_loop ?_
    repeat (first | intro id | refine goq ?_)
    rw [fillI_set (by omega)]
    refine WpO.mono (ih (k + 1) _ ?_ ?_ ?_ ?_) ?_
    · omega
    · exact slotq
    · exact slotq
    · exact slotq
    · rintro ex t' L' ⟨e1, e2, e3⟩
      exact ⟨e1, Keep.trans (by exact keepq) e2, e3⟩

theorem relA_len (s : Int) : ∀ (ps : List (Nat × Nat)) (r : List Int), (relA s ps r).length = r.length
  | [], r => rfl
  | p :: ps, r => by
    show (relA s ps (relP s r p)).length = _
    rw [relA_len s ps]
    show (rel1 s (rel1 s r p.1 p.2) p.2 p.1).length = _
    rw [(rel1_ext _ _ _).len, (rel1_ext _ _ _).len]

theorem far_l2 {N i1 ir : Nat} {va : AVal} {ps : List (Nat × Nat)} (hN : N ≤ 64) (hst : still E c_phasorref20_far_r14 = true) (hps : ∀ k, k < ps.length → (ps.getD k (0, 0)).1 < N ∧ (ps.getD k (0, 0)).2 < N) (hva : SlN va ps) (hlt : ps.length < 2 ^ 62) (hi1 : In i1 [aint N, va] L) :
    ∀ (d s : Nat) (t : Tr AVal) (r : List Int), d + s = N → t.get 1 = some (.ptr i1 0) → t.get 5 = some (.sl ir 0 N 1 (some N)) → t.get 7 = some (aint s) → r.length = N →
    WpO E (.loop c_phasorref20_far_l2) t ((ir, r.map aint) :: L) (fun ex t' L' => ex = .exit 4 ∧ Keep [1, 2, 3, 4, 5] t t' ∧ L' = (ir, (relN ps d s r).map aint) :: L) := by
  intro d
  induction d with
  | zero =>
    intro s t r hk h1 h5 h7 hr
    refine wo_loop ?_
    repeat (first | intro id | refine goq ?_)
    exact ⟨rfl, by exact keepq, rfl⟩
  | succ d ih =>
    intro s t r hk h1 h5 h7 hr
    refine wo_loop ?_
    repeat (first | intro id | refine goq ?_)
    refine WpO.mono (far_l1 (s := s) (v1 := []) (by omega) (by omega) hst hps hva hlt hi1 ps.length 0 _ r (by omega) ?_ ?_ ?_ ?_ hr) ?_
    · exact slotq
    · exact slotq
    · exact slotq
    · exact slotq
    rintro ex t1 L' ⟨rfl, hK, rfl⟩
    have k1 : t1.get 1 = some (.ptr i1 0) := (hK.ex 1 rfl).trans (by exact slotq)
    have k5 : t1.get 5 = some (.sl ir 0 N 1 (some N)) := (hK.ex 5 rfl).trans (by exact slotq)
    have k7 : t1.get 7 = some (aint s) := (hK.ex 7 rfl).trans (by exact slotq)
    have hK' : Keep [1, 2, 3, 4, 5] t t1 := Keep.trans (by exact keepq) (hK.less rfl)
    repeat (first | intro id | refine goq ?_)
    refine WpO.mono (ih (s + 1) _ _ ?_ ?_ ?_ ?_ ?_) ?_
    · omega
    · exact slotq
    · exact slotq
    · exact slotq
    · rw [relA_len]; exact hr
    · rintro ex t' L' ⟨e1, e2, e3⟩
      exact ⟨e1, Keep.trans (by exact keepq) e2, e3⟩

/-- The first k rows. -/
def dists (N : Nat) (ps : List (Nat × Nat)) (k : Nat) : List (List Int) := (List.range k).map (dist N ps)
theorem dists_succ (N : Nat) (ps : List (Nat × Nat)) (k : Nat) : dists N ps (k + 1) = dists N ps k ++ [dist N ps k] := by unfold dists; rw [List.range_succ, List.map_append]; rfl
theorem relN_len (ps : List (Nat × Nat)) : ∀ (k : Nat) (s : Int) (r : List Int), (relN ps k s r).length = r.length
  | 0, s, r => rfl
  | k + 1, s, r => by rw [relN, relN_len ps k, relA_len]
theorem dist_len (N : Nat) (ps : List (Nat × Nat)) (i : Nat) : (dist N ps i).length = N := by unfold dist; rw [relN_len]; show ((List.replicate N (-1)).set i 0).length = N; rw [List.length_set, List.length_replicate]
theorem dists_length (N : Nat) (ps : List (Nat × Nat)) (k : Nat) : (dists N ps k).length = k := by simp [dists]

theorem far_l3 {N i1 : Nat} {va : AVal} {ps : List (Nat × Nat)} (hN : N ≤ 64) (hst : still E c_phasorref20_far_r14 = true) (hps : ∀ k, k < ps.length → (ps.getD k (0, 0)).1 < N ∧ (ps.getD k (0, 0)).2 < N) (hva : SlN va ps) (hlt : ps.length < 2 ^ 62) :
    ∀ (d k : Nat) (t : Tr AVal) (a : AVal) (cs : List AVal) (B H : Hp), d + k = N → t.get 1 = some (.ptr i1 0) → t.get 3 = some a → t.get 4 = some (aint k) → BufO 1 a cs k B → RowsO cs (dists N ps k) H →
    WpO E (.loop c_phasorref20_far_l3) t (B ++ (H ++ ((i1, [aint N, va]) :: L))) (fun ex t' L' => ex = .exit 0 ∧ ∃ a' cs' B' H', t'.get 3 = some a' ∧ BufO 1 a' cs' N B' ∧ RowsO cs' (dists N ps N) H' ∧ L' = B' ++ (H' ++ ((i1, [aint N, va]) :: L))) := by
  intro d
  induction d with
  | zero =>
    intro k t a cs B H hk h1 h3 h4 hb hr
    obtain rfl : k = N := by omega
    refine wo_loop ?_
    repeat (first | intro id | refine goq ?_)
    exact ⟨rfl, a, cs, B, H, by exact slotq, hb, hr, rfl⟩
  | succ d ih =>
    intro k t a cs B H hk h1 h3 h4 hb hr
    refine wo_loop ?_
    repeat (first | intro id | refine goq ?_)
    rw [zeros_ints, ← fillI_zero (-1)]
    have hi1 : In i1 [aint N, va] (B ++ (H ++ ((i1, [aint N, va]) :: L))) := by exact inq
    refine WpO.mono (far_l0 hN hi1 N 0 _ (by omega) ?_ ?_ ?_) ?_
    · exact slotq
    · exact slotq
    · exact slotq
    rintro ex t1 L' ⟨rfl, hK, rfl⟩
    have k1 : t1.get 1 = some (.ptr i1 0) := (hK.ex 1 rfl).trans (by exact slotq)
    have k3 : t1.get 3 = some a := (hK.ex 3 rfl).trans (by exact slotq)
    have k4 : t1.get 4 = some (aint k) := (hK.ex 4 rfl).trans (by exact slotq)
    have k5 : t1.get 5 = some (.sl id 0 N 1 (some N)) := (hK.ex 5 rfl).trans (by exact slotq)
    clear hK h1 h3 h4
    repeat (first | intro id | refine goq ?_)
    refine WpO.mono (far_l2 hN hst hps hva hlt hi1 N 0 _ _ (by omega) ?_ ?_ ?_ ?_) ?_
    · exact slotq
    · exact slotq
    · exact slotq
    · simp
    rintro ex t2 L' ⟨rfl, hK, rfl⟩
    have q1 : t2.get 1 = some (.ptr i1 0) := (hK.ex 1 rfl).trans (by exact slotq)
    have q3 : t2.get 3 = some a := (hK.ex 3 rfl).trans (by exact slotq)
    have q4 : t2.get 4 = some (aint k) := (hK.ex 4 rfl).trans (by exact slotq)
    have q5 : t2.get 5 = some (.sl id 0 N 1 (some N)) := (hK.ex 5 rfl).trans (by exact slotq)
    clear hK k1 k3 k4 k5
    have hone := hr.one.1
    repeat (first | intro id | refine goq ?_)
    rename_i ir jj
    rw [show relN ps N ((0 : Nat) : Int) ((List.replicate N (-1)).set k 0) = dist N ps k from rfl]
    have hb' := hb.pushed (id := id) (nw := [.sl ir 0 N 1 (some N)]) rfl rfl
    have hr' := hr.snoc (id := ir) (cap := some N) (dist_len N ps k)
    rw [← dists_succ] at hr'
    refine WpO.weak (ih (k + 1) _ _ _ _ _ ?_ ?_ ?_ ?_ hb' hr') ?_
    · omega
    · exact slotq
    · exact slotq
    · exact slotq
    · rw [List.append_assoc]
      exact subq
theorem bare_SlN {v : AVal} {ps : List (Nat × Nat)} (h : SlN v ps) : v.bare = true := bare_Row h (bare_pcells _)
theorem far_ok (hF : E.fns = fnsT) (hm : E.mode f_phasorref20_far = .iso true) {N : Nat} {va : AVal} {ps : List (Nat × Nat)} (hN : N ≤ 64) (hps : ∀ k, k < ps.length → (ps.getD k (0, 0)).1 < N ∧ (ps.getD k (0, 0)).2 < N) (hva : SlN va ps) (hlt : ps.length < 2 ^ 62) :
    CallO E f_phasorref20_far [.agg [aint N, va]] L fun v L' => SlS v (dists N ps N) ∧ L' = L := by
  refine callO_iso1 hm (fns_of hF n_phasorref20_far) ?_ ?_
  · simp only [List.all_cons, List.all_nil, AVal.bare, bareAll, bare_SlN hva]; rfl
  refine bodyO_of (Nat.le_of_ble_eq_true rfl) ?_; generalize ht : argSlots _ 0 .nil = t; have h0 : t.get 0 = some _ := (by rw [← ht]; rfl); clear ht
  repeat (first | intro id | refine goq ?_)
  refine WpO.mono (far_l3 hN rfl hps hva hlt N 0 _ anil [] [] [] (by omega) ?_ ?_ ?_ .nil .nil) ?_
  · exact slotq
  · exact slotq
  · exact slotq
  rintro ex t1 L' ⟨rfl, a, cs, B, H, h3, hb, hr, rfl⟩
  repeat (first | intro id | refine goq ?_)
  ((first | apply retO_r | apply retO_n); (focus (exact resq)))
  obtain ⟨us, e1, e2, e3⟩ := hr.view (L := B ++ (H ++ [(id, [aint N, va])])) (k := 61) fun _ _ h => by exact In.app h.appl
  rw [dists_length] at e2
  cases hb with
  | nil => exact ⟨anil, ⟨fun m hm => rfl⟩, [], .inl ⟨rfl, dists_length _ _ _, rfl⟩, by simp [dists], fun j u l h => by simp at h⟩
  | box hl h1 => exact ⟨.rs us N none, vo_sl (In.appl .here) (seg_full (by omega)) e1, us, .inr ⟨none, by rw [dists_length]⟩, by rw [dists_length]; exact e2, e3⟩
end Go.Proofs.Ytfaphhcloanhnaa
