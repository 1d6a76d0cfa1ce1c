/- RoutePaths: the walk. -/
import Derived.Test.YtfaphhcloanhnaaRtP2
import Derived.Test.YtfaphhcloanhnaaRtL2
set_option linter.unusedSimpArgs false
set_option linter.unusedVariables false
namespace Go.Proofs.Ytfaphhcloanhnaa
open Go.Am Go.Dist Go.Proofs
set_option maxRecDepth 4000
set_option maxHeartbeats 8000000
theorem paths_l2 {N a b : Int} {s : AVal} {ps : List (Int × Int)} {L : Hp} {i3 : Nat} (hs : SlP s ps) (hlt : ps.length ≤ 1000000) :
    ∀ (d k : Nat) (t : Tr AVal), d + k = 2 → t.get 1 = some (aint a) → t.get 2 = some (aint b) → t.get 3 = some (.ptr i3 0) → t.get 7 = some (aint k) →
    WpO E2 (.loop c_phasorlaw20_RoutePaths_l2) t ((i3, [aint N, s]) :: L) (fun ex t' L' => ex = .exit 0 ∧ Keep [1, 2, 3] t t' ∧ Am.Sub ((i3, [aint N, s]) :: L) L') := by
  have hs1 := hs.isOne
  intro d
  induction d with
  | zero =>
    intro k t hk h1 h2 h3 h7
    refine wo_loop ?_
    repeat (first | intro id | refine goq ?_)
    exact ⟨rfl, by exact keepq, Sub.refl _⟩
  | succ d ih =>
    intro k t hk h1 h2 h3 h7
    refine wo_loop ?_
    repeat (first | intro id | refine goq ?_)
    refine gok ?_
    refine (Far_ok rfl rfl rfl rfl rfl rfl rfl rfl rfl rfl rfl hs hlt).mono ?_
    rintro u L' (⟨hR, rfl, rfl⟩ | ⟨hR, dv, B, rfl, hB, rfl⟩)
    · repeat (first | intro id | refine goq ?_)
      refine gok ?_
      refine (refFar_ok rfl rfl rfl rfl hs hlt).mono ?_
      rintro u L' ⟨⟨-, rfl⟩ | ⟨hR', -⟩, rfl⟩
      · repeat (first | intro id | refine goq ?_)
        refine gok ?_
        refine (num_ok rfl rfl _).mono ?_
        rintro u L' ⟨rfl, rfl⟩
        repeat (first | intro id | refine goq ?_)
        refine wo_loop ?_
        repeat (first | intro id | refine goq ?_)
        refine WpO.mono (ih (k + 1) _ (by omega) ?_ ?_ ?_ ?_) ?_
        · exact slotq
        · exact slotq
        · exact slotq
        · exact slotq
        · rintro ex t' L' ⟨e1, e2, e3⟩
          exact ⟨e1, Keep.trans (by exact keepq) e2, e3⟩
      · exact (hR hR').elim
    · obtain ⟨M, rfl⟩ : ∃ k : Nat, N = k := ⟨N.toNat, by have := hR.n1; omega⟩
      have hG := good_of hR
      have hM1 := hR.n1
      rw [Int.toNat_natCast] at hB
      have dv1 := BufO.isOne_far hB
      repeat (first | intro id | refine goq ?_)
      refine gok ?_
      refine (refFar_ok rfl rfl rfl rfl hs hlt).mono ?_
      rintro u L' ⟨⟨hR', rfl⟩ | ⟨-, wv, rfl, hw⟩, rfl⟩
      · exact (hR' hR).elim
      · rw [Int.toNat_natCast] at hw
        obtain ⟨cs, B1, H, hb, hr, rfl⟩ := hB.ex
        rcases BufO.inv hb with ⟨-, -, h0, -⟩ | ⟨ib, rfl, rfl⟩
        · omega
        obtain ⟨us, r1, r2, r3⟩ := hw.row
        rw [dists_length] at r1 r2 r3
        have w1 := RowA.isOne r1
        have hN := hG.hN
        repeat (first | intro id | refine goq ?_)
        refine gok ?_
        refine (num_ok rfl rfl _).mono ?_
        rintro u L' ⟨rfl, rfl⟩
        repeat (first | intro id | refine goq ?_)
        rw [List.append_assoc]
        refine WpO.mono (paths_l1 (L := (i3, [aint (M : Int), s]) :: L) rfl rfl rfl hN hw (dists_length _ _ _) (fun j hj => by rw [dists_getD hj]; exact dist_len _ _ _) M 0 _ (dists M (npairs ps) M) H (by omega) (dists_length _ _ _) (fun _ _ _ => rfl) hr ?_ ?_ ?_) ?_
        · exact slotq
        · exact slotq
        · exact slotq
        rintro ex t1 L' ⟨rfl, hK, H', rfl⟩
        have g1 : t1.get 1 = some (aint a) := (hK.ex 1 rfl).trans (by exact slotq)
        have g2 : t1.get 2 = some (aint b) := (hK.ex 2 rfl).trans (by exact slotq)
        have g3 : t1.get 3 = some (.ptr i3 0) := (hK.ex 3 rfl).trans (by exact slotq)
        have g7 : t1.get 7 = some (aint k) := (hK.ex 7 rfl).trans (by exact slotq)
        repeat (first | intro id | refine goq ?_)
        refine WpO.weak (WpO.mono (ih (k + 1) _ (by omega) ?_ ?_ ?_ ?_) ?_) (by exact subq)
        · exact slotq
        · exact slotq
        · exact slotq
        · exact slotq
        · rintro ex t' L' ⟨e1, e2, e3⟩
          exact ⟨e1, Keep.trans (Keep.trans (Keep.trans (by exact keepq) (hK.less rfl)) (by exact keepq)) e2, e3⟩
theorem paths_law {L : Hp} {N a b : Int} {s : AVal} {ps : List (Int × Int)} (hs : SlP s ps) (hlt : ps.length ≤ 1000000) : CallO E2 f_phasorlaw20_RoutePaths [.agg [aint N, s], aint a, aint b] L fun v _ => v = abool true := by
  refine callO_open rfl n_phasorlaw20_RoutePaths ?_
  have hs1 := hs.isOne
  refine bodyO_of (Nat.le_of_ble_eq_true rfl) ?_; generalize ht : argSlots _ 0 .nil = t; have h0 : t.get 0 = some _ := (by rw [← ht]; rfl); have h1 : t.get 1 = some _ := (by rw [← ht]; rfl); have h2 : t.get 2 = some _ := (by rw [← ht]; rfl); clear ht
  repeat (first | intro id | refine goq ?_)
  refine WpO.mono (paths_l2 (a := a) (b := b) hs hlt 2 0 _ rfl ?_ ?_ ?_ ?_) ?_
  · exact slotq
  · exact slotq
  · exact slotq
  · exact slotq
  rintro ex t1 L' ⟨rfl, hK, hsub⟩
  have g1 : t1.get 1 = some (aint a) := (hK.ex 1 rfl).trans (by exact slotq)
  have g2 : t1.get 2 = some (aint b) := (hK.ex 2 rfl).trans (by exact slotq)
  have g3 : t1.get 3 = some (.ptr id 0) := (hK.ex 3 rfl).trans (by exact slotq)
  refine blkO.x (seqO.n (WpO.weak ?_ hsub))
  repeat (first | intro id | refine goq ?_)
  refine gok ?_
  refine (Path_ok rfl rfl rfl rfl rfl rfl rfl rfl rfl rfl rfl rfl rfl rfl rfl hs hlt).mono ?_
  rintro u L' ⟨⟨hu⟩, rfl⟩
  have go : ∀ (e : Int) (va vb : AVal) (l : List Int), SlI va l → SlI vb l → l.length < 2 ^ 62 → True := fun _ _ _ _ _ _ _ => trivial
  rcases hu with ⟨hR, rfl⟩ | ⟨hR, hi, rfl⟩ | ⟨hR, hi, va, rfl, hva⟩
  · repeat (first | intro id | refine goq ?_)
    refine gok ?_
    refine (refPath_ok rfl rfl rfl rfl rfl hs hlt).mono ?_
    rintro u L' ⟨⟨⟨-, rfl⟩ | ⟨hR', -⟩ | ⟨hR', -⟩⟩, rfl⟩
    · repeat (first | intro id | refine goq ?_)
      refine gok ?_
      refine (num_ok rfl rfl _).mono ?_
      rintro u L' ⟨rfl, rfl⟩
      repeat (first | intro id | refine goq ?_)
      refine gok ?_
      refine (ints_ok (la := []) (lb := []) rfl rfl (vs_bare rfl (vs_bare rfl vs_nil)) (.inl ⟨rfl, rfl, rfl⟩) (.inl ⟨rfl, rfl, rfl⟩) (by simp)).mono ?_
      rintro u L' ⟨rfl, rfl⟩
      rw [decide_eq_true rfl]
      repeat (first | intro id | refine goq ?_)
      refine gok ?_
      refine alive2_ok.mono ?_
      rintro u L' ⟨rfl, rfl⟩
      repeat (first | intro id | refine goq ?_)
      ((first | apply retO_r | apply retO_n); (focus (exact resq)))
      rfl
    · exact (hR hR').elim
    · exact (hR hR').elim
  · repeat (first | intro id | refine goq ?_)
    refine gok ?_
    refine (refPath_ok rfl rfl rfl rfl rfl hs hlt).mono ?_
    rintro u L' ⟨⟨⟨hR', -⟩ | ⟨-, -, rfl⟩ | ⟨-, hi', -⟩⟩, rfl⟩
    · exact (hR' hR).elim
    · repeat (first | intro id | refine goq ?_)
      refine gok ?_
      refine (num_ok rfl rfl _).mono ?_
      rintro u L' ⟨rfl, rfl⟩
      repeat (first | intro id | refine goq ?_)
      refine gok ?_
      refine (ints_ok (la := []) (lb := []) rfl rfl (vs_bare rfl (vs_bare rfl vs_nil)) (.inl ⟨rfl, rfl, rfl⟩) (.inl ⟨rfl, rfl, rfl⟩) (by simp)).mono ?_
      rintro u L' ⟨rfl, rfl⟩
      rw [decide_eq_true rfl]
      repeat (first | intro id | refine goq ?_)
      refine gok ?_
      refine alive2_ok.mono ?_
      rintro u L' ⟨rfl, rfl⟩
      repeat (first | intro id | refine goq ?_)
      ((first | apply retO_r | apply retO_n); (focus (exact resq)))
      rfl
    · exact (hi hi').elim
  · have va1 := RowA.isOne hva
    repeat (first | intro id | refine goq ?_)
    refine gok ?_
    refine (refPath_ok rfl rfl rfl rfl rfl hs hlt).mono ?_
    rintro u L' ⟨⟨⟨hR', -⟩ | ⟨-, hi', -⟩ | ⟨-, -, vb, rfl, hvb⟩⟩, rfl⟩
    · exact (hR' hR).elim
    · exact (hi' hi).elim
    · have vb1 := RowA.isOne hvb
      have hlen : (inat (pathL N.toNat (npairs ps) a.toNat b.toNat)).length < 2 ^ 62 := by
        have hR0 := hR
        obtain ⟨M, rfl⟩ : ∃ k : Nat, N = k := ⟨N.toNat, by have := hR.n1; omega⟩
        have hG := good_of hR0
        have hN := hG.hN
        unfold inR at hi
        have hcn := hG.conn a.toNat b.toNat (by omega) (by omega)
        have : ∀ n a', (pathFrom M (npairs ps) b.toNat n a').length = n := by
          intro n
          induction n with
          | zero => intro a'; rfl
          | succ n ih => intro a'; simp only [pathFrom, List.length_cons, ih]
        rw [inat_length, Int.toNat_natCast]
        unfold pathL
        rw [List.length_cons, this]
        omega
      repeat (first | intro id | refine goq ?_)
      refine gok ?_
      refine (num_ok rfl rfl _).mono ?_
      rintro u L' ⟨rfl, rfl⟩
      repeat (first | intro id | refine goq ?_)
      refine gok ?_
      refine (ints_ok rfl rfl (vs_bare (bare_SlI hva) (vs_bare (bare_SlI hvb) vs_nil)) hva hvb hlen).mono ?_
      rintro u L' ⟨rfl, rfl⟩
      rw [decide_eq_true rfl]
      repeat (first | intro id | refine goq ?_)
      refine gok ?_
      refine alive2_ok.mono ?_
      rintro u L' ⟨rfl, rfl⟩
      repeat (first | intro id | refine goq ?_)
      ((first | apply retO_r | apply retO_n); (focus (exact resq)))
      rfl
end Go.Proofs.Ytfaphhcloanhnaa
