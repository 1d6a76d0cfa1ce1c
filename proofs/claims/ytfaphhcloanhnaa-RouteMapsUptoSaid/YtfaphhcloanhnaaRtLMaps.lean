/- RouteMaps: the walk. -/
import Derived.Test.YtfaphhcloanhnaaRtC4
import Derived.Test.YtfaphhcloanhnaaRtC14
import Derived.Test.YtfaphhcloanhnaaRtL0
import Derived.Test.YtfaphhcloanhnaaRtAlive
namespace Go.Proofs.Ytfaphhcloanhnaa
open Go.Am Go.Dist Go.Proofs
set_option linter.unusedVariables false
set_option linter.unusedSimpArgs false
set_option maxRecDepth 4000
set_option maxHeartbeats 8000000
theorem lineS_len (n : Int) : (lineS n).2.1.length < 2 ^ 62 := by
  unfold lineS
  split
  · rename_i h; simp only [lineP_length]; omega
  · simp
theorem ringS_len (n : Int) : (ringS n).2.1.length < 2 ^ 62 := by
  unfold ringS
  split
  · rename_i h; simp only [List.length_append, lineP_length, List.length_singleton]; omega
  · simp
theorem gridS_len (w h : Int) : (gridS w h).2.1.length < 2 ^ 62 := by
  unfold gridS
  split
  · rename_i hh
    have := gridP_len w.toNat h.toNat (w * h).toNat
    simp only
    omega
  · simp
theorem view_mapB {B : Hp} {N : Int} {a : AVal} {ps : List (Int × Int)} {n : Nat} (hb : BufO 2 a (pcells ps) n B) : ∃ u, RowA u (pcells ps) n ∧ ∀ L : Hp, (∀ id c, In id c B → In id c L) → ∀ vs us, ViewsO L vs us → ViewsO L (.agg [aint N, a] :: vs) (.agg [aint N, u] :: us) := by
  have hlen := hb.length
  rcases BufO.inv hb with ⟨rfl, h1, rfl, rfl⟩ | ⟨id, rfl, rfl⟩
  · exact ⟨anil, .inl ⟨rfl, rfl, h1⟩, fun L hB vs us h => vs_bare rfl h⟩
  · exact ⟨.rs (pcells ps) n none, .inr ⟨none, rfl⟩, fun L hB vs us h => vs_view rfl (vo_agg (vl_cons vo_sc (vl_cons (vo_sl (hB _ _ .here) (seg_full hlen) (vl_sc (sc_pcells _))) vl_nil))) h⟩
/-- Two maps told alike. -/
theorem maps_law {L : Hp} {N w h : Int} {s : AVal} {ps : List (Int × Int)} (hs : SlP s ps) (hlt : ps.length ≤ 1000000) : CallO E1 f_phasorlaw20_RouteMaps [.agg [aint N, s], aint w, aint h] L fun v _ => v = abool true := by
  refine callO_open rfl n_phasorlaw20_RouteMaps ?_
  have hs1 := hs.isOne
  have hl1 := lineS_len w
  have hl2 := ringS_len w
  have hl3 := gridS_len w h
  refine bodyO_of (Nat.le_of_ble_eq_true rfl) ?_; generalize ht : argSlots _ 0 .nil = t; have h0 : t.get 0 = some _ := (by rw [← ht]; rfl); have h1 : t.get 1 = some _ := (by rw [← ht]; rfl); have h2 : t.get 2 = some _ := (by rw [← ht]; rfl); clear ht
  repeat (first | intro id | refine goq ?_)
  refine gok ?_
  refine (Line_ok rfl rfl rfl w).mono ?_
  rintro u L' ⟨⟨a1, rfl, hA1⟩, rfl⟩
  obtain ⟨a1s, rfl, hA1s⟩ := hA1
  have oa1 := hA1s.isOne
  repeat (first | intro id | refine goq ?_)
  refine gok ?_
  refine (refLine_ok rfl rfl w).mono ?_
  rintro u L' ⟨B, ⟨b1, rfl, hB1⟩, rfl⟩
  have ob1 := hB1.isOne
  repeat (first | intro id | refine goq ?_)
  refine gok ?_
  refine (Ring_ok rfl rfl rfl w).mono ?_
  rintro u L' ⟨⟨a2, rfl, hA2⟩, rfl⟩
  obtain ⟨a2s, rfl, hA2s⟩ := hA2
  have oa2 := hA2s.isOne
  repeat (first | intro id | refine goq ?_)
  refine gok ?_
  refine (refRing_ok rfl rfl rfl w).mono ?_
  rintro u L' ⟨⟨b2, rfl, hB2⟩, rfl⟩
  obtain ⟨b2s, rfl, hB2s⟩ := hB2
  have ob2 := hB2s.isOne
  repeat (first | intro id | refine goq ?_)
  refine gok ?_
  refine (Grid_ok rfl rfl w h).mono ?_
  rintro u L' ⟨⟨a3, rfl, hA3⟩, rfl⟩
  obtain ⟨a3s, rfl, hA3s⟩ := hA3
  have oa3 := hA3s.isOne
  repeat (first | intro id | refine goq ?_)
  refine gok ?_
  refine (refGrid_ok rfl rfl w h).mono ?_
  rintro u L' ⟨⟨b3, rfl, hB3⟩, rfl⟩
  obtain ⟨b3s, rfl, hB3s⟩ := hB3
  have ob3 := hB3s.isOne
  repeat (first | intro id | refine goq ?_)
  refine gok ?_
  refine (Right_ok rfl rfl rfl hs (by omega)).mono ?_
  rintro u L' ⟨⟨b, rfl, hb⟩, rfl⟩
  repeat (first | intro id | refine goq ?_)
  refine gok ?_
  refine (Check_ok rfl rfl rfl rfl rfl rfl rfl rfl rfl hs hlt).mono ?_
  rintro u L' ⟨⟨e, rfl, he, he2⟩, rfl⟩
  repeat (first | intro id | refine goq ?_)
  refine gok ?_
  refine (num_ok rfl rfl e).mono ?_
  rintro u L' ⟨rfl, rfl⟩
  have cases : (e = 0 ∧ b = true) ∨ (e = 200 ∧ b = false) := by
    rcases he2 with h1 | h1
    · exact .inl ⟨h1, hb.2 (he.1 h1)⟩
    · refine .inr ⟨h1, ?_⟩
      cases b with
      | false => rfl
      | true => have := he.2 (hb.1 rfl); omega
  generalize hS1 : lineS w = S1 at *
  generalize hS2 : ringS w = S2 at *
  generalize hS3 : gridS w h = S3 at *
  repeat (first | intro id | refine goq ?_)
  ((first | apply genO14 (t0 := t) (js := []) 58 10 7 9 12 14 11 13 16 18 15 17 19 20 | apply genW14 (t0 := t) (js := []) 58 10 7 9 12 14 11 13 16 18 15 17 19 20); (focus exact keepq); (focus exact slotq); (focus exact slotq); (focus exact slotq); (focus exact slotq); (focus exact slotq); (focus exact slotq); (focus exact slotq); (focus exact slotq); (focus exact slotq); (focus exact slotq); (focus exact slotq); (focus exact slotq); (focus exact slotq); (focus exact slotq); intro t gK g58 g10 g7 g9 g12 g14 g11 g13 g16 g18 g15 g17 g19 g20)
  repeat (first | intro id | refine goq ?_)
  refine gok ?_
  refine (num_ok rfl rfl _).mono ?_
  rintro u L' ⟨rfl, rfl⟩
  repeat (first | intro id | refine goq ?_)
  refine gok ?_
  obtain ⟨u1, hr1, hv1⟩ := view_mapB (N := S1.1) hB1
  refine (same_ok (na := S1.1) (nb := S1.1) (va := .agg [aint S1.1, a1s]) (vb := .agg [aint S1.1, u1]) rfl rfl (vs_bare (bare_MapA ⟨_, rfl, hA1s⟩) (hv1 _ (fun _ _ h => .next (.next (.next (.next (.next h.appl))))) _ _ vs_nil)) ⟨_, rfl, hA1s⟩ ⟨_, rfl, hr1⟩ hl1).mono ?_
  rintro u L' ⟨rfl, rfl⟩
  rw [decide_eq_true ⟨rfl, rfl⟩]
  repeat (first | intro id | refine goq ?_)
  refine gok ?_
  refine (num_ok rfl rfl _).mono ?_
  rintro u L' ⟨rfl, rfl⟩
  repeat (first | intro id | refine goq ?_)
  refine gok ?_
  refine (same_ok (na := S2.1) (nb := S2.1) (va := .agg [aint S2.1, a2s]) (vb := .agg [aint S2.1, b2s]) rfl rfl (vs_bare (bare_MapA ⟨_, rfl, hA2s⟩) (vs_bare (bare_MapA ⟨_, rfl, hB2s⟩) vs_nil)) ⟨_, rfl, hA2s⟩ ⟨_, rfl, hB2s⟩ hl2).mono ?_
  rintro u L' ⟨rfl, rfl⟩
  rw [decide_eq_true ⟨rfl, rfl⟩]
  repeat (first | intro id | refine goq ?_)
  refine gok ?_
  refine (num_ok rfl rfl _).mono ?_
  rintro u L' ⟨rfl, rfl⟩
  repeat (first | intro id | refine goq ?_)
  refine gok ?_
  refine (same_ok (na := S3.1) (nb := S3.1) (va := .agg [aint S3.1, a3s]) (vb := .agg [aint S3.1, b3s]) rfl rfl (vs_bare (bare_MapA ⟨_, rfl, hA3s⟩) (vs_bare (bare_MapA ⟨_, rfl, hB3s⟩) vs_nil)) ⟨_, rfl, hA3s⟩ ⟨_, rfl, hB3s⟩ hl3).mono ?_
  rintro u L' ⟨rfl, rfl⟩
  rw [decide_eq_true ⟨rfl, rfl⟩]
  rcases cases with ⟨rfl, rfl⟩ | ⟨rfl, rfl⟩
  · repeat (first | intro id | refine goq ?_)
    refine gok ?_
    refine alive_ok.mono ?_
    rintro u L' ⟨rfl, rfl⟩
    repeat (first | intro id | refine goq ?_)
    ((first | apply retO_r | apply retO_n); (focus (exact resq)))
    rfl
  · repeat (first | intro id | refine goq ?_)
    refine gok ?_
    refine alive_ok.mono ?_
    rintro u L' ⟨rfl, rfl⟩
    repeat (first | intro id | refine goq ?_)
    ((first | apply retO_r | apply retO_n); (focus (exact resq)))
    rfl
end Go.Proofs.Ytfaphhcloanhnaa
