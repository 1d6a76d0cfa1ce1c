/- RouteMetric holds wherever the arguments are of the bulk that the second form speaks of: distances are the same both ways, none is greater than by a third place, and of neighbours alone 1; a path is as long as the distance, from place to place. -/
import Derived.Test.YtfaphhcloanhnaaRtM1
import Derived.WalkKit
import Derived.ProofKit
import Derived.OpenShut
import Derived.JoinedCond
set_option linter.unusedSimpArgs false
set_option linter.unusedVariables false
namespace Go.Proofs.Ytfaphhcloanhnaa.routeMetric
open Go.ChangeShapes Go.WideShapes Go.ChangeAt Go.RowKit Go.Am Go.Proofs
set_option maxRecDepth 100000

theorem own : ownKnob Try.prog.godebug = none := by kernel_rfl
theorem plain : ∀ t ∈ ([24, 3, 3, 3] : List TypeId), plainT Try.prog 6 t = true := by
  intro t ht
  have : ([24, 3, 3, 3] : List TypeId).all (plainT Try.prog 6) = true := by kernel_rfl
  exact List.all_eq_true.1 this t ht

theorem contract (H : Type) (enc : TypeId × Value → H) (W : World) (base : Nat) (args : Array Value) (ds gs : List (DataW H)) (before : List MemPlace)
    (hval : ∀ (j : Nat) t v, Try.f5.params[j]? = some t → args[j]? = some v → Value.okWide Try.prog W .any base t v)
    (hW : DataW.Whole enc Try.prog Try.f5.params.toList Rows.routeMetricSpec.vars false W args.toList ds gs before)
    (hk : Rows.uptoSmall H (ds ++ gs) = true) :
    Calls Try.prog 5 args W fun e W' => ∃ v, e = .returned v ∧ Rows.routeMetricSpec.post enc Try.prog Try.f5 false true false false W args v W' := by
  have hW' := hW
  obtain ⟨p, q, hA0, hV, rfl, hfz, hnd⟩ := hW
  have hA : DataW.TrodAll enc Try.prog W 0 (fun _ => true) true Try.f5.params.toList args.toList ds p := hA0
  obtain ⟨rfl, rfl⟩ := trodVars_none hV
  simp only [List.append_nil] at hW' hk
  rw [Try.params5] at hA hval
  have hA1 := hA
  have r0 := hA
  obtain ⟨v1, vs1, d1, ds1, p1, q1, ha1, rfl, rfl, h1, r1⟩ := trodAll_cons r0
  obtain ⟨v2, vs2, d2, ds2, p2, q2, ha2, rfl, rfl, h2, r2⟩ := trodAll_cons r1
  obtain ⟨v3, vs3, d3, ds3, p3, q3, ha3, rfl, rfl, h3, r3⟩ := trodAll_cons r2
  obtain ⟨v4, vs4, d4, ds4, p4, q4, ha4, rfl, rfl, h4, r4⟩ := trodAll_cons r3
  obtain ⟨rfl, rfl, rfl⟩ := trodAll_nil r4
  obtain ⟨n1, t1⟩ := h1
  obtain ⟨n2, t2⟩ := h2
  obtain ⟨n3, t3⟩ := h3
  obtain ⟨n4, t4⟩ := h4
  have s1 := trod_sh 6 n1 24 _ _ (plain 24 (by simp)) t1
  have s2 := trod_sh 6 n2 3 _ _ (plain 3 (by simp)) t2
  have s3 := trod_sh 6 n3 3 _ _ (plain 3 (by simp)) t3
  have s4 := trod_sh 6 n4 3 _ _ (plain 3 (by simp)) t4
  obtain ⟨N1, s1v, ps1, e1, hs1, hb1⟩ := sh_coupling (d := 2) s1
  obtain ⟨w2, e2, hw2⟩ := val_int (d := 5) s2
  obtain ⟨w3, e3, hw3⟩ := val_int (d := 5) s3
  obtain ⟨w4, e4, hw4⟩ := val_int (d := 5) s4
  have hall : Rows.uptoBulkAll [d1, d2, d3, d4] ≤ 1048576 := of_decide_eq_true hk
  simp only [Rows.uptoBulkAll] at hall
  have hbulk1 : ps1.length ≤ 1000000 := by have h2 : 2 * ps1.length ≤ Rows.uptoBulk d1 := hb1; omega
  obtain ⟨n, v, m', hrun, rfl⟩ := callO_end (metric_law (L := []) (a := w2) (b := w3) (c := w4) hs1 hbulk1)
  refine (law_calls (EnvM_ok mdFlat3 mdRows3) (ts := [24, 3, 3, 3]) (k := 6) (r := .any) (base := base) plain (fun j t v hj hv => hval j t v (by simpa using hj) (by simpa using hv)) hA1 (n := n) (b := true) (m' := m') ?_).mono fun e W' ⟨he, hg, hagain⟩ => ?_
  · show callF E3 n (.func 5) [valD Try.prog 6 24 d1, valD Try.prog 6 3 d2, valD Try.prog 6 3 d3, valD Try.prog 6 3 d4] ⟨.nil, 0, 0⟩ = _
    rw [e1, e2, e3, e4]
    exact hrun
  subst he
  exact ⟨_, rfl, post_of_still (pv := []) hW' (fun _ _ _ => (trodAll_cons_mk (shut_bool Try.underlying4 _) trodAll_mk0)) (fun sp hs => hagain sp hs) (fun _ _ => rfl) (by simp) hg (ok_one (by kernel_rfl) rfl (okWide_bool_mk Try.underlying4 _))⟩

set_option maxRecDepth 100000 in
theorem lifted (os : Os) (started : os.Started) (H : Type) (enc : TypeId × Value → H) (F : Stop.Interp) :
    ReturnsInHanded {} Try.checked os 5 .any ((Rows.OpenSpec.upto Rows.routeMetricSpec).pre6 enc Try.prog Try.f5 Rows.routeMetricUptoRow.domain false) (((Rows.OpenSpec.upto Rows.routeMetricSpec).at F).post enc Try.prog Try.f5 false true false false) := by
  refine returnsInHanded_of_cond (C := Try.checked) (s := Rows.OpenSpec.upto Rows.routeMetricSpec) (k := Rows.uptoSmall) rfl own started (by kernel_rfl) Try.func5
    (OpenSpec.witness (enc := enc) (C := Try.checked) (s := Rows.OpenSpec.upto Rows.routeMetricSpec) (k := Rows.uptoSmall) rfl false ⟨#[], #[.agg #[.int .i64 0, .slice none 0 0], .int .i64 0, .int .i64 0, .int .i64 0], []⟩ 8 (by kernel_rfl) (by kernel_rfl) (by kernel_rfl)
      (x := ([.agg [.lit (.int .i64 0), .nil], .lit (.int .i64 0), .lit (.int .i64 0), .lit (.int .i64 0)], [], [])) (by kernel_rfl) rfl (by kernel_rfl)) ?_
  intro W base args ds gs before hval hW _ hk _
  exact contract H enc W base args ds gs before hval hW hk

theorem over : Rows.routeMetricUptoRow.holds Try.pinned (Rows.OpenSpec.upto Rows.routeMetricSpec) :=
  OpenClaim.holds_of_cond 5 Try.f5 rfl rfl rfl rfl rfl rfl rfl ⟨rfl, rfl, rfl, rfl, rfl⟩ rfl rfl rfl rfl rfl (by kernel_rfl) Try.func5 (by kernel_rfl)
    (of_decide_eq_true (by kernel_rfl)) (by unfold Func.isWrapper; first | (rw [if_pos (by decide +kernel)]; kernel_rfl) | (rw [if_neg (by decide +kernel)]; exact ⟨rfl, rfl⟩))
    (fun os started H enc _ F => lifted os started H enc F)

/-- The statement. -/
theorem proved : Rows.RouteMetricUptoSaid :=
  over
#print axioms proved
end Go.Proofs.Ytfaphhcloanhnaa.routeMetric
