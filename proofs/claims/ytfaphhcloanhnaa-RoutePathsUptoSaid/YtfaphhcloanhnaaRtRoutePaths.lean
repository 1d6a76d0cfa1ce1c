/- RoutePaths holds wherever the arguments are of the bulk that the second form speaks of: lines, rings, grids and whether a map is right are told as the document tells them. -/
import Derived.Test.YtfaphhcloanhnaaRtLPaths
import Derived.WalkKit
import Derived.ProofKit
import Derived.OpenShut
import Derived.JoinedCond
set_option linter.unusedSimpArgs false
set_option linter.unusedVariables false
namespace Go.Proofs.Ytfaphhcloanhnaa.routePaths
open Go.ChangeShapes Go.WideShapes Go.ChangeAt Go.RowKit Go.Am Go.Proofs
set_option maxRecDepth 100000

theorem own : ownKnob Try.prog.godebug = none := by kernel_rfl
theorem plain : ∀ t ∈ [24, 3, 3], plainT Try.prog 6 t = true := by
  intro t ht
  have : ([24, 3, 3] : List TypeId).all (plainT Try.prog 6) = true := by kernel_rfl
  exact List.all_eq_true.1 this t ht

theorem contract (H : Type) (enc : TypeId × Value → H) (W : World) (base : Nat) (args : Array Value) (ds gs : List (DataW H)) (before : List MemPlace)
    (hval : ∀ (j : Nat) t v, Try.f4.params[j]? = some t → args[j]? = some v → Value.okWide Try.prog W .any base t v)
    (hW : DataW.Whole enc Try.prog Try.f4.params.toList Rows.routePathsSpec.vars false W args.toList ds gs before)
    (hk : Rows.uptoSmall H (ds ++ gs) = true) :
    Calls Try.prog 4 args W fun e W' => ∃ v, e = .returned v ∧ Rows.routePathsSpec.post enc Try.prog Try.f4 false true false false W args v W' := by
  have hW' := hW
  obtain ⟨p, q, hA0, hV, rfl, hfz, hnd⟩ := hW
  have hA : DataW.TrodAll enc Try.prog W 0 (fun _ => true) true Try.f4.params.toList args.toList ds p := hA0
  obtain ⟨rfl, rfl⟩ := trodVars_none hV
  simp only [List.append_nil] at hW' hk
  rw [Try.params4] at hA hval
  have hA1 := hA
  obtain ⟨v1, vs1, d1, ds1, p1, q1, ha1, rfl, rfl, h1, r1⟩ := trodAll_cons hA
  obtain ⟨v2, vs2, d2, ds2, p2, q2, ha2, rfl, rfl, h2, r2⟩ := trodAll_cons r1
  obtain ⟨v3, vs3, d3, ds3, p3, q3, ha3, rfl, rfl, h3, r3⟩ := trodAll_cons r2
  obtain ⟨rfl, rfl, rfl⟩ := trodAll_nil r3
  obtain ⟨n1, t1⟩ := h1
  obtain ⟨n2, t2⟩ := h2
  obtain ⟨n3, t3⟩ := h3
  have s1 := trod_sh 6 n1 24 _ _ (plain 24 (by simp)) t1
  have s2 := trod_sh 6 n2 3 _ _ (plain 3 (by simp)) t2
  have s3 := trod_sh 6 n3 3 _ _ (plain 3 (by simp)) t3
  obtain ⟨N, s, ps, e1, hs, hb⟩ := sh_coupling (d := 2) s1
  obtain ⟨w, e2, -⟩ := val_int (d := 5) s2
  obtain ⟨h, e3, -⟩ := val_int (d := 5) s3
  have hbulk : ps.length ≤ 1000000 := by
    have h1 : Rows.uptoBulkAll [d1, d2, d3] ≤ 1048576 := of_decide_eq_true hk
    have h2 : Rows.uptoBulk d1 ≤ Rows.uptoBulkAll [d1, d2, d3] := by simp only [Rows.uptoBulkAll]; omega
    have h3 : 2 * ps.length ≤ Rows.uptoBulk d1 := hb
    omega
  obtain ⟨n, v, m', hrun, rfl⟩ := callO_end (paths_law (L := []) (N := N) (a := w) (b := h) hs hbulk)
  refine (law_calls E2_ok (ts := [24, 3, 3]) (k := 6) (r := .any) (base := base) plain (fun j t v hj hv => hval j t v (by simpa using hj) (by simpa using hv)) hA1 (n := n) (b := true) (m' := m') ?_).mono fun e W' ⟨he, hg, hagain⟩ => ?_
  · show callF E2 n (.func 4) [valD Try.prog 6 24 d1, valD Try.prog 6 3 d2, valD Try.prog 6 3 d3] ⟨.nil, 0, 0⟩ = _
    rw [e1, e2, e3]
    exact hrun
  subst he
  exact ⟨_, rfl, post_of_still (pv := []) hW' (fun _ _ _ => (trodAll_cons_mk (shut_bool Try.underlying4 _) trodAll_mk0)) (fun sp hs => hagain sp hs) (fun _ _ => rfl) (by simp) hg (ok_one (by kernel_rfl) rfl (okWide_bool_mk Try.underlying4 _))⟩

set_option maxRecDepth 100000 in
theorem lifted (os : Os) (started : os.Started) (H : Type) (enc : TypeId × Value → H) (F : Stop.Interp) :
    ReturnsInHanded {} Try.checked os 4 .any ((Rows.OpenSpec.upto Rows.routePathsSpec).pre6 enc Try.prog Try.f4 Rows.routePathsUptoRow.domain false) (((Rows.OpenSpec.upto Rows.routePathsSpec).at F).post enc Try.prog Try.f4 false true false false) := by
  refine returnsInHanded_of_cond (C := Try.checked) (s := Rows.OpenSpec.upto Rows.routePathsSpec) (k := Rows.uptoSmall) rfl own started (by kernel_rfl) Try.func4
    (OpenSpec.witness (enc := enc) (C := Try.checked) (s := Rows.OpenSpec.upto Rows.routePathsSpec) (k := Rows.uptoSmall) rfl false ⟨#[], #[.agg #[.int .i64 0, .slice none 0 0], .int .i64 0, .int .i64 0], []⟩ 8 (by kernel_rfl) (by kernel_rfl) (by kernel_rfl)
      (x := ([.agg [.lit (.int .i64 0), .nil], .lit (.int .i64 0), .lit (.int .i64 0)], [], [])) (by kernel_rfl) rfl (by kernel_rfl)) ?_
  intro W base args ds gs before hval hW _ hk _
  exact contract H enc W base args ds gs before hval hW hk

theorem over : Rows.routePathsUptoRow.holds Try.pinned (Rows.OpenSpec.upto Rows.routePathsSpec) :=
  OpenClaim.holds_of_cond 4 Try.f4 rfl rfl rfl rfl rfl rfl rfl ⟨rfl, rfl, rfl, rfl, rfl⟩ rfl rfl rfl rfl rfl (by kernel_rfl) Try.func4 (by kernel_rfl)
    (of_decide_eq_true (by kernel_rfl)) (by unfold Func.isWrapper; first | (rw [if_pos (by decide +kernel)]; kernel_rfl) | (rw [if_neg (by decide +kernel)]; exact ⟨rfl, rfl⟩))
    (fun os started H enc _ F => lifted os started H enc F)

/-- The statement. -/
theorem proved : Rows.RoutePathsUptoSaid :=
  over
#print axioms proved
end Go.Proofs.Ytfaphhcloanhnaa.routePaths
