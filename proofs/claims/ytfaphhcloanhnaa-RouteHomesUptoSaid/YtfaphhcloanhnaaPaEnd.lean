/- RouteHomes holds wherever the arguments are of the bulk that the second form speaks of: what was laid onto a map, or made by hand, goes home as the document tells it, and once more behind a writing over what was told; what is handed in stays. -/
import Derived.Test.YtfaphhcloanhnaaPa31
import Derived.WalkKit
import Derived.ProofKit
import Derived.OpenShut
import Derived.JoinedCond
set_option linter.unusedSimpArgs false
set_option linter.unusedVariables false
namespace Go.Proofs.Ytfaphhcloanhnaa.routeHomes
open Go.ChangeShapes Go.WideShapes Go.ChangeAt Go.RowKit Go.Am Go.Proofs
set_option maxRecDepth 100000

theorem own : ownKnob Try.prog.godebug = none := by kernel_rfl
theorem plain : ∀ t ∈ ([61, 24] : List TypeId), plainT Try.prog 7 t = true := by
  intro t ht
  have : ([61, 24] : List TypeId).all (plainT Try.prog 7) = true := by kernel_rfl
  exact List.all_eq_true.1 this t ht

theorem contract (H : Type) (enc : TypeId × Value → H) (W : World) (base : Nat) (args : Array Value) (ds gs : List (DataW H)) (before : List MemPlace)
    (hval : ∀ (j : Nat) t v, Try.f7.params[j]? = some t → args[j]? = some v → Value.okWide Try.prog W .any base t v)
    (hW : DataW.Whole enc Try.prog Try.f7.params.toList Rows.routeHomesSpec.vars false W args.toList ds gs before)
    (hk : Rows.uptoSmall H (ds ++ gs) = true) :
    Calls Try.prog 7 args W fun e W' => ∃ v, e = .returned v ∧ Rows.routeHomesSpec.post enc Try.prog Try.f7 false true false false W args v W' := by
  have hW' := hW
  obtain ⟨p, q, hA0, hV, rfl, hfz, hnd⟩ := hW
  have hA : DataW.TrodAll enc Try.prog W 0 (fun _ => true) true Try.f7.params.toList args.toList ds p := hA0
  obtain ⟨rfl, rfl⟩ := trodVars_none hV
  simp only [List.append_nil] at hW' hk
  rw [Try.params7] at hA hval
  have hA1 := hA
  have r0 := hA
  obtain ⟨v1, vs1, d1, ds1, p1, q1, ha1, rfl, rfl, h1, r1⟩ := trodAll_cons r0
  obtain ⟨v2, vs2, d2, ds2, p2, q2, ha2, rfl, rfl, h2, r2⟩ := trodAll_cons r1
  obtain ⟨rfl, rfl, rfl⟩ := trodAll_nil r2
  obtain ⟨n1, t1⟩ := h1
  obtain ⟨n2, t2⟩ := h2
  have s1 := trod_sh 7 n1 61 _ _ (plain 61 (by simp)) t1
  have s2 := trod_sh 7 n2 24 _ _ (plain 24 (by simp)) t2
  have hall : Rows.uptoBulkAll [d1, d2] ≤ 1048576 := of_decide_eq_true hk
  simp only [Rows.uptoBulkAll] at hall
  obtain ⟨so1, sp1, c1, pl1, sw1, e1, hc1, hsm1, hp1, hpl1⟩ := sh_routed (d := 1) s1 (by dsimp only; omega)
  obtain ⟨N2, s2v, ps2, e2, hs2, hb2⟩ := sh_coupling (d := 3) s2
  have hpl1b : pl1.length ≤ 1100000 := by have h2 : pl1.length ≤ Rows.uptoBulk d1 := hpl1; omega
  have hbulk2 : ps2.length ≤ 1000000 := by have h2 : 2 * ps2.length ≤ Rows.uptoBulk d2 := hb2; omega
  obtain ⟨n, v, m', hrun, rfl⟩ := callO_end (homes_law (L := []) hs2 hbulk2 hc1 hsm1 hp1 hpl1b (sw := sw1))
  refine (law_calls (EnvH_ok mdFlatH mdRowsH [f_route_swap, f_phasorref08_Copy]) (ts := [61, 24]) (k := 7) (r := .any) (base := base) plain (fun j t v hj hv => hval j t v (by simpa using hj) (by simpa using hv)) hA1 (n := n) (b := true) (m' := m') ?_).mono fun e W' ⟨he, hg, hagain⟩ => ?_
  · show callF EH n (.func 7) [valD Try.prog 7 61 d1, valD Try.prog 7 24 d2] ⟨.nil, 0, 0⟩ = _
    rw [e1, e2]
    exact hrun
  subst he
  exact ⟨_, rfl, post_of_still (pv := []) hW' (fun _ _ _ => (trodAll_cons_mk (shut_bool Try.underlying4 _) trodAll_mk0)) (fun sp hs => hagain sp hs) (fun _ _ => rfl) (by simp) hg (ok_one (by kernel_rfl) rfl (okWide_bool_mk Try.underlying4 _))⟩

set_option maxRecDepth 100000 in
theorem lifted (os : Os) (started : os.Started) (H : Type) (enc : TypeId × Value → H) (F : Stop.Interp) :
    ReturnsInHanded {} Try.checked os 7 .any ((Rows.OpenSpec.upto Rows.routeHomesSpec).pre6 enc Try.prog Try.f7 Rows.routeHomesUptoRow.domain false) (((Rows.OpenSpec.upto Rows.routeHomesSpec).at F).post enc Try.prog Try.f7 false true false false) := by
  refine returnsInHanded_of_cond (C := Try.checked) (s := Rows.OpenSpec.upto Rows.routeHomesSpec) (k := Rows.uptoSmall) rfl own started (by kernel_rfl) Try.func7
    (OpenSpec.witness (enc := enc) (C := Try.checked) (s := Rows.OpenSpec.upto Rows.routeHomesSpec) (k := Rows.uptoSmall) rfl false ⟨#[], #[.agg #[.int .i64 0, .int .i64 0, .slice none 0 0, .slice none 0 0, .int .i64 0], .agg #[.int .i64 0, .slice none 0 0]], []⟩ 8 (by kernel_rfl) (by kernel_rfl) (by kernel_rfl)
      (x := ([.agg [.agg [.lit (.int .i64 0), .lit (.int .i64 0), .nil], .nil, .lit (.int .i64 0)], .agg [.lit (.int .i64 0), .nil]], [], [])) (by kernel_rfl) rfl (by kernel_rfl)) ?_
  intro W base args ds gs before hval hW _ hk _
  exact contract H enc W base args ds gs before hval hW hk

theorem over : Rows.routeHomesUptoRow.holds Try.pinned (Rows.OpenSpec.upto Rows.routeHomesSpec) :=
  OpenClaim.holds_of_cond 7 Try.f7 rfl rfl rfl rfl rfl rfl rfl ⟨rfl, rfl, rfl, rfl, rfl⟩ rfl rfl rfl rfl rfl (by kernel_rfl) Try.func7 (by kernel_rfl)
    (of_decide_eq_true (by kernel_rfl)) (by unfold Func.isWrapper; first | (rw [if_pos (by decide +kernel)]; kernel_rfl) | (rw [if_neg (by decide +kernel)]; exact ⟨rfl, rfl⟩))
    (fun os started H enc _ F => lifted os started H enc F)

/-- The statement. -/
theorem proved : Rows.RouteHomesUptoSaid :=
  over
#print axioms proved
end Go.Proofs.Ytfaphhcloanhnaa.routeHomes
