/- RewriteExpands holds wherever the argument is of the bulk that the second form speaks of: a circuit by fewer kinds is told as the document tells it; what is handed in stays. -/
import Derived.Test.YtmflheoafeenfaaGreatPa27
import Derived.WalkKit
import Derived.ProofKit
import Derived.OpenShut
import Derived.JoinedCond
set_option linter.unusedSimpArgs false
set_option linter.unusedVariables false
namespace Go.Proofs.YtmflheoafeenfaaGreat.rewriteExpands
open Go.ChangeShapes Go.WideShapes Go.ChangeAt Go.RowKit Go.Am Go.Proofs
set_option maxRecDepth 100000

theorem own : ownKnob Tryz.prog.godebug = none := by kernel_rfl
theorem plain : ∀ t ∈ ([24] : List TypeId), plainT Tryz.prog 6 t = true := by
  intro t ht
  have : ([24] : List TypeId).all (plainT Tryz.prog 6) = true := by kernel_rfl
  exact List.all_eq_true.1 this t ht

theorem contract (H : Type) (enc : TypeId × Value → H) (W : World) (base : Nat) (args : Array Value) (ds gs : List (DataW H)) (before : List MemPlace)
    (hval : ∀ (j : Nat) t v, Tryz.f5.params[j]? = some t → args[j]? = some v → Value.okWide Tryz.prog W .any base t v)
    (hW : DataW.Whole enc Tryz.prog Tryz.f5.params.toList Rows.rewriteExpandsSpec.vars false W args.toList ds gs before)
    (hk : Rows.uptoSmall H (ds ++ gs) = true) :
    Calls Tryz.prog 5 args W fun e W' => ∃ v, e = .returned v ∧ Rows.rewriteExpandsSpec.post enc Tryz.prog Tryz.f5 false true false false W args v W' := by
  have hW' := hW
  obtain ⟨p, q, hA0, hV, rfl, hfz, hnd⟩ := hW
  have hA : DataW.TrodAll enc Tryz.prog W 0 (fun _ => true) true Tryz.f5.params.toList args.toList ds p := hA0
  obtain ⟨rfl, rfl⟩ := trodVars_none hV
  simp only [List.append_nil] at hW' hk
  rw [Tryz.params5] at hA hval
  have hA1 := hA
  have r0 := hA
  obtain ⟨v1, vs1, d1, ds1, p1, q1, ha1, rfl, rfl, h1, r1⟩ := trodAll_cons r0
  obtain ⟨rfl, rfl, rfl⟩ := trodAll_nil r1
  obtain ⟨n1, t1⟩ := h1
  have s1 := trod_sh 6 n1 24 _ _ (plain 24 (by simp)) t1
  have hall : Rows.uptoBulkAll [d1] ≤ 1048576 := of_decide_eq_true hk
  simp only [Rows.uptoBulkAll] at hall
  obtain ⟨v1c, c1, e1, hc1, hsm1⟩ := sh_circuit (d := 1) s1 (by dsimp only; omega)
  obtain ⟨n, v, m', hrun, rfl⟩ := callO_end (expands_law hc1 hsm1)
  refine (law_calls EX_ok (ts := [24]) (k := 6) (r := .any) (base := base) plain (fun j t v hj hv => hval j t v (by simpa using hj) (by simpa using hv)) hA1 (n := n) (b := true) (m' := m') ?_).mono fun e W' ⟨he, hg, hagain⟩ => ?_
  · show callF EX n (.func 5) [valD Tryz.prog 6 24 d1] ⟨.nil, 0, 0⟩ = _
    rw [e1]
    exact hrun
  subst he
  exact ⟨_, rfl, post_of_still (pv := []) hW' (fun _ _ _ => (trodAll_cons_mk (shut_bool Tryz.underlying4 _) trodAll_mk0)) (fun sp hs => hagain sp hs) (fun _ _ => rfl) (by simp) hg (ok_one (by kernel_rfl) rfl (okWide_bool_mk Tryz.underlying4 _))⟩

set_option maxRecDepth 100000 in
theorem lifted (os : Os) (started : os.Started) (H : Type) (enc : TypeId × Value → H) (F : Stop.Interp) :
    ReturnsInHanded {} Tryz.checked os 5 .any ((Rows.OpenSpec.upto Rows.rewriteExpandsSpec).pre6 enc Tryz.prog Tryz.f5 Rows.rewriteExpandsUptoRow.domain false) (((Rows.OpenSpec.upto Rows.rewriteExpandsSpec).at F).post enc Tryz.prog Tryz.f5 false true false false) := by
  refine returnsInHanded_of_cond (C := Tryz.checked) (s := Rows.OpenSpec.upto Rows.rewriteExpandsSpec) (k := Rows.uptoSmall) rfl own started (by kernel_rfl) Tryz.func5
    (OpenSpec.witness (enc := enc) (C := Tryz.checked) (s := Rows.OpenSpec.upto Rows.rewriteExpandsSpec) (k := Rows.uptoSmall) rfl false ⟨#[], #[.agg #[.int .i64 0, .int .i64 0, .slice none 0 0]], []⟩ 8 (by kernel_rfl) (by kernel_rfl) (by kernel_rfl)
      (x := ([.agg [.lit (.int .i64 0), .lit (.int .i64 0), .nil]], [], [])) (by kernel_rfl) rfl (by kernel_rfl)) ?_
  intro W base args ds gs before hval hW _ hk _
  exact contract H enc W base args ds gs before hval hW hk

theorem over : Rows.rewriteExpandsUptoRow.holds Tryz.pinned (Rows.OpenSpec.upto Rows.rewriteExpandsSpec) :=
  OpenClaim.holds_of_cond 5 Tryz.f5 rfl rfl rfl rfl rfl rfl rfl ⟨rfl, rfl, rfl, rfl, rfl⟩ rfl rfl rfl rfl rfl (by kernel_rfl) Tryz.func5 (by kernel_rfl)
    (of_decide_eq_true (by kernel_rfl)) (by unfold Func.isWrapper; first | (rw [if_pos (by decide +kernel)]; kernel_rfl) | (rw [if_neg (by decide +kernel)]; exact ⟨rfl, rfl⟩))
    (fun os started H enc _ F => lifted os started H enc F)

/-- The statement. -/
theorem proved : Rows.RewriteExpandsUptoSaid :=
  over
#print axioms proved
end Go.Proofs.YtmflheoafeenfaaGreat.rewriteExpands
