/- RewriteLinear holds wherever the arguments are of the bulk that the second form speaks of: which sums a circuit's qubits become, and a circuit made of rows, are told as the document tells them; what is handed in stays. -/
import Derived.Test.YtmflheoafeenfaaGreatPa24
import Derived.Test.YtmflheoafeenfaaGreatPa25
import Derived.WalkKit
import Derived.ProofKit
import Derived.OpenShut
import Derived.JoinedCond
set_option linter.unusedSimpArgs false
set_option linter.unusedVariables false
namespace Go.Proofs.YtmflheoafeenfaaGreat.rewriteLinear
open Go.ChangeShapes Go.WideShapes Go.ChangeAt Go.RowKit Go.Am Go.Proofs
set_option maxRecDepth 100000

theorem own : ownKnob Tryz.prog.godebug = none := by kernel_rfl
theorem plain : ∀ t ∈ ([24, 41] : List TypeId), plainT Tryz.prog 6 t = true := by
  intro t ht
  have : ([24, 41] : List TypeId).all (plainT Tryz.prog 6) = true := by kernel_rfl
  exact List.all_eq_true.1 this t ht

theorem contract (H : Type) (enc : TypeId × Value → H) (W : World) (base : Nat) (args : Array Value) (ds gs : List (DataW H)) (before : List MemPlace)
    (hval : ∀ (j : Nat) t v, Tryz.f6.params[j]? = some t → args[j]? = some v → Value.okWide Tryz.prog W .any base t v)
    (hW : DataW.Whole enc Tryz.prog Tryz.f6.params.toList Rows.rewriteLinearSpec.vars false W args.toList ds gs before)
    (hk : Rows.uptoSmall H (ds ++ gs) = true) :
    Calls Tryz.prog 6 args W fun e W' => ∃ v, e = .returned v ∧ Rows.rewriteLinearSpec.post enc Tryz.prog Tryz.f6 false true false false W args v W' := by
  have hW' := hW
  obtain ⟨p, q, hA0, hV, rfl, hfz, hnd⟩ := hW
  have hA : DataW.TrodAll enc Tryz.prog W 0 (fun _ => true) true Tryz.f6.params.toList args.toList ds p := hA0
  obtain ⟨rfl, rfl⟩ := trodVars_none hV
  simp only [List.append_nil] at hW' hk
  rw [Tryz.params6] at hA hval
  have hA1 := hA
  have r0 := hA
  obtain ⟨v1, vs1, d1, ds1, p1, q1, ha1, rfl, rfl, h1, r1⟩ := trodAll_cons r0
  obtain ⟨v2, vs2, d2, ds2, p2, q2, ha2, rfl, rfl, h2, r2⟩ := trodAll_cons r1
  obtain ⟨rfl, rfl, rfl⟩ := trodAll_nil r2
  obtain ⟨n1, t1⟩ := h1
  obtain ⟨n2, t2⟩ := h2
  have s1 := trod_sh 6 n1 24 _ _ (plain 24 (by simp)) t1
  have s2 := trod_sh 6 n2 41 _ _ (plain 41 (by simp)) t2
  have hall : Rows.uptoBulkAll [d1, d2] ≤ 1048576 := of_decide_eq_true hk
  simp only [Rows.uptoBulkAll] at hall
  obtain ⟨v1c, c1, e1, hc1, hsm1⟩ := sh_circuit (d := 1) s1 (by dsimp only; omega)
  obtain ⟨v2s, l2, e2, hs2, hb2, hr2⟩ := sh_wordsV (d := 4) s2
  have hl2 : l2.length ≤ 2000000 := by have h2 : l2.length ≤ Rows.uptoBulk d2 := hb2; omega
  obtain ⟨n, v, m', hrun, rfl⟩ := callO_end (linear_law hc1 hs2 hl2 hr2)
  refine (law_calls (EnvR_ok mdFlatL mdRowsL []) (ts := [24, 41]) (k := 6) (r := .any) (base := base) plain (fun j t v hj hv => hval j t v (by simpa using hj) (by simpa using hv)) hA1 (n := n) (b := true) (m' := m') ?_).mono fun e W' ⟨he, hg, hagain⟩ => ?_
  · show callF EL n (.func 6) [valD Tryz.prog 6 24 d1, valD Tryz.prog 6 41 d2] ⟨.nil, 0, 0⟩ = _
    rw [e1, e2]
    exact hrun
  subst he
  exact ⟨_, rfl, post_of_still (pv := []) hW' (fun _ _ _ => (trodAll_cons_mk (shut_bool Tryz.underlying4 _) trodAll_mk0)) (fun sp hs => hagain sp hs) (fun _ _ => rfl) (by simp) hg (ok_one (by kernel_rfl) rfl (okWide_bool_mk Tryz.underlying4 _))⟩

set_option maxRecDepth 100000 in
theorem lifted (os : Os) (started : os.Started) (H : Type) (enc : TypeId × Value → H) (F : Stop.Interp) :
    ReturnsInHanded {} Tryz.checked os 6 .any ((Rows.OpenSpec.upto Rows.rewriteLinearSpec).pre6 enc Tryz.prog Tryz.f6 Rows.rewriteLinearUptoRow.domain false) (((Rows.OpenSpec.upto Rows.rewriteLinearSpec).at F).post enc Tryz.prog Tryz.f6 false true false false) := by
  refine returnsInHanded_of_cond (C := Tryz.checked) (s := Rows.OpenSpec.upto Rows.rewriteLinearSpec) (k := Rows.uptoSmall) rfl own started (by kernel_rfl) Tryz.func6
    (OpenSpec.witness (enc := enc) (C := Tryz.checked) (s := Rows.OpenSpec.upto Rows.rewriteLinearSpec) (k := Rows.uptoSmall) rfl false ⟨#[], #[.agg #[.int .i64 0, .int .i64 0, .slice none 0 0], .slice none 0 0], []⟩ 8 (by kernel_rfl) (by kernel_rfl) (by kernel_rfl)
      (x := ([.agg [.lit (.int .i64 0), .lit (.int .i64 0), .nil], .nil], [], [])) (by kernel_rfl) rfl (by kernel_rfl)) ?_
  intro W base args ds gs before hval hW _ hk _
  exact contract H enc W base args ds gs before hval hW hk

theorem over : Rows.rewriteLinearUptoRow.holds Tryz.pinned (Rows.OpenSpec.upto Rows.rewriteLinearSpec) :=
  OpenClaim.holds_of_cond 6 Tryz.f6 rfl rfl rfl rfl rfl rfl rfl ⟨rfl, rfl, rfl, rfl, rfl⟩ rfl rfl rfl rfl rfl (by kernel_rfl) Tryz.func6 (by kernel_rfl)
    (of_decide_eq_true (by kernel_rfl)) (by unfold Func.isWrapper; first | (rw [if_pos (by decide +kernel)]; kernel_rfl) | (rw [if_neg (by decide +kernel)]; exact ⟨rfl, rfl⟩))
    (fun os started H enc _ F => lifted os started H enc F)

/-- The statement. -/
theorem proved : Rows.RewriteLinearUptoSaid :=
  over
#print axioms proved
end Go.Proofs.YtmflheoafeenfaaGreat.rewriteLinear
