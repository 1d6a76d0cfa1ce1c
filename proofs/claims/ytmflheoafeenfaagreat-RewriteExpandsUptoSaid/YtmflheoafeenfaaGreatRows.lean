/-
  No cell of these rows narrows 'for every input' (looked for: loops, veiled, ifaces, maps, wideKeys, modest, calm, conditions, laid).
  DERIVED. THE GIVEN ROWS OF THIS SEAT. 5 by the template 'for every input the law returns true; each argument reads behind the call as it read before'; 0 by the template 'total and deterministic' (their statements: YtmflheoafeenfaaGreatTotals.lean).
  GIVEN WITH THE SEED: the statements are not yours to turn. If you find one false, say at which input.
  Laid BY PROGRAM, IN A SANDBOX (cutbox-rows.mjs): the forced cells as the released guide's own fill.sh prints them over the translation 76b01b9e98d85068… (all of the seat's roots in one cut). By AI agents, Wed Nov 11 2026. No macro, syntax, notation, axiom, sorry.
-/
import Derived.Test.YtmflheoafeenfaaGreatChecked
import GoSem.Claim
import GoSem.ClaimJoined
import GoSem.ClaimMapViews
import Derived.JoinedTies
import Derived.KernelRfl
namespace Go.Proofs.YtmflheoafeenfaaGreat
/- THE CELL 'sum', in the pinned program and in every row, IS THE sha256 OF THE DUMP (.gsa) THAT YtmflheoafeenfaaGreatProg.lean LOADS. Nothing in Lean hashes anything: it is a label: what it is worth is what the hold of that sum in a sandbox is worth. -/
noncomputable def Tryz.pinned : Pinned := { name := "ytmflheoafeenfaagreat", sum := "76b01b9e98d85068179cebbd689737fc780aa2219a74e77abb0b98666444ed1a", checked := Tryz.checked }
namespace Rows
def none {H : Type} : Left H := { results := [], args := [] }

/-- 'phasorlaw18.RewriteRules': WHATEVER THE INPUT: true; the input reads as it did. -/
def rewriteRulesSpec : ChangeSpec := { name := "rewriteRules", fn := fun _ => fun
  | [d] => { results := [.lit (.bool true)], args := [d] }
  | _ => none }
def rewriteRulesRow : OpenClaim := { program := "ytmflheoafeenfaagreat", sum := "76b01b9e98d85068179cebbd689737fc780aa2219a74e77abb0b98666444ed1a", func := "phasor/phasorlaw18.RewriteRules", spec := "rewriteRules", unfollowed := true, recurses := true, apart := false }
def RewriteRulesSaid : Prop := rewriteRulesRow.holds Tryz.pinned (OpenSpec.ofChange rewriteRulesSpec)

/-- ITS FALSE NEIGHBOUR: 'it returns false'. Refute it at one input. -/
def rewriteRulesWrong : ChangeSpec := { name := "rewriteRules", fn := fun _ => fun
  | [d] => { results := [.lit (.bool false)], args := [d] }
  | _ => none }
def RewriteRulesWrongFalsely : Prop := rewriteRulesRow.holds Tryz.pinned (OpenSpec.ofChange rewriteRulesWrong)

/-- 'phasorlaw18.RewriteOrders': WHATEVER THE INPUT: true; the input reads as it did. -/
def rewriteOrdersSpec : ChangeSpec := { name := "rewriteOrders", fn := fun _ => fun
  | [d1, d2] => { results := [.lit (.bool true)], args := [d1, d2] }
  | _ => none }
def rewriteOrdersRow : OpenClaim := { program := "ytmflheoafeenfaagreat", sum := "76b01b9e98d85068179cebbd689737fc780aa2219a74e77abb0b98666444ed1a", func := "phasor/phasorlaw18.RewriteOrders", spec := "rewriteOrders", unfollowed := true, recurses := true, apart := false }
def RewriteOrdersSaid : Prop := rewriteOrdersRow.holds Tryz.pinned (OpenSpec.ofChange rewriteOrdersSpec)

/-- ITS FALSE NEIGHBOUR: 'it returns false'. Refute it at one input. -/
def rewriteOrdersWrong : ChangeSpec := { name := "rewriteOrders", fn := fun _ => fun
  | [d1, d2] => { results := [.lit (.bool false)], args := [d1, d2] }
  | _ => none }
def RewriteOrdersWrongFalsely : Prop := rewriteOrdersRow.holds Tryz.pinned (OpenSpec.ofChange rewriteOrdersWrong)

/-- 'phasorlaw18.RewriteExpands': WHATEVER THE INPUT: true; the input reads as it did. -/
def rewriteExpandsSpec : ChangeSpec := { name := "rewriteExpands", fn := fun _ => fun
  | [d] => { results := [.lit (.bool true)], args := [d] }
  | _ => none }
def rewriteExpandsRow : OpenClaim := { program := "ytmflheoafeenfaagreat", sum := "76b01b9e98d85068179cebbd689737fc780aa2219a74e77abb0b98666444ed1a", func := "phasor/phasorlaw18.RewriteExpands", spec := "rewriteExpands", unfollowed := true, recurses := true, apart := false }
def RewriteExpandsSaid : Prop := rewriteExpandsRow.holds Tryz.pinned (OpenSpec.ofChange rewriteExpandsSpec)

/-- ITS FALSE NEIGHBOUR: 'it returns false'. Refute it at one input. -/
def rewriteExpandsWrong : ChangeSpec := { name := "rewriteExpands", fn := fun _ => fun
  | [d] => { results := [.lit (.bool false)], args := [d] }
  | _ => none }
def RewriteExpandsWrongFalsely : Prop := rewriteExpandsRow.holds Tryz.pinned (OpenSpec.ofChange rewriteExpandsWrong)

/-- 'phasorlaw18.RewriteLinear': WHATEVER THE INPUT: true; the input reads as it did. -/
def rewriteLinearSpec : ChangeSpec := { name := "rewriteLinear", fn := fun _ => fun
  | [d1, d2] => { results := [.lit (.bool true)], args := [d1, d2] }
  | _ => none }
def rewriteLinearRow : OpenClaim := { program := "ytmflheoafeenfaagreat", sum := "76b01b9e98d85068179cebbd689737fc780aa2219a74e77abb0b98666444ed1a", func := "phasor/phasorlaw18.RewriteLinear", spec := "rewriteLinear", unfollowed := true, recurses := true, apart := false }
def RewriteLinearSaid : Prop := rewriteLinearRow.holds Tryz.pinned (OpenSpec.ofChange rewriteLinearSpec)

/-- ITS FALSE NEIGHBOUR: 'it returns false'. Refute it at one input. -/
def rewriteLinearWrong : ChangeSpec := { name := "rewriteLinear", fn := fun _ => fun
  | [d1, d2] => { results := [.lit (.bool false)], args := [d1, d2] }
  | _ => none }
def RewriteLinearWrongFalsely : Prop := rewriteLinearRow.holds Tryz.pinned (OpenSpec.ofChange rewriteLinearWrong)

/-- 'phasorlaw18.RewriteSlides': WHATEVER THE INPUT: true; the input reads as it did. -/
def rewriteSlidesSpec : ChangeSpec := { name := "rewriteSlides", fn := fun _ => fun
  | [d] => { results := [.lit (.bool true)], args := [d] }
  | _ => none }
def rewriteSlidesRow : OpenClaim := { program := "ytmflheoafeenfaagreat", sum := "76b01b9e98d85068179cebbd689737fc780aa2219a74e77abb0b98666444ed1a", func := "phasor/phasorlaw18.RewriteSlides", spec := "rewriteSlides", unfollowed := true, recurses := true, apart := false }
def RewriteSlidesSaid : Prop := rewriteSlidesRow.holds Tryz.pinned (OpenSpec.ofChange rewriteSlidesSpec)

/-- ITS FALSE NEIGHBOUR: 'it returns false'. Refute it at one input. -/
def rewriteSlidesWrong : ChangeSpec := { name := "rewriteSlides", fn := fun _ => fun
  | [d] => { results := [.lit (.bool false)], args := [d] }
  | _ => none }
def RewriteSlidesWrongFalsely : Prop := rewriteSlidesRow.holds Tryz.pinned (OpenSpec.ofChange rewriteSlidesWrong)

/- THE SECOND FORM. 'bulk': how many values and letters a reading holds, each counted each time it is reached (what is shared counts as often as it is met; a slice's spare places count too). A statement '..UptoSaid' is the law's where the arguments, and the package variables that the reading takes, are together of bulk at most 1048576: NARROWER than '..Said'. Prove '..Said' where nothing that the law and all that it calls make is longer than what came in: it says more and counts as full. Else prove '..UptoSaid'. A law counts once. -/
mutual
def uptoBulk {H : Type} : DataW H → Nat
  | .lit (.string bytes) => bytes.length + 1
  | .lit _ => 1
  | .nil => 1
  | .ptr d => uptoBulk d + 1
  | .slice elems spare => uptoBulkAll elems + uptoBulkAll spare + 1
  | .agg parts => uptoBulkAll parts + 1
  | .iface _ d => uptoBulk d + 1
  | .map entries => uptoBulkEntries entries + 1
  | .held _ => 1
def uptoBulkAll {H : Type} : List (DataW H) → Nat
  | [] => 0
  | d :: r => uptoBulk d + uptoBulkAll r
def uptoBulkEntries {H : Type} : List (Lit × DataW H) → Nat
  | [] => 0
  | x :: r => uptoBulkEntry x + uptoBulkEntries r
def uptoBulkEntry {H : Type} : Lit × DataW H → Nat
  | (.string bytes, d) => bytes.length + uptoBulk d + 1
  | (_, d) => uptoBulk d + 1
 end
def uptoSmall : (H : Type) → List (DataW H) → Bool := fun _ ds => decide (uptoBulkAll ds ≤ 1048576)
def OpenSpec.upto (s : _root_.Go.ChangeSpec) : _root_.Go.OpenSpec := { _root_.Go.OpenSpec.ofChange s with cond := some uptoSmall }

/-- 'phasorlaw18.RewriteRules', WHERE WHAT IT READS IS OF BULK AT MOST 1048576: true; the input reads as it did. -/
def rewriteRulesUptoRow : OpenClaim := { program := "ytmflheoafeenfaagreat", sum := "76b01b9e98d85068179cebbd689737fc780aa2219a74e77abb0b98666444ed1a", func := "phasor/phasorlaw18.RewriteRules", spec := "rewriteRules", unfollowed := true, recurses := true, apart := false, narrowed := true }
def RewriteRulesUptoSaid : Prop := rewriteRulesUptoRow.holds Tryz.pinned (OpenSpec.upto rewriteRulesSpec)

/-- 'phasorlaw18.RewriteOrders', WHERE WHAT IT READS IS OF BULK AT MOST 1048576: true; the input reads as it did. -/
def rewriteOrdersUptoRow : OpenClaim := { program := "ytmflheoafeenfaagreat", sum := "76b01b9e98d85068179cebbd689737fc780aa2219a74e77abb0b98666444ed1a", func := "phasor/phasorlaw18.RewriteOrders", spec := "rewriteOrders", unfollowed := true, recurses := true, apart := false, narrowed := true }
def RewriteOrdersUptoSaid : Prop := rewriteOrdersUptoRow.holds Tryz.pinned (OpenSpec.upto rewriteOrdersSpec)

/-- 'phasorlaw18.RewriteExpands', WHERE WHAT IT READS IS OF BULK AT MOST 1048576: true; the input reads as it did. -/
def rewriteExpandsUptoRow : OpenClaim := { program := "ytmflheoafeenfaagreat", sum := "76b01b9e98d85068179cebbd689737fc780aa2219a74e77abb0b98666444ed1a", func := "phasor/phasorlaw18.RewriteExpands", spec := "rewriteExpands", unfollowed := true, recurses := true, apart := false, narrowed := true }
def RewriteExpandsUptoSaid : Prop := rewriteExpandsUptoRow.holds Tryz.pinned (OpenSpec.upto rewriteExpandsSpec)

/-- 'phasorlaw18.RewriteLinear', WHERE WHAT IT READS IS OF BULK AT MOST 1048576: true; the input reads as it did. -/
def rewriteLinearUptoRow : OpenClaim := { program := "ytmflheoafeenfaagreat", sum := "76b01b9e98d85068179cebbd689737fc780aa2219a74e77abb0b98666444ed1a", func := "phasor/phasorlaw18.RewriteLinear", spec := "rewriteLinear", unfollowed := true, recurses := true, apart := false, narrowed := true }
def RewriteLinearUptoSaid : Prop := rewriteLinearUptoRow.holds Tryz.pinned (OpenSpec.upto rewriteLinearSpec)

/-- 'phasorlaw18.RewriteSlides', WHERE WHAT IT READS IS OF BULK AT MOST 1048576: true; the input reads as it did. -/
def rewriteSlidesUptoRow : OpenClaim := { program := "ytmflheoafeenfaagreat", sum := "76b01b9e98d85068179cebbd689737fc780aa2219a74e77abb0b98666444ed1a", func := "phasor/phasorlaw18.RewriteSlides", spec := "rewriteSlides", unfollowed := true, recurses := true, apart := false, narrowed := true }
def RewriteSlidesUptoSaid : Prop := rewriteSlidesUptoRow.holds Tryz.pinned (OpenSpec.upto rewriteSlidesSpec)

end Rows
end Go.Proofs.YtmflheoafeenfaaGreat
