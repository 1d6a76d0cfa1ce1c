/-
  No cell of these rows narrows 'for every input' (looked for: loops, veiled, ifaces, maps, wideKeys, modest, calm, conditions, laid).
  DERIVED. THE GIVEN ROWS OF THIS SEAT. 7 by the template 'for every input the law returns true; each argument reads behind the call as it read before'; 0 by the template 'total and deterministic' (their statements: YtpjddmkaabjhjaaTotals.lean).
  GIVEN WITH THE SEED: the statements are not yours to turn. If you find one false, say at which input.
  Laid BY PROGRAM, IN A SANDBOX (cutbox-rows.mjs): the forced cells as the released guide's own fill.sh prints them over the translation f3f8498b40791ffc… (all of the seat's roots in one cut). By AI agents, Wed Nov 11 2026. No macro, syntax, notation, axiom, sorry.
-/
import Derived.Test.YtpjddmkaabjhjaaChecked
import GoSem.Claim
import GoSem.ClaimJoined
import GoSem.ClaimMapViews
import Derived.JoinedTies
import Derived.KernelRfl
namespace Go.Proofs.Ytpjddmkaabjhjaa
/- THE CELL 'sum', in the pinned program and in every row, IS THE sha256 OF THE DUMP (.gsa) THAT YtpjddmkaabjhjaaProg.lean LOADS. Nothing in Lean hashes anything: it is a label: what it is worth is what the hold of that sum in a sandbox is worth. -/
noncomputable def Try.pinned : Pinned := { name := "ytpjddmkaabjhjaa", sum := "f3f8498b40791ffc372f19dd3a4043ec4a36b740ec7bc7f406771137fadd24be", checked := Try.checked }
namespace Rows
def none {H : Type} : Left H := { results := [], args := [] }

/-- 'phasorlaw04.TokenNames': WHATEVER THE INPUT: true; the input reads as it did. -/
def tokenNamesSpec : ChangeSpec := { name := "tokenNames", fn := fun _ => fun
  | [] => { results := [.lit (.bool true)], args := [] }
  | _ => none }
def tokenNamesRow : OpenClaim := { program := "ytpjddmkaabjhjaa", sum := "f3f8498b40791ffc372f19dd3a4043ec4a36b740ec7bc7f406771137fadd24be", func := "phasor/phasorlaw04.TokenNames", spec := "tokenNames", apart := false }
def TokenNamesSaid : Prop := tokenNamesRow.holds Try.pinned (OpenSpec.ofChange tokenNamesSpec)

/-- ITS FALSE NEIGHBOUR: 'it returns false'. Refute it at one input. -/
def tokenNamesWrong : ChangeSpec := { name := "tokenNames", fn := fun _ => fun
  | [] => { results := [.lit (.bool false)], args := [] }
  | _ => none }
def TokenNamesWrongFalsely : Prop := tokenNamesRow.holds Try.pinned (OpenSpec.ofChange tokenNamesWrong)

/-- 'phasorlaw08.CircuitNames': WHATEVER THE INPUT: true; the input reads as it did. -/
def circuitNamesSpec : ChangeSpec := { name := "circuitNames", fn := fun _ => fun
  | [] => { results := [.lit (.bool true)], args := [] }
  | _ => none }
def circuitNamesRow : OpenClaim := { program := "ytpjddmkaabjhjaa", sum := "f3f8498b40791ffc372f19dd3a4043ec4a36b740ec7bc7f406771137fadd24be", func := "phasor/phasorlaw08.CircuitNames", spec := "circuitNames", apart := false }
def CircuitNamesSaid : Prop := circuitNamesRow.holds Try.pinned (OpenSpec.ofChange circuitNamesSpec)

/-- ITS FALSE NEIGHBOUR: 'it returns false'. Refute it at one input. -/
def circuitNamesWrong : ChangeSpec := { name := "circuitNames", fn := fun _ => fun
  | [] => { results := [.lit (.bool false)], args := [] }
  | _ => none }
def CircuitNamesWrongFalsely : Prop := circuitNamesRow.holds Try.pinned (OpenSpec.ofChange circuitNamesWrong)

/-- 'phasorlaw30.ConsoleNames': WHATEVER THE INPUT: true; the input reads as it did. -/
def consoleNamesSpec : ChangeSpec := { name := "consoleNames", fn := fun _ => fun
  | [] => { results := [.lit (.bool true)], args := [] }
  | _ => none }
def consoleNamesRow : OpenClaim := { program := "ytpjddmkaabjhjaa", sum := "f3f8498b40791ffc372f19dd3a4043ec4a36b740ec7bc7f406771137fadd24be", func := "phasor/phasorlaw30.ConsoleNames", spec := "consoleNames", apart := false }
def ConsoleNamesSaid : Prop := consoleNamesRow.holds Try.pinned (OpenSpec.ofChange consoleNamesSpec)

/-- ITS FALSE NEIGHBOUR: 'it returns false'. Refute it at one input. -/
def consoleNamesWrong : ChangeSpec := { name := "consoleNames", fn := fun _ => fun
  | [] => { results := [.lit (.bool false)], args := [] }
  | _ => none }
def ConsoleNamesWrongFalsely : Prop := consoleNamesRow.holds Try.pinned (OpenSpec.ofChange consoleNamesWrong)

/-- 'phasorlaw12.RunNames': WHATEVER THE INPUT: true; the input reads as it did. -/
def runNamesSpec : ChangeSpec := { name := "runNames", fn := fun _ => fun
  | [] => { results := [.lit (.bool true)], args := [] }
  | _ => none }
def runNamesRow : OpenClaim := { program := "ytpjddmkaabjhjaa", sum := "f3f8498b40791ffc372f19dd3a4043ec4a36b740ec7bc7f406771137fadd24be", func := "phasor/phasorlaw12.RunNames", spec := "runNames", apart := false }
def RunNamesSaid : Prop := runNamesRow.holds Try.pinned (OpenSpec.ofChange runNamesSpec)

/-- ITS FALSE NEIGHBOUR: 'it returns false'. Refute it at one input. -/
def runNamesWrong : ChangeSpec := { name := "runNames", fn := fun _ => fun
  | [] => { results := [.lit (.bool false)], args := [] }
  | _ => none }
def RunNamesWrongFalsely : Prop := runNamesRow.holds Try.pinned (OpenSpec.ofChange runNamesWrong)

/-- 'phasorlaw20.RouteNames': WHATEVER THE INPUT: true; the input reads as it did. -/
def routeNamesSpec : ChangeSpec := { name := "routeNames", fn := fun _ => fun
  | [] => { results := [.lit (.bool true)], args := [] }
  | _ => none }
def routeNamesRow : OpenClaim := { program := "ytpjddmkaabjhjaa", sum := "f3f8498b40791ffc372f19dd3a4043ec4a36b740ec7bc7f406771137fadd24be", func := "phasor/phasorlaw20.RouteNames", spec := "routeNames", apart := false }
def RouteNamesSaid : Prop := routeNamesRow.holds Try.pinned (OpenSpec.ofChange routeNamesSpec)

/-- ITS FALSE NEIGHBOUR: 'it returns false'. Refute it at one input. -/
def routeNamesWrong : ChangeSpec := { name := "routeNames", fn := fun _ => fun
  | [] => { results := [.lit (.bool false)], args := [] }
  | _ => none }
def RouteNamesWrongFalsely : Prop := routeNamesRow.holds Try.pinned (OpenSpec.ofChange routeNamesWrong)

/-- 'phasorlaw16.FuseNames': WHATEVER THE INPUT: true; the input reads as it did. -/
def fuseNamesSpec : ChangeSpec := { name := "fuseNames", fn := fun _ => fun
  | [] => { results := [.lit (.bool true)], args := [] }
  | _ => none }
def fuseNamesRow : OpenClaim := { program := "ytpjddmkaabjhjaa", sum := "f3f8498b40791ffc372f19dd3a4043ec4a36b740ec7bc7f406771137fadd24be", func := "phasor/phasorlaw16.FuseNames", spec := "fuseNames", apart := false }
def FuseNamesSaid : Prop := fuseNamesRow.holds Try.pinned (OpenSpec.ofChange fuseNamesSpec)

/-- ITS FALSE NEIGHBOUR: 'it returns false'. Refute it at one input. -/
def fuseNamesWrong : ChangeSpec := { name := "fuseNames", fn := fun _ => fun
  | [] => { results := [.lit (.bool false)], args := [] }
  | _ => none }
def FuseNamesWrongFalsely : Prop := fuseNamesRow.holds Try.pinned (OpenSpec.ofChange fuseNamesWrong)

/-- 'phasorlaw18.RewriteNames': WHATEVER THE INPUT: true; the input reads as it did. -/
def rewriteNamesSpec : ChangeSpec := { name := "rewriteNames", fn := fun _ => fun
  | [] => { results := [.lit (.bool true)], args := [] }
  | _ => none }
def rewriteNamesRow : OpenClaim := { program := "ytpjddmkaabjhjaa", sum := "f3f8498b40791ffc372f19dd3a4043ec4a36b740ec7bc7f406771137fadd24be", func := "phasor/phasorlaw18.RewriteNames", spec := "rewriteNames", apart := false }
def RewriteNamesSaid : Prop := rewriteNamesRow.holds Try.pinned (OpenSpec.ofChange rewriteNamesSpec)

/-- ITS FALSE NEIGHBOUR: 'it returns false'. Refute it at one input. -/
def rewriteNamesWrong : ChangeSpec := { name := "rewriteNames", fn := fun _ => fun
  | [] => { results := [.lit (.bool false)], args := [] }
  | _ => none }
def RewriteNamesWrongFalsely : Prop := rewriteNamesRow.holds Try.pinned (OpenSpec.ofChange rewriteNamesWrong)

/- THE SECOND FORM. 'bulk': how many values and letters a reading holds, each counted each time it is reached (what is shared counts as often as it is met; a slice's spare places count too). A statement '..UptoSaid' is the law's where the arguments, and the package variables that the reading takes, are together of bulk at most 1048576: NARROWER than '..Said'. Prove '..Said' where nothing that the law and all that it calls make is longer than what came in: it says more and counts as full. Else prove '..UptoSaid'. A law counts once. -/
mutual
def uptoBulk {H : Type} : DataW H → Nat
  | .lit (.string bytes) => bytes.length + 1
  | .lit _ => 1
  | .nil => 1
  | .ptr d => uptoBulk d + 1
  | .slice elems spare => uptoBulkAll elems + uptoBulkAll spare + 1
  | .agg parts => uptoBulkAll parts + 1
  | .iface _ d => uptoBulk d + 1
  | .map entries => uptoBulkEntries entries + 1
  | .held _ => 1
def uptoBulkAll {H : Type} : List (DataW H) → Nat
  | [] => 0
  | d :: r => uptoBulk d + uptoBulkAll r
def uptoBulkEntries {H : Type} : List (Lit × DataW H) → Nat
  | [] => 0
  | x :: r => uptoBulkEntry x + uptoBulkEntries r
def uptoBulkEntry {H : Type} : Lit × DataW H → Nat
  | (.string bytes, d) => bytes.length + uptoBulk d + 1
  | (_, d) => uptoBulk d + 1
 end
def uptoSmall : (H : Type) → List (DataW H) → Bool := fun _ ds => decide (uptoBulkAll ds ≤ 1048576)
def OpenSpec.upto (s : _root_.Go.ChangeSpec) : _root_.Go.OpenSpec := { _root_.Go.OpenSpec.ofChange s with cond := some uptoSmall }

/-- 'phasorlaw04.TokenNames', WHERE WHAT IT READS IS OF BULK AT MOST 1048576: true; the input reads as it did. -/
def tokenNamesUptoRow : OpenClaim := { program := "ytpjddmkaabjhjaa", sum := "f3f8498b40791ffc372f19dd3a4043ec4a36b740ec7bc7f406771137fadd24be", func := "phasor/phasorlaw04.TokenNames", spec := "tokenNames", apart := false, narrowed := true }
def TokenNamesUptoSaid : Prop := tokenNamesUptoRow.holds Try.pinned (OpenSpec.upto tokenNamesSpec)

/-- 'phasorlaw08.CircuitNames', WHERE WHAT IT READS IS OF BULK AT MOST 1048576: true; the input reads as it did. -/
def circuitNamesUptoRow : OpenClaim := { program := "ytpjddmkaabjhjaa", sum := "f3f8498b40791ffc372f19dd3a4043ec4a36b740ec7bc7f406771137fadd24be", func := "phasor/phasorlaw08.CircuitNames", spec := "circuitNames", apart := false, narrowed := true }
def CircuitNamesUptoSaid : Prop := circuitNamesUptoRow.holds Try.pinned (OpenSpec.upto circuitNamesSpec)

/-- 'phasorlaw30.ConsoleNames', WHERE WHAT IT READS IS OF BULK AT MOST 1048576: true; the input reads as it did. -/
def consoleNamesUptoRow : OpenClaim := { program := "ytpjddmkaabjhjaa", sum := "f3f8498b40791ffc372f19dd3a4043ec4a36b740ec7bc7f406771137fadd24be", func := "phasor/phasorlaw30.ConsoleNames", spec := "consoleNames", apart := false, narrowed := true }
def ConsoleNamesUptoSaid : Prop := consoleNamesUptoRow.holds Try.pinned (OpenSpec.upto consoleNamesSpec)

/-- 'phasorlaw12.RunNames', WHERE WHAT IT READS IS OF BULK AT MOST 1048576: true; the input reads as it did. -/
def runNamesUptoRow : OpenClaim := { program := "ytpjddmkaabjhjaa", sum := "f3f8498b40791ffc372f19dd3a4043ec4a36b740ec7bc7f406771137fadd24be", func := "phasor/phasorlaw12.RunNames", spec := "runNames", apart := false, narrowed := true }
def RunNamesUptoSaid : Prop := runNamesUptoRow.holds Try.pinned (OpenSpec.upto runNamesSpec)

/-- 'phasorlaw20.RouteNames', WHERE WHAT IT READS IS OF BULK AT MOST 1048576: true; the input reads as it did. -/
def routeNamesUptoRow : OpenClaim := { program := "ytpjddmkaabjhjaa", sum := "f3f8498b40791ffc372f19dd3a4043ec4a36b740ec7bc7f406771137fadd24be", func := "phasor/phasorlaw20.RouteNames", spec := "routeNames", apart := false, narrowed := true }
def RouteNamesUptoSaid : Prop := routeNamesUptoRow.holds Try.pinned (OpenSpec.upto routeNamesSpec)

/-- 'phasorlaw16.FuseNames', WHERE WHAT IT READS IS OF BULK AT MOST 1048576: true; the input reads as it did. -/
def fuseNamesUptoRow : OpenClaim := { program := "ytpjddmkaabjhjaa", sum := "f3f8498b40791ffc372f19dd3a4043ec4a36b740ec7bc7f406771137fadd24be", func := "phasor/phasorlaw16.FuseNames", spec := "fuseNames", apart := false, narrowed := true }
def FuseNamesUptoSaid : Prop := fuseNamesUptoRow.holds Try.pinned (OpenSpec.upto fuseNamesSpec)

/-- 'phasorlaw18.RewriteNames', WHERE WHAT IT READS IS OF BULK AT MOST 1048576: true; the input reads as it did. -/
def rewriteNamesUptoRow : OpenClaim := { program := "ytpjddmkaabjhjaa", sum := "f3f8498b40791ffc372f19dd3a4043ec4a36b740ec7bc7f406771137fadd24be", func := "phasor/phasorlaw18.RewriteNames", spec := "rewriteNames", apart := false, narrowed := true }
def RewriteNamesUptoSaid : Prop := rewriteNamesUptoRow.holds Try.pinned (OpenSpec.upto rewriteNamesSpec)

end Rows
end Go.Proofs.Ytpjddmkaabjhjaa
