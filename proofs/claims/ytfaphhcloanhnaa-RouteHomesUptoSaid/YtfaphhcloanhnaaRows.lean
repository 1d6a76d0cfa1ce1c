/-
  No cell of these rows narrows 'for every input' (looked for: loops, veiled, ifaces, maps, wideKeys, modest, calm, conditions, laid).
  DERIVED. THE GIVEN ROWS OF THIS SEAT. 5 by the template 'for every input the law returns true; each argument reads behind the call as it read before'; 0 by the template 'total and deterministic' (their statements: YtfaphhcloanhnaaTotals.lean).
  GIVEN WITH THE SEED: the statements are not yours to turn. If you find one false, say at which input.
  Laid BY PROGRAM, IN A SANDBOX (cutbox-rows.mjs): the forced cells as the released guide's own fill.sh prints them over the translation a7edf5a530bd3944… (all of the seat's roots in one cut). By AI agents, Wed Nov 11 2026. No macro, syntax, notation, axiom, sorry.
-/
import Derived.Test.YtfaphhcloanhnaaChecked
import GoSem.Claim
import GoSem.ClaimJoined
import GoSem.ClaimMapViews
import Derived.JoinedTies
import Derived.KernelRfl
namespace Go.Proofs.Ytfaphhcloanhnaa
/- THE CELL 'sum', in the pinned program and in every row, IS THE sha256 OF THE DUMP (.gsa) THAT YtfaphhcloanhnaaProg.lean LOADS. Nothing in Lean hashes anything: it is a label: what it is worth is what the hold of that sum in a sandbox is worth. -/
noncomputable def Try.pinned : Pinned := { name := "ytfaphhcloanhnaa", sum := "a7edf5a530bd39441a207176dbb4196be007082b4a516332eb61f49a19a2398c", checked := Try.checked }
namespace Rows
def none {H : Type} : Left H := { results := [], args := [] }

/-- 'phasorlaw20.RouteMaps': WHATEVER THE INPUT: true; the input reads as it did. -/
def routeMapsSpec : ChangeSpec := { name := "routeMaps", fn := fun _ => fun
  | [d1, d2, d3] => { results := [.lit (.bool true)], args := [d1, d2, d3] }
  | _ => none }
def routeMapsRow : OpenClaim := { program := "ytfaphhcloanhnaa", sum := "a7edf5a530bd39441a207176dbb4196be007082b4a516332eb61f49a19a2398c", func := "phasor/phasorlaw20.RouteMaps", spec := "routeMaps", unfollowed := true, recurses := true, apart := false }
def RouteMapsSaid : Prop := routeMapsRow.holds Try.pinned (OpenSpec.ofChange routeMapsSpec)

/-- ITS FALSE NEIGHBOUR: 'it returns false'. Refute it at one input. -/
def routeMapsWrong : ChangeSpec := { name := "routeMaps", fn := fun _ => fun
  | [d1, d2, d3] => { results := [.lit (.bool false)], args := [d1, d2, d3] }
  | _ => none }
def RouteMapsWrongFalsely : Prop := routeMapsRow.holds Try.pinned (OpenSpec.ofChange routeMapsWrong)

/-- 'phasorlaw20.RoutePaths': WHATEVER THE INPUT: true; the input reads as it did. -/
def routePathsSpec : ChangeSpec := { name := "routePaths", fn := fun _ => fun
  | [d1, d2, d3] => { results := [.lit (.bool true)], args := [d1, d2, d3] }
  | _ => none }
def routePathsRow : OpenClaim := { program := "ytfaphhcloanhnaa", sum := "a7edf5a530bd39441a207176dbb4196be007082b4a516332eb61f49a19a2398c", func := "phasor/phasorlaw20.RoutePaths", spec := "routePaths", unfollowed := true, recurses := true, apart := false }
def RoutePathsSaid : Prop := routePathsRow.holds Try.pinned (OpenSpec.ofChange routePathsSpec)

/-- ITS FALSE NEIGHBOUR: 'it returns false'. Refute it at one input. -/
def routePathsWrong : ChangeSpec := { name := "routePaths", fn := fun _ => fun
  | [d1, d2, d3] => { results := [.lit (.bool false)], args := [d1, d2, d3] }
  | _ => none }
def RoutePathsWrongFalsely : Prop := routePathsRow.holds Try.pinned (OpenSpec.ofChange routePathsWrong)

/-- 'phasorlaw20.RouteMetric': WHATEVER THE INPUT: true; the input reads as it did. -/
def routeMetricSpec : ChangeSpec := { name := "routeMetric", fn := fun _ => fun
  | [d1, d2, d3, d4] => { results := [.lit (.bool true)], args := [d1, d2, d3, d4] }
  | _ => none }
def routeMetricRow : OpenClaim := { program := "ytfaphhcloanhnaa", sum := "a7edf5a530bd39441a207176dbb4196be007082b4a516332eb61f49a19a2398c", func := "phasor/phasorlaw20.RouteMetric", spec := "routeMetric", unfollowed := true, recurses := true, apart := false }
def RouteMetricSaid : Prop := routeMetricRow.holds Try.pinned (OpenSpec.ofChange routeMetricSpec)

/-- ITS FALSE NEIGHBOUR: 'it returns false'. Refute it at one input. -/
def routeMetricWrong : ChangeSpec := { name := "routeMetric", fn := fun _ => fun
  | [d1, d2, d3, d4] => { results := [.lit (.bool false)], args := [d1, d2, d3, d4] }
  | _ => none }
def RouteMetricWrongFalsely : Prop := routeMetricRow.holds Try.pinned (OpenSpec.ofChange routeMetricWrong)

/-- 'phasorlaw20.RouteLays': WHATEVER THE INPUT: true; the input reads as it did. -/
def routeLaysSpec : ChangeSpec := { name := "routeLays", fn := fun _ => fun
  | [d1, d2] => { results := [.lit (.bool true)], args := [d1, d2] }
  | _ => none }
def routeLaysRow : OpenClaim := { program := "ytfaphhcloanhnaa", sum := "a7edf5a530bd39441a207176dbb4196be007082b4a516332eb61f49a19a2398c", func := "phasor/phasorlaw20.RouteLays", spec := "routeLays", unfollowed := true, recurses := true, apart := false }
def RouteLaysSaid : Prop := routeLaysRow.holds Try.pinned (OpenSpec.ofChange routeLaysSpec)

/-- ITS FALSE NEIGHBOUR: 'it returns false'. Refute it at one input. -/
def routeLaysWrong : ChangeSpec := { name := "routeLays", fn := fun _ => fun
  | [d1, d2] => { results := [.lit (.bool false)], args := [d1, d2] }
  | _ => none }
def RouteLaysWrongFalsely : Prop := routeLaysRow.holds Try.pinned (OpenSpec.ofChange routeLaysWrong)

/-- 'phasorlaw20.RouteHomes': WHATEVER THE INPUT: true; the input reads as it did. -/
def routeHomesSpec : ChangeSpec := { name := "routeHomes", fn := fun _ => fun
  | [d1, d2] => { results := [.lit (.bool true)], args := [d1, d2] }
  | _ => none }
def routeHomesRow : OpenClaim := { program := "ytfaphhcloanhnaa", sum := "a7edf5a530bd39441a207176dbb4196be007082b4a516332eb61f49a19a2398c", func := "phasor/phasorlaw20.RouteHomes", spec := "routeHomes", unfollowed := true, recurses := true, apart := false }
def RouteHomesSaid : Prop := routeHomesRow.holds Try.pinned (OpenSpec.ofChange routeHomesSpec)

/-- ITS FALSE NEIGHBOUR: 'it returns false'. Refute it at one input. -/
def routeHomesWrong : ChangeSpec := { name := "routeHomes", fn := fun _ => fun
  | [d1, d2] => { results := [.lit (.bool false)], args := [d1, d2] }
  | _ => none }
def RouteHomesWrongFalsely : Prop := routeHomesRow.holds Try.pinned (OpenSpec.ofChange routeHomesWrong)

/- THE SECOND FORM. 'bulk': how many values and letters a reading holds, each counted each time it is reached (what is shared counts as often as it is met; a slice's spare places count too). A statement '..UptoSaid' is the law's where the arguments, and the package variables that the reading takes, are together of bulk at most 1048576: NARROWER than '..Said'. Prove '..Said' where nothing that the law and all that it calls make is longer than what came in: it says more and counts as full. Else prove '..UptoSaid'. A law counts once. -/
mutual
def uptoBulk {H : Type} : DataW H → Nat
  | .lit (.string bytes) => bytes.length + 1
  | .lit _ => 1
  | .nil => 1
  | .ptr d => uptoBulk d + 1
  | .slice elems spare => uptoBulkAll elems + uptoBulkAll spare + 1
  | .agg parts => uptoBulkAll parts + 1
  | .iface _ d => uptoBulk d + 1
  | .map entries => uptoBulkEntries entries + 1
  | .held _ => 1
def uptoBulkAll {H : Type} : List (DataW H) → Nat
  | [] => 0
  | d :: r => uptoBulk d + uptoBulkAll r
def uptoBulkEntries {H : Type} : List (Lit × DataW H) → Nat
  | [] => 0
  | x :: r => uptoBulkEntry x + uptoBulkEntries r
def uptoBulkEntry {H : Type} : Lit × DataW H → Nat
  | (.string bytes, d) => bytes.length + uptoBulk d + 1
  | (_, d) => uptoBulk d + 1
 end
def uptoSmall : (H : Type) → List (DataW H) → Bool := fun _ ds => decide (uptoBulkAll ds ≤ 1048576)
def OpenSpec.upto (s : _root_.Go.ChangeSpec) : _root_.Go.OpenSpec := { _root_.Go.OpenSpec.ofChange s with cond := some uptoSmall }

/-- 'phasorlaw20.RouteMaps', WHERE WHAT IT READS IS OF BULK AT MOST 1048576: true; the input reads as it did. -/
def routeMapsUptoRow : OpenClaim := { program := "ytfaphhcloanhnaa", sum := "a7edf5a530bd39441a207176dbb4196be007082b4a516332eb61f49a19a2398c", func := "phasor/phasorlaw20.RouteMaps", spec := "routeMaps", unfollowed := true, recurses := true, apart := false, narrowed := true }
def RouteMapsUptoSaid : Prop := routeMapsUptoRow.holds Try.pinned (OpenSpec.upto routeMapsSpec)

/-- 'phasorlaw20.RoutePaths', WHERE WHAT IT READS IS OF BULK AT MOST 1048576: true; the input reads as it did. -/
def routePathsUptoRow : OpenClaim := { program := "ytfaphhcloanhnaa", sum := "a7edf5a530bd39441a207176dbb4196be007082b4a516332eb61f49a19a2398c", func := "phasor/phasorlaw20.RoutePaths", spec := "routePaths", unfollowed := true, recurses := true, apart := false, narrowed := true }
def RoutePathsUptoSaid : Prop := routePathsUptoRow.holds Try.pinned (OpenSpec.upto routePathsSpec)

/-- 'phasorlaw20.RouteMetric', WHERE WHAT IT READS IS OF BULK AT MOST 1048576: true; the input reads as it did. -/
def routeMetricUptoRow : OpenClaim := { program := "ytfaphhcloanhnaa", sum := "a7edf5a530bd39441a207176dbb4196be007082b4a516332eb61f49a19a2398c", func := "phasor/phasorlaw20.RouteMetric", spec := "routeMetric", unfollowed := true, recurses := true, apart := false, narrowed := true }
def RouteMetricUptoSaid : Prop := routeMetricUptoRow.holds Try.pinned (OpenSpec.upto routeMetricSpec)

/-- 'phasorlaw20.RouteLays', WHERE WHAT IT READS IS OF BULK AT MOST 1048576: true; the input reads as it did. -/
def routeLaysUptoRow : OpenClaim := { program := "ytfaphhcloanhnaa", sum := "a7edf5a530bd39441a207176dbb4196be007082b4a516332eb61f49a19a2398c", func := "phasor/phasorlaw20.RouteLays", spec := "routeLays", unfollowed := true, recurses := true, apart := false, narrowed := true }
def RouteLaysUptoSaid : Prop := routeLaysUptoRow.holds Try.pinned (OpenSpec.upto routeLaysSpec)

/-- 'phasorlaw20.RouteHomes', WHERE WHAT IT READS IS OF BULK AT MOST 1048576: true; the input reads as it did. -/
def routeHomesUptoRow : OpenClaim := { program := "ytfaphhcloanhnaa", sum := "a7edf5a530bd39441a207176dbb4196be007082b4a516332eb61f49a19a2398c", func := "phasor/phasorlaw20.RouteHomes", spec := "routeHomes", unfollowed := true, recurses := true, apart := false, narrowed := true }
def RouteHomesUptoSaid : Prop := routeHomesUptoRow.holds Try.pinned (OpenSpec.upto routeHomesSpec)

end Rows
end Go.Proofs.Ytfaphhcloanhnaa
