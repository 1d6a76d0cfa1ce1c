/- Parts of the proof, joined by program: RwV3. -/
import Derived.Test.YtmflheoafeenfaaGreatPa28
set_option linter.unusedSimpArgs false
set_option linter.unusedVariables false
namespace Go.Proofs.YtmflheoafeenfaaGreat
open Go.Am
set_option maxRecDepth 100000
def firstK (P : List Cx) : Nat → Nat → Int
  | 0, _ => 0
  | d + 1, k => if eqCL (matC ((k : Int) + 1)) P = true then (k : Int) + 1 else firstK P d (k + 1)
def compAt (a b : Nat) : Bool := firstK (timesC (dimK a) (matC b) (matC a)) 20 0 == compG a b
theorem comp1a : (List.range 4).all (fun i => (List.range 10).all fun j => compAt (i + 1) (j + 1)) = true := by kernel_rfl
theorem comp1b : (List.range 3).all (fun i => (List.range 10).all fun j => compAt (i + 5) (j + 1)) = true := by kernel_rfl
theorem comp1c : (List.range 3).all (fun i => (List.range 10).all fun j => compAt (i + 8) (j + 1)) = true := by kernel_rfl
theorem comp2 : (List.range 7).all (fun i => (List.range 7).all fun j => compAt (i + 11) (j + 11)) = true := by kernel_rfl
theorem comp3 : (List.range 3).all (fun i => (List.range 3).all fun j => compAt (i + 18) (j + 18)) = true := by kernel_rfl
end Go.Proofs.YtmflheoafeenfaaGreat
