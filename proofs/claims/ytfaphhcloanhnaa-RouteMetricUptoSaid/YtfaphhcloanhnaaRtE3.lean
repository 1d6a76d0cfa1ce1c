/- The environment of the law of distances; what must come is run by the kernel. -/
import Derived.Test.YtfaphhcloanhnaaRtEnvM
set_option linter.unusedSimpArgs false
set_option linter.unusedVariables false
namespace Go.Proofs.Ytfaphhcloanhnaa
open Go.Am Go.Proofs
set_option maxRecDepth 100000
def mdFlat3 : List FuncId := [f_phasorref20_Right, f_phasorlaw20_num, f_route_Check, f_phasorlaw20_same, f_phasorlaw20_alive, f_phasorlaw20_ints, f_slices_Contains_int_int, f_slices_Index_int_int, f_phasorref20_step, f_slices_IndexFunc_int_int, f_route_path_1]
def mdRows3 : List FuncId := [f_route_Line, f_route_Ring, f_phasorref20_Ring, f_route_Grid, f_phasorref20_Grid, f_phasorref20_far, f_route_near, f_route_Path, f_phasorref20_Path, f_phasorref20_Far, f_route_Far]
def E3 : Env := EnvM mdFlat3 mdRows3
theorem alive3_ok {L : Hp} : CallO E3 f_phasorlaw20_alive [] L fun v L' => v = abool true ∧ L' = L := alive_of rfl n_phasorlaw20_alive (by kernel_rfl)
end Go.Proofs.Ytfaphhcloanhnaa
