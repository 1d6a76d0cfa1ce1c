/- That the small code is the functions' own. -/
import Derived.Test.YtfaphhcloanhnaaAmCode
import Derived.Test.YtfaphhcloanhnaaAmComp
import Derived.Test.YtfaphhcloanhnaaChecked
import Derived.KernelRfl
set_option linter.unusedSimpArgs false
set_option linter.unusedVariables false
namespace Go.Proofs.Ytfaphhcloanhnaa
open Go.Am
theorem k_phasorlaw20_RouteMaps : compFn Try.prog Try.f3 = some c_phasorlaw20_RouteMaps := by kernel_rfl
theorem k_phasorlaw20_RoutePaths : compFn Try.prog Try.f4 = some c_phasorlaw20_RoutePaths := by kernel_rfl
theorem k_phasorlaw20_RouteMetric : compFn Try.prog Try.f5 = some c_phasorlaw20_RouteMetric := by kernel_rfl
theorem k_phasorlaw20_RouteLays : compFn Try.prog Try.f6 = some c_phasorlaw20_RouteLays := by kernel_rfl
theorem k_phasorlaw20_RouteHomes : compFn Try.prog Try.f7 = some c_phasorlaw20_RouteHomes := by kernel_rfl
theorem k_route_Line : compFn Try.prog Try.f8 = some c_route_Line := by kernel_rfl
theorem k_phasorref20_Line : compFn Try.prog Try.f9 = some c_phasorref20_Line := by kernel_rfl
theorem k_route_Ring : compFn Try.prog Try.f10 = some c_route_Ring := by kernel_rfl
theorem k_phasorref20_Ring : compFn Try.prog Try.f11 = some c_phasorref20_Ring := by kernel_rfl
theorem k_route_Grid : compFn Try.prog Try.f12 = some c_route_Grid := by kernel_rfl
theorem k_phasorref20_Grid : compFn Try.prog Try.f13 = some c_phasorref20_Grid := by kernel_rfl
theorem k_phasorref20_Right : compFn Try.prog Try.f14 = some c_phasorref20_Right := by kernel_rfl
theorem k_phasorlaw20_num : compFn Try.prog Try.f15 = some c_phasorlaw20_num := by kernel_rfl
theorem k_route_Check : compFn Try.prog Try.f16 = some c_route_Check := by kernel_rfl
theorem k_phasorlaw20_same : compFn Try.prog Try.f17 = some c_phasorlaw20_same := by kernel_rfl
theorem k_phasorlaw20_alive : compFn Try.prog Try.f18 = some c_phasorlaw20_alive := by kernel_rfl
theorem k_route_Far : compFn Try.prog Try.f19 = some c_route_Far := by kernel_rfl
theorem k_phasorref20_Far : compFn Try.prog Try.f20 = some c_phasorref20_Far := by kernel_rfl
theorem k_phasorlaw20_ints : compFn Try.prog Try.f21 = some c_phasorlaw20_ints := by kernel_rfl
theorem k_route_Path : compFn Try.prog Try.f22 = some c_route_Path := by kernel_rfl
theorem k_phasorref20_Path : compFn Try.prog Try.f23 = some c_phasorref20_Path := by kernel_rfl
theorem k_phasorref08_Copy : compFn Try.prog Try.f24 = some c_phasorref08_Copy := by kernel_rfl
theorem k_route_Fits : compFn Try.prog Try.f25 = some c_route_Fits := by kernel_rfl
theorem k_phasorref20_Fits : compFn Try.prog Try.f26 = some c_phasorref20_Fits := by kernel_rfl
theorem k_route_Route : compFn Try.prog Try.f27 = some c_route_Route := by kernel_rfl
theorem k_phasorref20_Route : compFn Try.prog Try.f28 = some c_phasorref20_Route := by kernel_rfl
theorem k_phasorlaw20_routed : compFn Try.prog Try.f29 = some c_phasorlaw20_routed := by kernel_rfl
theorem k_phasorref08_Same : compFn Try.prog Try.f30 = some c_phasorref08_Same := by kernel_rfl
theorem k_route_Home : compFn Try.prog Try.f31 = some c_route_Home := by kernel_rfl
theorem k_phasorref20_Home : compFn Try.prog Try.f32 = some c_phasorref20_Home := by kernel_rfl
theorem k_route_line : compFn Try.prog Try.f33 = some c_route_line := by kernel_rfl
theorem k_phasorref20_far : compFn Try.prog Try.f34 = some c_phasorref20_far := by kernel_rfl
theorem k_slices_Contains_int_int : compFn Try.prog Try.f35 = some c_slices_Contains_int_int := by kernel_rfl
theorem k_route_steps : compFn Try.prog Try.f36 = some c_route_steps := by kernel_rfl
theorem k_route_near : compFn Try.prog Try.f37 = some c_route_near := by kernel_rfl
theorem k_route_far : compFn Try.prog Try.f38 = some c_route_far := by kernel_rfl
theorem k_route_path : compFn Try.prog Try.f39 = some c_route_path := by kernel_rfl
theorem k_phasorref20_step : compFn Try.prog Try.f40 = some c_phasorref20_step := by kernel_rfl
theorem k_circuit_Check : compFn Try.prog Try.f41 = some c_circuit_Check := by kernel_rfl
theorem k_route_Fits_1 : compFn Try.prog Try.f42 = some c_route_Fits_1 := by kernel_rfl
theorem k_slices_ContainsFunc_api_Op_api_Op : compFn Try.prog Try.f43 = some c_slices_ContainsFunc_api_Op_api_Op := by kernel_rfl
theorem k_phasorref08_May : compFn Try.prog Try.f44 = some c_phasorref08_May := by kernel_rfl
theorem k_route_Route_1 : compFn Try.prog Try.f45 = some c_route_Route_1 := by kernel_rfl
theorem k_circuit_Copy : compFn Try.prog Try.f46 = some c_circuit_Copy := by kernel_rfl
theorem k_route_laid_swap : compFn Try.prog Try.f47 = some c_route_laid_swap := by kernel_rfl
theorem k_phasorref20_laid_swap : compFn Try.prog Try.f48 = some c_phasorref20_laid_swap := by kernel_rfl
theorem k_phasorref20_laid_routed : compFn Try.prog Try.f49 = some c_phasorref20_laid_routed := by kernel_rfl
theorem k_phasorref08_SameOp : compFn Try.prog Try.f50 = some c_phasorref08_SameOp := by kernel_rfl
theorem k_slices_Clone_int_int : compFn Try.prog Try.f51 = some c_slices_Clone_int_int := by kernel_rfl
theorem k_slices_SortFunc_int_int : compFn Try.prog Try.f52 = some c_slices_SortFunc_int_int := by kernel_rfl
theorem k_route_Home_1 : compFn Try.prog Try.f53 = some c_route_Home_1 := by kernel_rfl
theorem k_route_up : compFn Try.prog Try.f54 = some c_route_up := by kernel_rfl
theorem k_slices_IndexFunc_int_int : compFn Try.prog Try.f55 = some c_slices_IndexFunc_int_int := by kernel_rfl
theorem k_route_Home_2 : compFn Try.prog Try.f56 = some c_route_Home_2 := by kernel_rfl
theorem k_slices_Index_int_int : compFn Try.prog Try.f57 = some c_slices_Index_int_int := by kernel_rfl
theorem k_slices_Reverse_int_int : compFn Try.prog Try.f58 = some c_slices_Reverse_int_int := by kernel_rfl
theorem k_phasorref20_apart : compFn Try.prog Try.f59 = some c_phasorref20_apart := by kernel_rfl
theorem k_phasorref20_among : compFn Try.prog Try.f60 = some c_phasorref20_among := by kernel_rfl
theorem k_phasorref20_next : compFn Try.prog Try.f61 = some c_phasorref20_next := by kernel_rfl
theorem k_slices_Sort_int_int : compFn Try.prog Try.f62 = some c_slices_Sort_int_int := by kernel_rfl
theorem k_slices_Compact_int_int : compFn Try.prog Try.f63 = some c_slices_Compact_int_int := by kernel_rfl
theorem k_route_path_1 : compFn Try.prog Try.f64 = some c_route_path_1 := by kernel_rfl
theorem k_circuit_may : compFn Try.prog Try.f65 = some c_circuit_may := by kernel_rfl
theorem k_slices_IndexFunc_api_Op_api_Op : compFn Try.prog Try.f66 = some c_slices_IndexFunc_api_Op_api_Op := by kernel_rfl
theorem k_phasorref08_Check : compFn Try.prog Try.f67 = some c_phasorref08_Check := by kernel_rfl
theorem k_route_swap : compFn Try.prog Try.f68 = some c_route_swap := by kernel_rfl
theorem k_phasorref08_ints : compFn Try.prog Try.f69 = some c_phasorref08_ints := by kernel_rfl
theorem k_slices_pdqsortCmpFunc_int : compFn Try.prog Try.f70 = some c_slices_pdqsortCmpFunc_int := by kernel_rfl
theorem k_bits_Len : compFn Try.prog Try.f71 = some c_bits_Len := by kernel_rfl
theorem k_route_up_1 : compFn Try.prog Try.f72 = some c_route_up_1 := by kernel_rfl
theorem k_phasorref20_parent : compFn Try.prog Try.f73 = some c_phasorref20_parent := by kernel_rfl
theorem k_slices_pdqsortOrdered_int : compFn Try.prog Try.f74 = some c_slices_pdqsortOrdered_int := by kernel_rfl
theorem k_gate_Check : compFn Try.prog Try.f75 = some c_gate_Check := by kernel_rfl
theorem k_phasorref08_Op : compFn Try.prog Try.f76 = some c_phasorref08_Op := by kernel_rfl
theorem k_slices_insertionSortCmpFunc_int : compFn Try.prog Try.f77 = some c_slices_insertionSortCmpFunc_int := by kernel_rfl
theorem k_slices_heapSortCmpFunc_int : compFn Try.prog Try.f78 = some c_slices_heapSortCmpFunc_int := by kernel_rfl
theorem k_slices_breakPatternsCmpFunc_int : compFn Try.prog Try.f79 = some c_slices_breakPatternsCmpFunc_int := by kernel_rfl
theorem k_slices_choosePivotCmpFunc_int : compFn Try.prog Try.f80 = some c_slices_choosePivotCmpFunc_int := by kernel_rfl
theorem k_slices_reverseRangeCmpFunc_int : compFn Try.prog Try.f81 = some c_slices_reverseRangeCmpFunc_int := by kernel_rfl
theorem k_slices_partialInsertionSortCmpFunc_int : compFn Try.prog Try.f82 = some c_slices_partialInsertionSortCmpFunc_int := by kernel_rfl
theorem k_slices_partitionEqualCmpFunc_int : compFn Try.prog Try.f83 = some c_slices_partitionEqualCmpFunc_int := by kernel_rfl
theorem k_slices_partitionCmpFunc_int : compFn Try.prog Try.f84 = some c_slices_partitionCmpFunc_int := by kernel_rfl
theorem k_bits_Len32 : compFn Try.prog Try.f85 = some c_bits_Len32 := by kernel_rfl
theorem k_bits_Len64 : compFn Try.prog Try.f86 = some c_bits_Len64 := by kernel_rfl
theorem k_slices_insertionSortOrdered_int : compFn Try.prog Try.f87 = some c_slices_insertionSortOrdered_int := by kernel_rfl
theorem k_slices_heapSortOrdered_int : compFn Try.prog Try.f88 = some c_slices_heapSortOrdered_int := by kernel_rfl
theorem k_slices_breakPatternsOrdered_int : compFn Try.prog Try.f89 = some c_slices_breakPatternsOrdered_int := by kernel_rfl
theorem k_slices_choosePivotOrdered_int : compFn Try.prog Try.f90 = some c_slices_choosePivotOrdered_int := by kernel_rfl
theorem k_slices_reverseRangeOrdered_int : compFn Try.prog Try.f91 = some c_slices_reverseRangeOrdered_int := by kernel_rfl
theorem k_slices_partialInsertionSortOrdered_int : compFn Try.prog Try.f92 = some c_slices_partialInsertionSortOrdered_int := by kernel_rfl
theorem k_cmp_Less_int : compFn Try.prog Try.f93 = some c_cmp_Less_int := by kernel_rfl
theorem k_slices_partitionEqualOrdered_int : compFn Try.prog Try.f94 = some c_slices_partitionEqualOrdered_int := by kernel_rfl
theorem k_slices_partitionOrdered_int : compFn Try.prog Try.f95 = some c_slices_partitionOrdered_int := by kernel_rfl
theorem k_gate_Arity : compFn Try.prog Try.f96 = some c_gate_Arity := by kernel_rfl
theorem k_phasorref06_Check : compFn Try.prog Try.f97 = some c_phasorref06_Check := by kernel_rfl
theorem k_phasorref08_unlike : compFn Try.prog Try.f98 = some c_phasorref08_unlike := by kernel_rfl
theorem k_slices_siftDownCmpFunc_int : compFn Try.prog Try.f99 = some c_slices_siftDownCmpFunc_int := by kernel_rfl
theorem k_slices_nextPowerOfTwo : compFn Try.prog Try.f100 = some c_slices_nextPowerOfTwo := by kernel_rfl
theorem k_slices_xorshift_Next : compFn Try.prog Try.f101 = some c_slices_xorshift_Next := by kernel_rfl
theorem k_slices_medianAdjacentCmpFunc_int : compFn Try.prog Try.f102 = some c_slices_medianAdjacentCmpFunc_int := by kernel_rfl
theorem k_slices_medianCmpFunc_int : compFn Try.prog Try.f103 = some c_slices_medianCmpFunc_int := by kernel_rfl
theorem k_slices_siftDownOrdered_int : compFn Try.prog Try.f104 = some c_slices_siftDownOrdered_int := by kernel_rfl
theorem k_slices_medianAdjacentOrdered_int : compFn Try.prog Try.f105 = some c_slices_medianAdjacentOrdered_int := by kernel_rfl
theorem k_slices_medianOrdered_int : compFn Try.prog Try.f106 = some c_slices_medianOrdered_int := by kernel_rfl
theorem k_cmp_isNaN_int : compFn Try.prog Try.f107 = some c_cmp_isNaN_int := by kernel_rfl
theorem k_gate_of : compFn Try.prog Try.f108 = some c_gate_of := by kernel_rfl
theorem k_phasorref06_Is : compFn Try.prog Try.f109 = some c_phasorref06_Is := by kernel_rfl
theorem k_phasorref06_Arity : compFn Try.prog Try.f110 = some c_phasorref06_Arity := by kernel_rfl
theorem k_slices_order2CmpFunc_int : compFn Try.prog Try.f111 = some c_slices_order2CmpFunc_int := by kernel_rfl
theorem k_slices_order2Ordered_int : compFn Try.prog Try.f112 = some c_slices_order2Ordered_int := by kernel_rfl
theorem k_gate_table : compFn Try.prog Try.f113 = some c_gate_table := by kernel_rfl
theorem tbl_ok : ∀ p ∈ tbl, ∃ fn, Try.prog.funcs[p.1]? = some fn ∧ (fn.name == "runtime.NumGoroutine") = false ∧ compFn Try.prog fn = some p.2 := by
  unfold tbl
  simp only [List.forall_mem_cons]
  exact ⟨⟨Try.f3, Try.func3, by kernel_rfl, k_phasorlaw20_RouteMaps⟩,
    ⟨Try.f4, Try.func4, by kernel_rfl, k_phasorlaw20_RoutePaths⟩,
    ⟨Try.f5, Try.func5, by kernel_rfl, k_phasorlaw20_RouteMetric⟩,
    ⟨Try.f6, Try.func6, by kernel_rfl, k_phasorlaw20_RouteLays⟩,
    ⟨Try.f7, Try.func7, by kernel_rfl, k_phasorlaw20_RouteHomes⟩,
    ⟨Try.f8, Try.func8, by kernel_rfl, k_route_Line⟩,
    ⟨Try.f9, Try.func9, by kernel_rfl, k_phasorref20_Line⟩,
    ⟨Try.f10, Try.func10, by kernel_rfl, k_route_Ring⟩,
    ⟨Try.f11, Try.func11, by kernel_rfl, k_phasorref20_Ring⟩,
    ⟨Try.f12, Try.func12, by kernel_rfl, k_route_Grid⟩,
    ⟨Try.f13, Try.func13, by kernel_rfl, k_phasorref20_Grid⟩,
    ⟨Try.f14, Try.func14, by kernel_rfl, k_phasorref20_Right⟩,
    ⟨Try.f15, Try.func15, by kernel_rfl, k_phasorlaw20_num⟩,
    ⟨Try.f16, Try.func16, by kernel_rfl, k_route_Check⟩,
    ⟨Try.f17, Try.func17, by kernel_rfl, k_phasorlaw20_same⟩,
    ⟨Try.f18, Try.func18, by kernel_rfl, k_phasorlaw20_alive⟩,
    ⟨Try.f19, Try.func19, by kernel_rfl, k_route_Far⟩,
    ⟨Try.f20, Try.func20, by kernel_rfl, k_phasorref20_Far⟩,
    ⟨Try.f21, Try.func21, by kernel_rfl, k_phasorlaw20_ints⟩,
    ⟨Try.f22, Try.func22, by kernel_rfl, k_route_Path⟩,
    ⟨Try.f23, Try.func23, by kernel_rfl, k_phasorref20_Path⟩,
    ⟨Try.f24, Try.func24, by kernel_rfl, k_phasorref08_Copy⟩,
    ⟨Try.f25, Try.func25, by kernel_rfl, k_route_Fits⟩,
    ⟨Try.f26, Try.func26, by kernel_rfl, k_phasorref20_Fits⟩,
    ⟨Try.f27, Try.func27, by kernel_rfl, k_route_Route⟩,
    ⟨Try.f28, Try.func28, by kernel_rfl, k_phasorref20_Route⟩,
    ⟨Try.f29, Try.func29, by kernel_rfl, k_phasorlaw20_routed⟩,
    ⟨Try.f30, Try.func30, by kernel_rfl, k_phasorref08_Same⟩,
    ⟨Try.f31, Try.func31, by kernel_rfl, k_route_Home⟩,
    ⟨Try.f32, Try.func32, by kernel_rfl, k_phasorref20_Home⟩,
    ⟨Try.f33, Try.func33, by kernel_rfl, k_route_line⟩,
    ⟨Try.f34, Try.func34, by kernel_rfl, k_phasorref20_far⟩,
    ⟨Try.f35, Try.func35, by kernel_rfl, k_slices_Contains_int_int⟩,
    ⟨Try.f36, Try.func36, by kernel_rfl, k_route_steps⟩,
    ⟨Try.f37, Try.func37, by kernel_rfl, k_route_near⟩,
    ⟨Try.f38, Try.func38, by kernel_rfl, k_route_far⟩,
    ⟨Try.f39, Try.func39, by kernel_rfl, k_route_path⟩,
    ⟨Try.f40, Try.func40, by kernel_rfl, k_phasorref20_step⟩,
    ⟨Try.f41, Try.func41, by kernel_rfl, k_circuit_Check⟩,
    ⟨Try.f42, Try.func42, by kernel_rfl, k_route_Fits_1⟩,
    ⟨Try.f43, Try.func43, by kernel_rfl, k_slices_ContainsFunc_api_Op_api_Op⟩,
    ⟨Try.f44, Try.func44, by kernel_rfl, k_phasorref08_May⟩,
    ⟨Try.f45, Try.func45, by kernel_rfl, k_route_Route_1⟩,
    ⟨Try.f46, Try.func46, by kernel_rfl, k_circuit_Copy⟩,
    ⟨Try.f47, Try.func47, by kernel_rfl, k_route_laid_swap⟩,
    ⟨Try.f48, Try.func48, by kernel_rfl, k_phasorref20_laid_swap⟩,
    ⟨Try.f49, Try.func49, by kernel_rfl, k_phasorref20_laid_routed⟩,
    ⟨Try.f50, Try.func50, by kernel_rfl, k_phasorref08_SameOp⟩,
    ⟨Try.f51, Try.func51, by kernel_rfl, k_slices_Clone_int_int⟩,
    ⟨Try.f52, Try.func52, by kernel_rfl, k_slices_SortFunc_int_int⟩,
    ⟨Try.f53, Try.func53, by kernel_rfl, k_route_Home_1⟩,
    ⟨Try.f54, Try.func54, by kernel_rfl, k_route_up⟩,
    ⟨Try.f55, Try.func55, by kernel_rfl, k_slices_IndexFunc_int_int⟩,
    ⟨Try.f56, Try.func56, by kernel_rfl, k_route_Home_2⟩,
    ⟨Try.f57, Try.func57, by kernel_rfl, k_slices_Index_int_int⟩,
    ⟨Try.f58, Try.func58, by kernel_rfl, k_slices_Reverse_int_int⟩,
    ⟨Try.f59, Try.func59, by kernel_rfl, k_phasorref20_apart⟩,
    ⟨Try.f60, Try.func60, by kernel_rfl, k_phasorref20_among⟩,
    ⟨Try.f61, Try.func61, by kernel_rfl, k_phasorref20_next⟩,
    ⟨Try.f62, Try.func62, by kernel_rfl, k_slices_Sort_int_int⟩,
    ⟨Try.f63, Try.func63, by kernel_rfl, k_slices_Compact_int_int⟩,
    ⟨Try.f64, Try.func64, by kernel_rfl, k_route_path_1⟩,
    ⟨Try.f65, Try.func65, by kernel_rfl, k_circuit_may⟩,
    ⟨Try.f66, Try.func66, by kernel_rfl, k_slices_IndexFunc_api_Op_api_Op⟩,
    ⟨Try.f67, Try.func67, by kernel_rfl, k_phasorref08_Check⟩,
    ⟨Try.f68, Try.func68, by kernel_rfl, k_route_swap⟩,
    ⟨Try.f69, Try.func69, by kernel_rfl, k_phasorref08_ints⟩,
    ⟨Try.f70, Try.func70, by kernel_rfl, k_slices_pdqsortCmpFunc_int⟩,
    ⟨Try.f71, Try.func71, by kernel_rfl, k_bits_Len⟩,
    ⟨Try.f72, Try.func72, by kernel_rfl, k_route_up_1⟩,
    ⟨Try.f73, Try.func73, by kernel_rfl, k_phasorref20_parent⟩,
    ⟨Try.f74, Try.func74, by kernel_rfl, k_slices_pdqsortOrdered_int⟩,
    ⟨Try.f75, Try.func75, by kernel_rfl, k_gate_Check⟩,
    ⟨Try.f76, Try.func76, by kernel_rfl, k_phasorref08_Op⟩,
    ⟨Try.f77, Try.func77, by kernel_rfl, k_slices_insertionSortCmpFunc_int⟩,
    ⟨Try.f78, Try.func78, by kernel_rfl, k_slices_heapSortCmpFunc_int⟩,
    ⟨Try.f79, Try.func79, by kernel_rfl, k_slices_breakPatternsCmpFunc_int⟩,
    ⟨Try.f80, Try.func80, by kernel_rfl, k_slices_choosePivotCmpFunc_int⟩,
    ⟨Try.f81, Try.func81, by kernel_rfl, k_slices_reverseRangeCmpFunc_int⟩,
    ⟨Try.f82, Try.func82, by kernel_rfl, k_slices_partialInsertionSortCmpFunc_int⟩,
    ⟨Try.f83, Try.func83, by kernel_rfl, k_slices_partitionEqualCmpFunc_int⟩,
    ⟨Try.f84, Try.func84, by kernel_rfl, k_slices_partitionCmpFunc_int⟩,
    ⟨Try.f85, Try.func85, by kernel_rfl, k_bits_Len32⟩,
    ⟨Try.f86, Try.func86, by kernel_rfl, k_bits_Len64⟩,
    ⟨Try.f87, Try.func87, by kernel_rfl, k_slices_insertionSortOrdered_int⟩,
    ⟨Try.f88, Try.func88, by kernel_rfl, k_slices_heapSortOrdered_int⟩,
    ⟨Try.f89, Try.func89, by kernel_rfl, k_slices_breakPatternsOrdered_int⟩,
    ⟨Try.f90, Try.func90, by kernel_rfl, k_slices_choosePivotOrdered_int⟩,
    ⟨Try.f91, Try.func91, by kernel_rfl, k_slices_reverseRangeOrdered_int⟩,
    ⟨Try.f92, Try.func92, by kernel_rfl, k_slices_partialInsertionSortOrdered_int⟩,
    ⟨Try.f93, Try.func93, by kernel_rfl, k_cmp_Less_int⟩,
    ⟨Try.f94, Try.func94, by kernel_rfl, k_slices_partitionEqualOrdered_int⟩,
    ⟨Try.f95, Try.func95, by kernel_rfl, k_slices_partitionOrdered_int⟩,
    ⟨Try.f96, Try.func96, by kernel_rfl, k_gate_Arity⟩,
    ⟨Try.f97, Try.func97, by kernel_rfl, k_phasorref06_Check⟩,
    ⟨Try.f98, Try.func98, by kernel_rfl, k_phasorref08_unlike⟩,
    ⟨Try.f99, Try.func99, by kernel_rfl, k_slices_siftDownCmpFunc_int⟩,
    ⟨Try.f100, Try.func100, by kernel_rfl, k_slices_nextPowerOfTwo⟩,
    ⟨Try.f101, Try.func101, by kernel_rfl, k_slices_xorshift_Next⟩,
    ⟨Try.f102, Try.func102, by kernel_rfl, k_slices_medianAdjacentCmpFunc_int⟩,
    ⟨Try.f103, Try.func103, by kernel_rfl, k_slices_medianCmpFunc_int⟩,
    ⟨Try.f104, Try.func104, by kernel_rfl, k_slices_siftDownOrdered_int⟩,
    ⟨Try.f105, Try.func105, by kernel_rfl, k_slices_medianAdjacentOrdered_int⟩,
    ⟨Try.f106, Try.func106, by kernel_rfl, k_slices_medianOrdered_int⟩,
    ⟨Try.f107, Try.func107, by kernel_rfl, k_cmp_isNaN_int⟩,
    ⟨Try.f108, Try.func108, by kernel_rfl, k_gate_of⟩,
    ⟨Try.f109, Try.func109, by kernel_rfl, k_phasorref06_Is⟩,
    ⟨Try.f110, Try.func110, by kernel_rfl, k_phasorref06_Arity⟩,
    ⟨Try.f111, Try.func111, by kernel_rfl, k_slices_order2CmpFunc_int⟩,
    ⟨Try.f112, Try.func112, by kernel_rfl, k_slices_order2Ordered_int⟩,
    ⟨Try.f113, Try.func113, by kernel_rfl, k_gate_table⟩,
    fun _ h => absurd h List.not_mem_nil⟩
end Go.Proofs.Ytfaphhcloanhnaa
