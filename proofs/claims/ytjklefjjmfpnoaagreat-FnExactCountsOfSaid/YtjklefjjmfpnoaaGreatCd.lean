/-
  The code of the program's functions and the library's, as the model's own. Printed by a program.
-/
import Derived.Test.YtjklefjjmfpnoaaGreatProg
import Derived.Test.YtjklefjjmfpnoaaGreatFxC
namespace Go.Fw
open Go.Proofs.Tryz
set_option maxRecDepth 100000
abbrev fid_main_main : Nat := 0
abbrev fid_gosem_cut : Nat := 1
abbrev fid_gosem_cut_init : Nat := 2
abbrev fid_laws_FnExactCountsOf : Nat := 3
abbrev fid_laws_szGraph : Nat := 4
abbrev fid_laws_szTurnS : Nat := 5
abbrev fid_spec_CountsOf : Nat := 6
abbrev fid_laws_toGraph : Nat := 7
abbrev fid_laws_toTurnS : Nat := 8
abbrev fid_impl_CountsOf : Nat := 9
abbrev fid_laws_eqIntSS : Nat := 10
abbrev fid_laws_eqGraph : Nat := 11
abbrev fid_laws_eqTurnS : Nat := 12
abbrev fid_laws_markGraph : Nat := 13
abbrev fid_laws_markTurnS : Nat := 14
abbrev fid_laws_markIntSS : Nat := 15
abbrev fid_laws_heldIntSS : Nat := 16
abbrev fid_laws_szEdgeS : Nat := 17
abbrev fid_spec_RunTurns : Nat := 18
abbrev fid_spec_PartCount : Nat := 19
abbrev fid_spec_l4Bridges : Nat := 20
abbrev fid_spec_CutNodesOf : Nat := 21
abbrev fid_laws_toEdgeS : Nat := 22
abbrev fid_laws_toTurn : Nat := 23
abbrev fid_impl_graphsOf : Nat := 24
abbrev fid_impl_PartCount : Nat := 25
abbrev fid_impl_BridgesOf : Nat := 26
abbrev fid_impl_CutNodesOf : Nat := 27
abbrev fid_laws_eqIntS : Nat := 28
abbrev fid_laws_eqEdgeS : Nat := 29
abbrev fid_laws_eqTurn : Nat := 30
abbrev fid_laws_markEdgeS : Nat := 31
abbrev fid_laws_markIntS : Nat := 32
abbrev fid_laws_heldIntS : Nat := 33
abbrev fid_spec_GraphValid : Nat := 34
abbrev fid_spec_l1Copy : Nat := 35
abbrev fid_spec_TurnEdge : Nat := 36
abbrev fid_spec_PartsOf : Nat := 37
abbrev fid_spec_l4Bridge : Nat := 38
abbrev fid_spec_l4Cut : Nat := 39
abbrev fid_laws_toEdge : Nat := 40
abbrev fid_impl_GraphValid : Nat := 41
abbrev fid_impl_TurnEdge : Nat := 42
abbrev fid_impl_PartsOf : Nat := 43
abbrev fid_impl_Graph_edgesBy : Nat := 44
abbrev fid_impl_Graph_isBridge : Nat := 45
abbrev fid_impl_Graph_nodesBy : Nat := 46
abbrev fid_impl_Graph_isCutNode : Nat := 47
abbrev fid_laws_eqEdge : Nat := 48
abbrev fid_spec_l1Less : Nat := 49
abbrev fid_spec_HasEdge : Nat := 50
abbrev fid_spec_CutEdge : Nat := 51
abbrev fid_spec_PutEdge : Nat := 52
abbrev fid_spec_l2Labels : Nat := 53
abbrev fid_spec_l2Joined : Nat := 54
abbrev fid_spec_l1Without : Nat := 55
abbrev fid_spec_l1Next : Nat := 56
abbrev fid_spec_l1Alone : Nat := 57
abbrev fid_impl_compareEdges : Nat := 58
abbrev fid_impl_HasEdge : Nat := 59
abbrev fid_impl_CutEdge : Nat := 60
abbrev fid_impl_PutEdge : Nat := 61
abbrev fid_impl_Graph_parts : Nat := 62
abbrev fid_impl_Graph_without : Nat := 63
abbrev fid_impl_Graph_edgesBy_1 : Nat := 64
abbrev fid_impl_Graph_cut : Nat := 65
abbrev fid_impl_Graph_connected : Nat := 66
abbrev fid_impl_Graph_cutNode : Nat := 67
abbrev fid_impl_Graph_neighbors : Nat := 68
abbrev fid_slices_ContainsFunc_int_int : Nat := 69
abbrev fid_impl_Graph_isCutNode_1 : Nat := 70
abbrev fid_spec_l1Find : Nat := 71
abbrev fid_spec_l1Put : Nat := 72
abbrev fid_spec_l1Edge : Nat := 73
abbrev fid_cmp_Or_int : Nat := 74
abbrev fid_cmp_Compare_int : Nat := 75
abbrev fid_impl_Graph_has : Nat := 76
abbrev fid_slices_BinarySearchFunc_impl_Edge_impl_Edge_impl_Edge : Nat := 77
abbrev fid_slices_Insert_impl_Edge_impl_Edge : Nat := 78
abbrev fid_slices_Clone_impl_Edge_impl_Edge : Nat := 79
abbrev fid_slices_DeleteFunc_impl_Edge_impl_Edge : Nat := 80
abbrev fid_impl_Graph_cut_1 : Nat := 81
abbrev fid_impl_Graph_cutNode_1 : Nat := 82
abbrev fid_slices_Sort_int_int : Nat := 83
abbrev fid_slices_IndexFunc_int_int : Nat := 84
abbrev fid_cmp_isNaN_int : Nat := 85
abbrev fid_slices_Contains_impl_Edge_impl_Edge : Nat := 86
abbrev fid_slices_overlaps_impl_Edge : Nat := 87
abbrev fid_slices_rotateRight_impl_Edge : Nat := 88
abbrev fid_slices_IndexFunc_impl_Edge_impl_Edge : Nat := 89
abbrev fid_slices_pdqsortOrdered_int : Nat := 90
abbrev fid_math_bits_Len : Nat := 91
abbrev fid_slices_Index_impl_Edge_impl_Edge : Nat := 92
abbrev fid_slices_rotateLeft_impl_Edge : Nat := 93
abbrev fid_slices_insertionSortOrdered_int : Nat := 94
abbrev fid_slices_heapSortOrdered_int : Nat := 95
abbrev fid_slices_breakPatternsOrdered_int : Nat := 96
abbrev fid_slices_choosePivotOrdered_int : Nat := 97
abbrev fid_slices_reverseRangeOrdered_int : Nat := 98
abbrev fid_slices_partialInsertionSortOrdered_int : Nat := 99
abbrev fid_cmp_Less_int : Nat := 100
abbrev fid_slices_partitionEqualOrdered_int : Nat := 101
abbrev fid_slices_partitionOrdered_int : Nat := 102
abbrev fid_math_bits_Len32 : Nat := 103
abbrev fid_math_bits_Len64 : Nat := 104
abbrev fid_slices_Reverse_impl_Edge_impl_Edge : Nat := 105
abbrev fid_slices_siftDownOrdered_int : Nat := 106
abbrev fid_slices_nextPowerOfTwo : Nat := 107
abbrev fid_p_slices_xorshift_Next : Nat := 108
abbrev fid_slices_medianAdjacentOrdered_int : Nat := 109
abbrev fid_slices_medianOrdered_int : Nat := 110
abbrev fid_slices_order2Ordered_int : Nat := 111
abbrev fid_runtime_boundsError_Error : Nat := 112
abbrev fid_runtime_boundsError_RuntimeError : Nat := 113
abbrev fid_runtime_errorString_Error : Nat := 114
abbrev fid_runtime_errorString_RuntimeError : Nat := 115
abbrev fid_runtime_plainError_Error : Nat := 116
abbrev fid_runtime_plainError_RuntimeError : Nat := 117
abbrev fid_runtime_errorAddressString_Error : Nat := 118
abbrev fid_runtime_errorAddressString_RuntimeError : Nat := 119
abbrev fid_p_runtime_TypeAssertionError_Error : Nat := 120
abbrev fid_p_runtime_TypeAssertionError_RuntimeError : Nat := 121
abbrev fid_p_runtime_PanicNilError_Error : Nat := 122
abbrev fid_p_runtime_PanicNilError_RuntimeError : Nat := 123
abbrev fid_p_internal_abi_Type_Align : Nat := 124
abbrev fid_internal_runtime_maps_unhashableTypeError_Error : Nat := 125
abbrev fid_internal_runtime_maps_unhashableTypeError_RuntimeError : Nat := 126
abbrev fid_impl_Graph_hasNode : Nat := 127
abbrev fid_internal_abi_Kind_String : Nat := 128
def mc_impl_CountsOf : MCode :=
 .seq
 (.reg [
 ⟨some 2, none, .box 2 (.t 0)⟩,
 ⟨some 4, none, .mov (.v (.nl 1))⟩,
 ⟨some 5, none, .mov (.v (.b false))⟩] [1, 2])
 (.seq
 (.reg [
 ⟨some 12, none, .load true 2 (.t 2)⟩,
 ⟨some 13, none, .mov (.t 1)⟩,
 ⟨some 14, none, .call fid_impl_graphsOf true [.im, .im] [(.t 12), (.t 13)]⟩,
 ⟨some 11, none, .mov (.t 14)⟩,
 ⟨some 15, none, .extract (.t 11) 0⟩,
 ⟨some 16, none, .extract (.t 11) 1⟩,
 ⟨some 6, none, .mov (.t 15)⟩,
 ⟨some 7, none, .mov (.t 16)⟩] [6, 7])
 (.seq
 (.seq
 (.reg [
 ⟨some 17, none, .mov (.t 7)⟩,
 ⟨some 18, none, .un .not (.t 17)⟩] [6, 18])
 (.cond (.t 18)
 (.seq
 (.reg [
 ⟨some 4, none, .mov (.v (.nl 1))⟩,
 ⟨some 5, none, .mov (.v (.b false))⟩] [4, 5])
 (.ret))
 (.skip)))
 (.seq
 (.reg [
 ⟨some 19, none, .nestNil 1⟩,
 ⟨some 8, none, .mov (.t 19)⟩] [6, 8])
 (.seq
 (.seq
 (.reg [
 ⟨some 20, none, .mov (.t 6)⟩,
 ⟨some 21, none, .len (.t 20)⟩,
 ⟨some 22, none, .mov (.v (.i .i64 0))⟩] [8, 20, 21, 22])
 (.block 0
 (.loop [8, 20, 21, 22]
 (.seq
 (.reg [
 ⟨some 23, none, .bin .lss (.t 22) (.t 21)⟩] [8, 20, 21, 22, 23])
 (.seq
 (.cond (.t 23)
 (.skip)
 (.exit 0))
 (.seq
 (.block 1
 (.seq
 (.reg [
 ⟨some 24, none, .indexAddr 2 (.t 20) (.t 22)⟩,
 ⟨some 25, none, .load true 2 (.t 24)⟩,
 ⟨some 10, none, .alloc [.i .i64 0, .nl 2]⟩,
 ⟨none, none, .store 2 (.t 10) (.t 25)⟩] [8, 10, 20, 21, 22])
 (.draws [0, 0, 2, 0, 14, 30, 0, 94, 222, 510, 1022, 2047, 4095] [⟨some 26, none, .mov (.t 8)⟩,
 ⟨some 27, none, .load true 2 (.t 10)⟩,
 ⟨some 28, none, .call fid_impl_PartCount false [.im] [(.t 27)]⟩,
 ⟨some 29, none, .load true 2 (.t 10)⟩,
 ⟨some 30, none, .call fid_impl_BridgesOf false [.im] [(.t 29)]⟩,
 ⟨some 31, none, .len (.t 30)⟩,
 ⟨some 32, none, .load true 2 (.t 10)⟩,
 ⟨some 33, none, .call fid_impl_CutNodesOf false [.im] [(.t 32)]⟩,
 ⟨some 34, none, .len (.t 33)⟩,
 ⟨some 35, none, .buildSlice 1 [(.t 28), (.t 31), (.t 34)]⟩,
 ⟨some 36, none, .boxRow (.t 35)⟩] [
 ⟨some 37, none, .appendRow 24 (.t 26) (.t 36)⟩,
 ⟨some 8, none, .mov (.t 37)⟩] [8, 20, 21, 22])))
 (.reg [
 ⟨some 38, none, .bin .add (.t 22) (.v (.i .i64 1))⟩,
 ⟨some 22, none, .mov (.t 38)⟩] [8, 20, 21, 22])))))))
 (.seq
 (.reg [
 ⟨some 39, none, .mov (.t 8)⟩,
 ⟨some 4, none, .mov (.t 39)⟩,
 ⟨some 5, none, .mov (.v (.b true))⟩] [4, 5])
 (.ret))))))
theorem get_impl_CountsOf : prog.funcs[fid_impl_CountsOf]? = some f9 := func9
theorem ok_impl_CountsOf : okFn prog f9 40 [] [(4, none), (5, none)] mc_impl_CountsOf = true := by kernel_rfl
def mc_impl_graphsOf : MCode :=
 .seq
 (.reg [
 ⟨some 2, none, .box 2 (.t 0)⟩,
 ⟨some 4, none, .mov (.v (.nl 2))⟩,
 ⟨some 5, none, .mov (.v (.b false))⟩] [1, 2])
 (.seq
 (.seq
 (.reg [
 ⟨some 11, none, .load true 2 (.t 2)⟩,
 ⟨some 12, none, .call fid_impl_GraphValid false [.im] [(.t 11)]⟩,
 ⟨some 13, none, .un .not (.t 12)⟩,
 ⟨some 14, none, .mov (.t 13)⟩,
 ⟨some 15, (some (14, false)), .mov (.t 1)⟩,
 ⟨some 16, (some (14, false)), .len (.t 15)⟩,
 ⟨some 17, (some (14, false)), .bin .gtr (.t 16) (.v (.i .i64 60))⟩,
 ⟨some 18, none, .pick (.t 14) (.v (.b true)) (.t 17)⟩] [1, 2, 18])
 (.cond (.t 18)
 (.seq
 (.reg [
 ⟨some 4, none, .mov (.v (.nl 2))⟩,
 ⟨some 5, none, .mov (.v (.b false))⟩] [4, 5])
 (.ret))
 (.skip)))
 (.seq
 (.reg [
 ⟨some 19, none, .load true 2 (.t 2)⟩,
 ⟨some 20, none, .buildSlice 2 [(.t 19)]⟩,
 ⟨some 6, none, .mov (.t 20)⟩] [1, 6])
 (.seq
 (.seq
 (.reg [
 ⟨some 21, none, .mov (.t 1)⟩,
 ⟨some 22, none, .len (.t 21)⟩,
 ⟨some 23, none, .mov (.v (.i .i64 0))⟩] [6, 21, 22, 23])
 (.block 0
 (.loop [6, 21, 22, 23]
 (.seq
 (.reg [
 ⟨some 24, none, .bin .lss (.t 23) (.t 22)⟩] [6, 21, 22, 23, 24])
 (.seq
 (.cond (.t 24)
 (.skip)
 (.exit 0))
 (.seq
 (.block 1
 (.seq
 (.reg [
 ⟨some 25, none, .mov (.t 23)⟩,
 ⟨some 26, none, .indexAddr 2 (.t 21) (.t 23)⟩,
 ⟨some 27, none, .load true 2 (.t 26)⟩,
 ⟨some 8, none, .alloc [.i .i64 0, .i .i64 0]⟩,
 ⟨some 7, none, .mov (.t 25)⟩,
 ⟨none, none, .store 2 (.t 8) (.t 27)⟩] [6, 7, 8, 21, 22, 23])
 (.seq
 (.draw [0, 0, 3, 7, 0, 16, 63, 127, 255, 255, 0, 1535, 4095] [
 ⟨some 29, none, .mov (.t 6)⟩,
 ⟨some 30, none, .mov (.t 7)⟩,
 ⟨some 31, none, .indexAddr 2 (.t 29) (.t 30)⟩,
 ⟨some 32, none, .load true 2 (.t 31)⟩,
 ⟨some 33, none, .fieldAddr 0 (.t 8)⟩,
 ⟨some 34, none, .load true 2 (.t 33)⟩,
 ⟨some 35, none, .call fid_impl_TurnEdge false [.im, .im] [(.t 32), (.t 34)]⟩,
 ⟨some 28, none, .mov (.t 35)⟩,
 ⟨some 36, none, .extract (.t 28) 0⟩,
 ⟨some 37, none, .extract (.t 28) 1⟩,
 ⟨some 9, none, .alloc [.i .i64 0, .nl 2]⟩,
 ⟨none, none, .store 2 (.t 9) (.t 36)⟩,
 ⟨some 10, none, .mov (.t 37)⟩] [6, 9, 10, 21, 22, 23])
 (.seq
 (.seq
 (.reg [
 ⟨some 38, none, .mov (.t 10)⟩,
 ⟨some 39, none, .un .not (.t 38)⟩] [6, 9, 21, 22, 23, 39])
 (.cond (.t 39)
 (.seq
 (.reg [
 ⟨some 4, none, .mov (.v (.nl 2))⟩,
 ⟨some 5, none, .mov (.v (.b false))⟩] [4, 5])
 (.ret))
 (.skip)))
 (.reg [
 ⟨some 40, none, .mov (.t 6)⟩,
 ⟨some 41, none, .load true 2 (.t 9)⟩,
 ⟨some 42, none, .buildSlice 2 [(.t 41)]⟩,
 ⟨some 43, none, .append 2 32 true (.t 40) (.t 42)⟩,
 ⟨some 6, none, .mov (.t 43)⟩] [6, 21, 22, 23])))))
 (.reg [
 ⟨some 44, none, .bin .add (.t 23) (.v (.i .i64 1))⟩,
 ⟨some 23, none, .mov (.t 44)⟩] [6, 21, 22, 23])))))))
 (.seq
 (.reg [
 ⟨some 45, none, .mov (.t 6)⟩,
 ⟨some 4, none, .mov (.t 45)⟩,
 ⟨some 5, none, .mov (.v (.b true))⟩] [4, 5])
 (.ret)))))
theorem get_impl_graphsOf : prog.funcs[fid_impl_graphsOf]? = some f24 := func24
theorem ok_impl_graphsOf : okFn prog f24 46 [] [(4, none), (5, none)] mc_impl_graphsOf = true := by kernel_rfl
def mc_impl_PartCount : MCode :=
 .seq
 (.reg [
 ⟨some 1, none, .box 2 (.t 0)⟩,
 ⟨some 2, none, .mov (.v (.i .i64 0))⟩] [1])
 (.seq
 (.reg [
 ⟨some 3, none, .mov (.v (.i .i64 0))⟩] [1, 3])
 (.seq
 (.seq
 (.reg [
 ⟨some 6, none, .load true 2 (.t 1)⟩,
 ⟨some 7, none, .call fid_impl_PartsOf false [.im] [(.t 6)]⟩,
 ⟨some 8, none, .len (.t 7)⟩,
 ⟨some 9, none, .mov (.v (.i .i64 0))⟩] [3, 7, 8, 9])
 (.block 0
 (.loop [3, 7, 8, 9]
 (.seq
 (.reg [
 ⟨some 10, none, .bin .lss (.t 9) (.t 8)⟩] [3, 7, 8, 9, 10])
 (.seq
 (.cond (.t 10)
 (.skip)
 (.exit 0))
 (.seq
 (.block 1
 (.seq
 (.reg [
 ⟨some 11, none, .mov (.t 9)⟩,
 ⟨some 12, none, .indexAddr 1 (.t 7) (.t 9)⟩,
 ⟨some 13, none, .load false 1 (.t 12)⟩,
 ⟨some 4, none, .mov (.t 11)⟩,
 ⟨some 5, none, .mov (.t 13)⟩] [3, 4, 5, 7, 8, 9])
 (.seq
 (.reg [
 ⟨some 14, none, .mov (.t 4)⟩,
 ⟨some 15, none, .mov (.t 5)⟩,
 ⟨some 16, none, .bin .eql (.t 14) (.t 15)⟩] [3, 7, 8, 9, 16])
 (.cond (.t 16)
 (.reg [
 ⟨some 17, none, .mov (.t 3)⟩,
 ⟨some 18, none, .bin .add (.t 17) (.v (.i .i64 1))⟩,
 ⟨some 3, none, .mov (.t 18)⟩] [3, 7, 8, 9])
 (.skip)))))
 (.reg [
 ⟨some 19, none, .bin .add (.t 9) (.v (.i .i64 1))⟩,
 ⟨some 9, none, .mov (.t 19)⟩] [3, 7, 8, 9])))))))
 (.seq
 (.reg [
 ⟨some 20, none, .mov (.t 3)⟩,
 ⟨some 2, none, .mov (.t 20)⟩] [2])
 (.ret))))
theorem get_impl_PartCount : prog.funcs[fid_impl_PartCount]? = some f25 := func25
theorem ok_impl_PartCount : okFn prog f25 21 [] [(2, none)] mc_impl_PartCount = true := by kernel_rfl
def mc_impl_BridgesOf : MCode :=
 .seq
 (.reg [
 ⟨some 1, none, .box 2 (.t 0)⟩,
 ⟨some 2, none, .mov (.v (.nl 2))⟩] [1])
 (.seq
 (.seq
 (.reg [
 ⟨some 3, none, .load true 2 (.t 1)⟩,
 ⟨some 4, none, .call fid_impl_GraphValid false [.im] [(.t 3)]⟩,
 ⟨some 5, none, .un .not (.t 4)⟩] [1, 5])
 (.cond (.t 5)
 (.seq
 (.reg [
 ⟨some 2, none, .mov (.v (.nl 2))⟩] [2])
 (.ret))
 (.skip)))
 (.seq
 (.reg [
 ⟨some 6, none, .load true 2 (.t 1)⟩,
 ⟨some 7, none, .load true 2 (.t 1)⟩,
 ⟨some 8, none, .mkfn fid_impl_Graph_isBridge [(.t 7)] []⟩,
 ⟨some 9, none, .call fid_impl_Graph_edgesBy false [.im, .fn] [(.t 6), (.t 8)]⟩,
 ⟨some 2, none, .mov (.t 9)⟩] [2])
 (.ret)))
theorem get_impl_BridgesOf : prog.funcs[fid_impl_BridgesOf]? = some f26 := func26
theorem ok_impl_BridgesOf : okFn prog f26 10 [] [(2, none)] mc_impl_BridgesOf = true := by kernel_rfl
def mc_impl_CutNodesOf : MCode :=
 .seq
 (.reg [
 ⟨some 1, none, .box 2 (.t 0)⟩,
 ⟨some 2, none, .mov (.v (.nl 1))⟩] [1])
 (.seq
 (.seq
 (.reg [
 ⟨some 3, none, .load true 2 (.t 1)⟩,
 ⟨some 4, none, .call fid_impl_GraphValid false [.im] [(.t 3)]⟩,
 ⟨some 5, none, .un .not (.t 4)⟩] [1, 5])
 (.cond (.t 5)
 (.seq
 (.reg [
 ⟨some 2, none, .mov (.v (.nl 1))⟩] [2])
 (.ret))
 (.skip)))
 (.seq
 (.reg [
 ⟨some 6, none, .load true 2 (.t 1)⟩,
 ⟨some 7, none, .load true 2 (.t 1)⟩,
 ⟨some 8, none, .mkfn fid_impl_Graph_isCutNode [(.t 7)] []⟩,
 ⟨some 9, none, .call fid_impl_Graph_nodesBy false [.im, .fn] [(.t 6), (.t 8)]⟩,
 ⟨some 2, none, .mov (.t 9)⟩] [2])
 (.ret)))
theorem get_impl_CutNodesOf : prog.funcs[fid_impl_CutNodesOf]? = some f27 := func27
theorem ok_impl_CutNodesOf : okFn prog f27 10 [] [(2, none)] mc_impl_CutNodesOf = true := by kernel_rfl
def mc_impl_GraphValid : MCode :=
 .seq
 (.reg [
 ⟨some 1, none, .box 2 (.t 0)⟩,
 ⟨some 2, none, .mov (.v (.b false))⟩] [1])
 (.seq
 (.seq
 (.reg [
 ⟨some 5, none, .fieldAddr 0 (.t 1)⟩,
 ⟨some 6, none, .load false 1 (.t 5)⟩,
 ⟨some 7, none, .bin .lss (.t 6) (.v (.i .i64 1))⟩,
 ⟨some 8, none, .mov (.t 7)⟩,
 ⟨some 9, (some (8, false)), .fieldAddr 0 (.t 1)⟩,
 ⟨some 10, (some (8, false)), .load false 1 (.t 9)⟩,
 ⟨some 11, (some (8, false)), .bin .gtr (.t 10) (.v (.i .i64 16))⟩,
 ⟨some 12, none, .pick (.t 8) (.v (.b true)) (.t 11)⟩,
 ⟨some 13, none, .mov (.t 12)⟩,
 ⟨some 14, (some (13, false)), .fieldAddr 1 (.t 1)⟩,
 ⟨some 15, (some (13, false)), .load false 1 (.t 14)⟩,
 ⟨some 16, (some (13, false)), .len (.t 15)⟩,
 ⟨some 17, (some (13, false)), .bin .gtr (.t 16) (.v (.i .i64 40))⟩,
 ⟨some 18, none, .pick (.t 13) (.v (.b true)) (.t 17)⟩] [1, 18])
 (.cond (.t 18)
 (.seq
 (.reg [
 ⟨some 2, none, .mov (.v (.b false))⟩] [2])
 (.ret))
 (.skip)))
 (.seq
 (.seq
 (.reg [
 ⟨some 19, none, .fieldAddr 1 (.t 1)⟩,
 ⟨some 20, none, .load false 1 (.t 19)⟩,
 ⟨some 21, none, .len (.t 20)⟩,
 ⟨some 22, none, .mov (.v (.i .i64 0))⟩] [1, 20, 21, 22])
 (.block 0
 (.loop [1, 20, 21, 22]
 (.seq
 (.reg [
 ⟨some 23, none, .bin .lss (.t 22) (.t 21)⟩] [1, 20, 21, 22, 23])
 (.seq
 (.cond (.t 23)
 (.skip)
 (.exit 0))
 (.seq
 (.block 1
 (.seq
 (.reg [
 ⟨some 24, none, .mov (.t 22)⟩,
 ⟨some 25, none, .indexAddr 2 (.t 20) (.t 22)⟩,
 ⟨some 26, none, .load true 2 (.t 25)⟩,
 ⟨some 4, none, .alloc [.i .i64 0, .i .i64 0]⟩,
 ⟨some 3, none, .mov (.t 24)⟩,
 ⟨none, none, .store 2 (.t 4) (.t 26)⟩] [1, 3, 4, 20, 21, 22])
 (.seq
 (.draw [0, 1, 3, 7, 15, 31, 15, 79, 255, 511, 1023, 2047, 4095, 2047, 10239, 32767, 65535, 131071, 262143, 524287, 1048575, 2097151, 4194303, 2097151, 10485759, 33554431, 67108863, 2097151, 268435455, 536870911, 1073741823, 2147483647] [
 ⟨some 27, none, .fieldAddr 0 (.t 4)⟩,
 ⟨some 28, none, .load false 1 (.t 27)⟩,
 ⟨some 29, none, .bin .lss (.t 28) (.v (.i .i64 0))⟩,
 ⟨some 30, none, .mov (.t 29)⟩,
 ⟨some 31, (some (30, false)), .fieldAddr 0 (.t 4)⟩,
 ⟨some 32, (some (30, false)), .load false 1 (.t 31)⟩,
 ⟨some 33, (some (30, false)), .fieldAddr 1 (.t 4)⟩,
 ⟨some 34, (some (30, false)), .load false 1 (.t 33)⟩,
 ⟨some 35, (some (30, false)), .bin .geq (.t 32) (.t 34)⟩,
 ⟨some 36, none, .pick (.t 30) (.v (.b true)) (.t 35)⟩,
 ⟨some 37, none, .mov (.t 36)⟩,
 ⟨some 38, (some (37, false)), .fieldAddr 1 (.t 4)⟩,
 ⟨some 39, (some (37, false)), .load false 1 (.t 38)⟩,
 ⟨some 40, (some (37, false)), .fieldAddr 0 (.t 1)⟩,
 ⟨some 41, (some (37, false)), .load false 1 (.t 40)⟩,
 ⟨some 42, (some (37, false)), .bin .geq (.t 39) (.t 41)⟩,
 ⟨some 43, none, .pick (.t 37) (.v (.b true)) (.t 42)⟩,
 ⟨some 44, none, .mov (.t 43)⟩,
 ⟨some 45, (some (44, false)), .mov (.t 3)⟩,
 ⟨some 46, (some (44, false)), .bin .gtr (.t 45) (.v (.i .i64 0))⟩,
 ⟨some 47, (some (44, false)), .mov (.t 46)⟩,
 ⟨some 48, (some (47, true)), .fieldAddr 1 (.t 1)⟩,
 ⟨some 49, (some (47, true)), .load false 1 (.t 48)⟩,
 ⟨some 50, (some (47, true)), .mov (.t 3)⟩,
 ⟨some 51, (some (47, true)), .bin .sub (.t 50) (.v (.i .i64 1))⟩,
 ⟨some 52, (some (47, true)), .indexAddr 2 (.t 49) (.t 51)⟩,
 ⟨some 53, (some (47, true)), .load true 2 (.t 52)⟩,
 ⟨some 54, (some (47, true)), .load true 2 (.t 4)⟩,
 ⟨some 55, (some (47, true)), .call fid_impl_compareEdges false [.im, .im] [(.t 53), (.t 54)]⟩,
 ⟨some 56, (some (47, true)), .bin .geq (.t 55) (.v (.i .i64 0))⟩,
 ⟨some 57, (some (44, false)), .pick (.t 47) (.t 56) (.v (.b false))⟩,
 ⟨some 58, none, .pick (.t 44) (.v (.b true)) (.t 57)⟩] [1, 20, 21, 22, 58])
 (.cond (.t 58)
 (.seq
 (.reg [
 ⟨some 2, none, .mov (.v (.b false))⟩] [2])
 (.ret))
 (.skip)))))
 (.reg [
 ⟨some 59, none, .bin .add (.t 22) (.v (.i .i64 1))⟩,
 ⟨some 22, none, .mov (.t 59)⟩] [1, 20, 21, 22])))))))
 (.seq
 (.reg [
 ⟨some 2, none, .mov (.v (.b true))⟩] [2])
 (.ret))))
theorem get_impl_GraphValid : prog.funcs[fid_impl_GraphValid]? = some f41 := func41
theorem ok_impl_GraphValid : okFn prog f41 60 [] [(2, none)] mc_impl_GraphValid = true := by kernel_rfl
def mc_impl_TurnEdge : MCode :=
 .seq
 (.reg [
 ⟨some 2, none, .box 2 (.t 0)⟩,
 ⟨some 3, none, .box 2 (.t 1)⟩,
 ⟨some 4, none, .alloc [.i .i64 0, .nl 2]⟩,
 ⟨some 5, none, .mov (.v (.b false))⟩] [2, 3, 4])
 (.seq
 (.seq
 (.reg [
 ⟨some 6, none, .load true 2 (.t 2)⟩,
 ⟨some 7, none, .load true 2 (.t 3)⟩,
 ⟨some 8, none, .call fid_impl_HasEdge false [.im, .im] [(.t 6), (.t 7)]⟩] [2, 3, 4, 8])
 (.cond (.t 8)
 (.seq
 (.reg [
 ⟨some 9, none, .load true 2 (.t 2)⟩,
 ⟨some 10, none, .load true 2 (.t 3)⟩,
 ⟨some 11, none, .call fid_impl_CutEdge false [.im, .im] [(.t 9), (.t 10)]⟩,
 ⟨some 12, none, .extract (.t 11) 0⟩,
 ⟨some 13, none, .extract (.t 11) 1⟩,
 ⟨none, none, .store 2 (.t 4) (.t 12)⟩,
 ⟨some 5, none, .mov (.t 13)⟩] [4, 5])
 (.ret))
 (.skip)))
 (.seq
 (.reg [
 ⟨some 14, none, .load true 2 (.t 2)⟩,
 ⟨some 15, none, .load true 2 (.t 3)⟩,
 ⟨some 16, none, .call fid_impl_PutEdge false [.im, .im] [(.t 14), (.t 15)]⟩,
 ⟨some 17, none, .extract (.t 16) 0⟩,
 ⟨some 18, none, .extract (.t 16) 1⟩,
 ⟨none, none, .store 2 (.t 4) (.t 17)⟩,
 ⟨some 5, none, .mov (.t 18)⟩] [4, 5])
 (.ret)))
theorem get_impl_TurnEdge : prog.funcs[fid_impl_TurnEdge]? = some f42 := func42
theorem ok_impl_TurnEdge : okFn prog f42 19 [] [(4, some (true, 2)), (5, none)] mc_impl_TurnEdge = true := by kernel_rfl
def mc_impl_PartsOf : MCode :=
 .seq
 (.reg [
 ⟨some 1, none, .box 2 (.t 0)⟩,
 ⟨some 2, none, .mov (.v (.nl 1))⟩] [1])
 (.seq
 (.seq
 (.reg [
 ⟨some 3, none, .load true 2 (.t 1)⟩,
 ⟨some 4, none, .call fid_impl_GraphValid false [.im] [(.t 3)]⟩,
 ⟨some 5, none, .un .not (.t 4)⟩] [1, 5])
 (.cond (.t 5)
 (.seq
 (.reg [
 ⟨some 2, none, .mov (.v (.nl 1))⟩] [2])
 (.ret))
 (.skip)))
 (.seq
 (.reg [
 ⟨some 6, none, .load true 2 (.t 1)⟩,
 ⟨some 7, none, .call fid_impl_Graph_parts false [.im] [(.t 6)]⟩,
 ⟨some 2, none, .mov (.t 7)⟩] [2])
 (.ret)))
theorem get_impl_PartsOf : prog.funcs[fid_impl_PartsOf]? = some f43 := func43
theorem ok_impl_PartsOf : okFn prog f43 8 [] [(2, none)] mc_impl_PartsOf = true := by kernel_rfl
def mc_impl_Graph_edgesBy : MCode :=
 .seq
 (.reg [
 ⟨some 2, none, .box 2 (.t 0)⟩,
 ⟨some 3, none, .box 1 (.t 1)⟩,
 ⟨some 4, none, .mov (.v (.nl 2))⟩] [2, 3])
 (.seq
 (.reg [
 ⟨some 5, none, .load true 2 (.t 2)⟩,
 ⟨some 6, none, .mkfn fid_impl_Graph_edgesBy_1 [] [(.t 3)]⟩,
 ⟨some 7, none, .call fid_impl_Graph_without false [.im, .fn] [(.t 5), (.t 6)]⟩,
 ⟨some 8, none, .field false 1 1 (.t 7)⟩,
 ⟨some 4, none, .mov (.t 8)⟩] [4])
 (.ret))
theorem get_impl_Graph_edgesBy : prog.funcs[fid_impl_Graph_edgesBy]? = some f44 := func44
theorem ok_impl_Graph_edgesBy : okFn prog f44 9 [] [(4, none)] mc_impl_Graph_edgesBy = true := by kernel_rfl
def mc_impl_Graph_isBridge : MCode :=
 .seq
 (.reg [
 ⟨some 2, none, .box 2 (.t 0)⟩,
 ⟨some 3, none, .box 2 (.t 1)⟩,
 ⟨some 4, none, .mov (.v (.b false))⟩] [2, 3])
 (.seq
 (.draw [0, 0, 3, 0, 8, 0, 32, 127, 255, 511] [
 ⟨some 5, none, .load true 2 (.t 2)⟩,
 ⟨some 6, none, .load true 2 (.t 3)⟩,
 ⟨some 7, none, .call fid_impl_Graph_cut false [.im, .im] [(.t 5), (.t 6)]⟩,
 ⟨some 8, none, .fieldAddr 0 (.t 3)⟩,
 ⟨some 9, none, .load false 1 (.t 8)⟩,
 ⟨some 10, none, .fieldAddr 1 (.t 3)⟩,
 ⟨some 11, none, .load false 1 (.t 10)⟩,
 ⟨some 12, none, .call fid_impl_Graph_connected false [.im, .im, .im] [(.t 7), (.t 9), (.t 11)]⟩,
 ⟨some 13, none, .un .not (.t 12)⟩,
 ⟨some 4, none, .mov (.t 13)⟩] [4])
 (.ret))
theorem get_impl_Graph_isBridge : prog.funcs[fid_impl_Graph_isBridge]? = some f45 := func45
theorem ok_impl_Graph_isBridge : okFn prog f45 14 [] [(4, none)] mc_impl_Graph_isBridge = true := by kernel_rfl
def mc_impl_Graph_nodesBy : MCode :=
 .seq
 (.reg [
 ⟨some 2, none, .box 2 (.t 0)⟩,
 ⟨some 4, none, .mov (.v (.nl 1))⟩] [1, 2])
 (.seq
 (.reg [
 ⟨some 7, none, .buildSlice 1 []⟩,
 ⟨some 5, none, .mov (.t 7)⟩] [1, 2, 5])
 (.seq
 (.seq
 (.reg [
 ⟨some 8, none, .fieldAddr 0 (.t 2)⟩,
 ⟨some 9, none, .load false 1 (.t 8)⟩,
 ⟨some 10, none, .mov (.v (.i .i64 0))⟩] [1, 5, 9, 10])
 (.block 0
 (.loop [1, 5, 9, 10]
 (.seq
 (.reg [
 ⟨some 11, none, .bin .lss (.t 10) (.t 9)⟩] [1, 5, 9, 10, 11])
 (.seq
 (.cond (.t 11)
 (.skip)
 (.exit 0))
 (.seq
 (.block 1
 (.seq
 (.reg [
 ⟨some 12, none, .mov (.t 10)⟩,
 ⟨some 6, none, .mov (.t 12)⟩] [1, 5, 6, 9, 10])
 (.seq
 (.reg [
 ⟨some 13, none, .mov (.t 1)⟩,
 ⟨some 14, none, .mov (.t 6)⟩,
 ⟨some 15, none, .callv (.t 13) [(.t 14)]⟩] [1, 5, 6, 9, 10, 15])
 (.cond (.t 15)
 (.reg [
 ⟨some 16, none, .mov (.t 5)⟩,
 ⟨some 17, none, .mov (.t 6)⟩,
 ⟨some 18, none, .buildSlice 1 [(.t 17)]⟩,
 ⟨some 19, none, .append 1 8 true (.t 16) (.t 18)⟩,
 ⟨some 5, none, .mov (.t 19)⟩] [1, 5, 9, 10])
 (.skip)))))
 (.reg [
 ⟨some 20, none, .bin .add (.t 10) (.v (.i .i64 1))⟩,
 ⟨some 10, none, .mov (.t 20)⟩] [1, 5, 9, 10])))))))
 (.seq
 (.reg [
 ⟨some 21, none, .mov (.t 5)⟩,
 ⟨some 4, none, .mov (.t 21)⟩] [4])
 (.ret))))
theorem get_impl_Graph_nodesBy : prog.funcs[fid_impl_Graph_nodesBy]? = some f46 := func46
theorem ok_impl_Graph_nodesBy : okFn prog f46 22 [] [(4, none)] mc_impl_Graph_nodesBy = true := by kernel_rfl
def mc_impl_Graph_isCutNode : MCode :=
 .seq
 (.reg [
 ⟨some 2, none, .box 2 (.t 0)⟩,
 ⟨some 4, none, .mov (.v (.b false))⟩] [1, 2])
 (.seq
 (.draw [0, 0, 3, 7, 0, 0, 63, 0, 0, 511, 1023] [
 ⟨some 7, none, .load true 2 (.t 2)⟩,
 ⟨some 8, none, .mov (.t 1)⟩,
 ⟨some 9, none, .call fid_impl_Graph_cutNode false [.im, .im] [(.t 7), (.t 8)]⟩,
 ⟨some 10, none, .call fid_impl_Graph_parts false [.im] [(.t 9)]⟩,
 ⟨some 11, none, .load true 2 (.t 2)⟩,
 ⟨some 12, none, .mov (.t 1)⟩,
 ⟨some 13, none, .call fid_impl_Graph_neighbors false [.im, .im] [(.t 11), (.t 12)]⟩,
 ⟨some 5, none, .alloc [.nl 1]⟩,
 ⟨some 6, none, .alloc [.nl 1]⟩,
 ⟨none, none, .store 1 (.t 5) (.t 10)⟩,
 ⟨none, none, .store 1 (.t 6) (.t 13)⟩] [5, 6])
 (.seq
 (.reg [
 ⟨some 14, none, .load false 1 (.t 6)⟩,
 ⟨some 15, none, .mkfn fid_impl_Graph_isCutNode_1 [] [(.t 5), (.t 6)]⟩,
 ⟨some 16, none, .call fid_slices_ContainsFunc_int_int false [.im, .fn] [(.t 14), (.t 15)]⟩,
 ⟨some 4, none, .mov (.t 16)⟩] [4])
 (.ret)))
theorem get_impl_Graph_isCutNode : prog.funcs[fid_impl_Graph_isCutNode]? = some f47 := func47
theorem ok_impl_Graph_isCutNode : okFn prog f47 17 [] [(4, none)] mc_impl_Graph_isCutNode = true := by kernel_rfl
def mc_impl_compareEdges : MCode :=
 .seq
 (.reg [
 ⟨some 2, none, .box 2 (.t 0)⟩,
 ⟨some 3, none, .box 2 (.t 1)⟩,
 ⟨some 4, none, .mov (.v (.i .i64 0))⟩] [2, 3])
 (.seq
 (.draw [0, 1, 0, 4, 15, 0, 32, 0, 128, 511, 1023, 2047, 4095] [
 ⟨some 5, none, .fieldAddr 0 (.t 2)⟩,
 ⟨some 6, none, .load false 1 (.t 5)⟩,
 ⟨some 7, none, .fieldAddr 0 (.t 3)⟩,
 ⟨some 8, none, .load false 1 (.t 7)⟩,
 ⟨some 9, none, .call fid_cmp_Compare_int false [.im, .im] [(.t 6), (.t 8)]⟩,
 ⟨some 10, none, .fieldAddr 1 (.t 2)⟩,
 ⟨some 11, none, .load false 1 (.t 10)⟩,
 ⟨some 12, none, .fieldAddr 1 (.t 3)⟩,
 ⟨some 13, none, .load false 1 (.t 12)⟩,
 ⟨some 14, none, .call fid_cmp_Compare_int false [.im, .im] [(.t 11), (.t 13)]⟩,
 ⟨some 15, none, .buildSlice 1 [(.t 9), (.t 14)]⟩,
 ⟨some 16, none, .call fid_cmp_Or_int false [.im] [(.t 15)]⟩,
 ⟨some 4, none, .mov (.t 16)⟩] [4])
 (.ret))
theorem get_impl_compareEdges : prog.funcs[fid_impl_compareEdges]? = some f58 := func58
theorem ok_impl_compareEdges : okFn prog f58 17 [] [(4, none)] mc_impl_compareEdges = true := by kernel_rfl
def mc_impl_HasEdge : MCode :=
 .seq
 (.reg [
 ⟨some 2, none, .box 2 (.t 0)⟩,
 ⟨some 3, none, .box 2 (.t 1)⟩,
 ⟨some 4, none, .mov (.v (.b false))⟩] [2, 3])
 (.seq
 (.reg [
 ⟨some 5, none, .load true 2 (.t 2)⟩,
 ⟨some 6, none, .call fid_impl_GraphValid false [.im] [(.t 5)]⟩,
 ⟨some 7, none, .mov (.t 6)⟩,
 ⟨some 8, (some (7, true)), .load true 2 (.t 2)⟩,
 ⟨some 9, (some (7, true)), .load true 2 (.t 3)⟩,
 ⟨some 10, (some (7, true)), .call fid_impl_Graph_has false [.im, .im] [(.t 8), (.t 9)]⟩,
 ⟨some 11, none, .pick (.t 7) (.t 10) (.v (.b false))⟩,
 ⟨some 4, none, .mov (.t 11)⟩] [4])
 (.ret))
theorem get_impl_HasEdge : prog.funcs[fid_impl_HasEdge]? = some f59 := func59
theorem ok_impl_HasEdge : okFn prog f59 12 [] [(4, none)] mc_impl_HasEdge = true := by kernel_rfl
def mc_impl_CutEdge : MCode :=
 .seq
 (.reg [
 ⟨some 2, none, .box 2 (.t 0)⟩,
 ⟨some 3, none, .box 2 (.t 1)⟩,
 ⟨some 4, none, .alloc [.i .i64 0, .nl 2]⟩,
 ⟨some 5, none, .mov (.v (.b false))⟩] [2, 3, 4])
 (.seq
 (.seq
 (.reg [
 ⟨some 6, none, .load true 2 (.t 2)⟩,
 ⟨some 7, none, .load true 2 (.t 3)⟩,
 ⟨some 8, none, .call fid_impl_HasEdge false [.im, .im] [(.t 6), (.t 7)]⟩,
 ⟨some 9, none, .un .not (.t 8)⟩] [2, 3, 4, 9])
 (.cond (.t 9)
 (.seq
 (.reg [
 ⟨some 10, none, .build [.i .i64 0, .nl 2] []⟩,
 ⟨none, none, .store 2 (.t 4) (.t 10)⟩,
 ⟨some 5, none, .mov (.v (.b false))⟩] [4, 5])
 (.ret))
 (.skip)))
 (.seq
 (.reg [
 ⟨some 11, none, .load true 2 (.t 2)⟩,
 ⟨some 12, none, .load true 2 (.t 3)⟩,
 ⟨some 13, none, .call fid_impl_Graph_cut false [.im, .im] [(.t 11), (.t 12)]⟩,
 ⟨none, none, .store 2 (.t 4) (.t 13)⟩,
 ⟨some 5, none, .mov (.v (.b true))⟩] [4, 5])
 (.ret)))
theorem get_impl_CutEdge : prog.funcs[fid_impl_CutEdge]? = some f60 := func60
theorem ok_impl_CutEdge : okFn prog f60 14 [] [(4, some (true, 2)), (5, none)] mc_impl_CutEdge = true := by kernel_rfl
def mc_impl_PutEdge : MCode :=
 .seq
 (.reg [
 ⟨some 2, none, .box 2 (.t 0)⟩,
 ⟨some 3, none, .box 2 (.t 1)⟩,
 ⟨some 4, none, .alloc [.i .i64 0, .nl 2]⟩,
 ⟨some 5, none, .mov (.v (.b false))⟩] [2, 3, 4])
 (.seq
 (.seq
 (.reg [
 ⟨some 9, none, .load true 2 (.t 2)⟩,
 ⟨some 10, none, .call fid_impl_GraphValid false [.im] [(.t 9)]⟩,
 ⟨some 11, none, .un .not (.t 10)⟩,
 ⟨some 12, none, .mov (.t 11)⟩,
 ⟨some 13, (some (12, false)), .load true 2 (.t 2)⟩,
 ⟨some 14, (some (12, false)), .load true 2 (.t 3)⟩,
 ⟨some 15, (some (12, false)), .call fid_impl_Graph_has false [.im, .im] [(.t 13), (.t 14)]⟩,
 ⟨some 16, none, .pick (.t 12) (.v (.b true)) (.t 15)⟩] [2, 3, 4, 16])
 (.cond (.t 16)
 (.seq
 (.reg [
 ⟨some 17, none, .build [.i .i64 0, .nl 2] []⟩,
 ⟨none, none, .store 2 (.t 4) (.t 17)⟩,
 ⟨some 5, none, .mov (.v (.b false))⟩] [4, 5])
 (.ret))
 (.skip)))
 (.seq
 (.reg [
 ⟨some 19, none, .fieldAddr 1 (.t 2)⟩,
 ⟨some 20, none, .load false 1 (.t 19)⟩,
 ⟨some 21, none, .load true 2 (.t 3)⟩,
 ⟨some 22, none, .call fid_slices_BinarySearchFunc_impl_Edge_impl_Edge_impl_Edge false [.im, .im, .fn] [(.t 20), (.t 21), (.v (.clo fid_impl_compareEdges [] []))]⟩,
 ⟨some 18, none, .mov (.t 22)⟩,
 ⟨some 23, none, .extract (.t 18) 0⟩,
 ⟨some 24, none, .extract (.t 18) 1⟩,
 ⟨some 6, none, .mov (.t 23)⟩,
 ⟨some 7, none, .mov (.t 24)⟩] [2, 3, 4, 6])
 (.seq
 (.draw [0, 1, 0, 4, 12, 0, 0, 64, 252, 511, 0, 2047] [
 ⟨some 25, none, .fieldAddr 0 (.t 2)⟩,
 ⟨some 26, none, .load false 1 (.t 25)⟩,
 ⟨some 27, none, .fieldAddr 1 (.t 2)⟩,
 ⟨some 28, none, .load false 1 (.t 27)⟩,
 ⟨some 29, none, .call fid_slices_Clone_impl_Edge_impl_Edge false [.im] [(.t 28)]⟩,
 ⟨some 30, none, .mov (.t 6)⟩,
 ⟨some 31, none, .load true 2 (.t 3)⟩,
 ⟨some 32, none, .buildSlice 2 [(.t 31)]⟩,
 ⟨some 33, none, .call fid_slices_Insert_impl_Edge_impl_Edge false [.co, .im, .co] [(.t 29), (.t 30), (.t 32)]⟩,
 ⟨some 34, none, .build [.i .i64 0, .nl 2] [(0, 1, (.t 26)), (1, 1, (.t 33))]⟩,
 ⟨some 8, none, .alloc [.i .i64 0, .nl 2]⟩,
 ⟨none, none, .store 2 (.t 8) (.t 34)⟩] [4, 8])
 (.seq
 (.seq
 (.reg [
 ⟨some 35, none, .load true 2 (.t 8)⟩,
 ⟨some 36, none, .call fid_impl_GraphValid false [.im] [(.t 35)]⟩,
 ⟨some 37, none, .un .not (.t 36)⟩] [4, 8, 37])
 (.cond (.t 37)
 (.seq
 (.reg [
 ⟨some 38, none, .build [.i .i64 0, .nl 2] []⟩,
 ⟨none, none, .store 2 (.t 4) (.t 38)⟩,
 ⟨some 5, none, .mov (.v (.b false))⟩] [4, 5])
 (.ret))
 (.skip)))
 (.seq
 (.reg [
 ⟨some 39, none, .load true 2 (.t 8)⟩,
 ⟨none, none, .store 2 (.t 4) (.t 39)⟩,
 ⟨some 5, none, .mov (.v (.b true))⟩] [4, 5])
 (.ret))))))
theorem get_impl_PutEdge : prog.funcs[fid_impl_PutEdge]? = some f61 := func61
theorem ok_impl_PutEdge : okFn prog f61 40 [] [(4, some (true, 2)), (5, none)] mc_impl_PutEdge = true := by kernel_rfl
def mc_impl_Graph_parts : MCode :=
 .seq
 (.reg [
 ⟨some 1, none, .box 2 (.t 0)⟩,
 ⟨some 2, none, .mov (.v (.nl 1))⟩] [1])
 (.seq
 (.reg [
 ⟨some 8, none, .buildSlice 1 []⟩,
 ⟨some 3, none, .mov (.t 8)⟩] [1, 3])
 (.seq
 (.seq
 (.reg [
 ⟨some 9, none, .fieldAddr 0 (.t 1)⟩,
 ⟨some 10, none, .load false 1 (.t 9)⟩,
 ⟨some 11, none, .mov (.v (.i .i64 0))⟩] [1, 3, 10, 11])
 (.block 0
 (.loop [1, 3, 10, 11]
 (.seq
 (.reg [
 ⟨some 12, none, .bin .lss (.t 11) (.t 10)⟩] [1, 3, 10, 11, 12])
 (.seq
 (.cond (.t 12)
 (.skip)
 (.exit 0))
 (.seq
 (.block 1
 (.seq
 (.reg [
 ⟨some 13, none, .mov (.t 11)⟩,
 ⟨some 4, none, .mov (.t 13)⟩] [1, 3, 4, 10, 11])
 (.reg [
 ⟨some 14, none, .mov (.t 3)⟩,
 ⟨some 15, none, .mov (.t 4)⟩,
 ⟨some 16, none, .buildSlice 1 [(.t 15)]⟩,
 ⟨some 17, none, .append 1 8 true (.t 14) (.t 16)⟩,
 ⟨some 3, none, .mov (.t 17)⟩] [1, 3, 10, 11])))
 (.reg [
 ⟨some 18, none, .bin .add (.t 11) (.v (.i .i64 1))⟩,
 ⟨some 11, none, .mov (.t 18)⟩] [1, 3, 10, 11])))))))
 (.seq
 (.seq
 (.reg [
 ⟨some 19, none, .fieldAddr 0 (.t 1)⟩,
 ⟨some 20, none, .load false 1 (.t 19)⟩,
 ⟨some 21, none, .mov (.v (.i .i64 0))⟩] [1, 3, 20, 21])
 (.block 2
 (.loop [1, 3, 20, 21]
 (.seq
 (.reg [
 ⟨some 22, none, .bin .lss (.t 21) (.t 20)⟩] [1, 3, 20, 21, 22])
 (.seq
 (.cond (.t 22)
 (.skip)
 (.exit 2))
 (.seq
 (.block 3
 (.seq
 (.reg [
 ⟨some 23, none, .fieldAddr 1 (.t 1)⟩,
 ⟨some 24, none, .load false 1 (.t 23)⟩,
 ⟨some 25, none, .len (.t 24)⟩,
 ⟨some 26, none, .mov (.v (.i .i64 0))⟩] [1, 3, 20, 21, 24, 25, 26])
 (.block 4
 (.loop [1, 3, 20, 21, 24, 25, 26]
 (.seq
 (.reg [
 ⟨some 27, none, .bin .lss (.t 26) (.t 25)⟩] [1, 3, 20, 21, 24, 25, 26, 27])
 (.seq
 (.cond (.t 27)
 (.skip)
 (.exit 4))
 (.seq
 (.block 5
 (.seq
 (.reg [
 ⟨some 28, none, .indexAddr 2 (.t 24) (.t 26)⟩,
 ⟨some 29, none, .load true 2 (.t 28)⟩,
 ⟨some 6, none, .alloc [.i .i64 0, .i .i64 0]⟩,
 ⟨none, none, .store 2 (.t 6) (.t 29)⟩] [1, 3, 6, 20, 21, 24, 25, 26])
 (.seq
 (.draw [0, 0, 2, 7, 15, 0, 0, 64, 224, 480, 1023, 2047] [
 ⟨some 30, none, .mov (.t 3)⟩,
 ⟨some 31, none, .fieldAddr 0 (.t 6)⟩,
 ⟨some 32, none, .load false 1 (.t 31)⟩,
 ⟨some 33, none, .indexAddr 1 (.t 30) (.t 32)⟩,
 ⟨some 34, none, .load false 1 (.t 33)⟩,
 ⟨some 35, none, .mov (.t 3)⟩,
 ⟨some 36, none, .fieldAddr 1 (.t 6)⟩,
 ⟨some 37, none, .load false 1 (.t 36)⟩,
 ⟨some 38, none, .indexAddr 1 (.t 35) (.t 37)⟩,
 ⟨some 39, none, .load false 1 (.t 38)⟩,
 ⟨some 40, none, .minmax false (.t 34) (.t 39)⟩,
 ⟨some 7, none, .mov (.t 40)⟩] [1, 3, 6, 7, 20, 21, 24, 25, 26])
 (.draw [0, 0, 2, 0, 0, 16, 0, 0, 71, 327, 1023, 2047] [
 ⟨some 41, none, .mov (.t 3)⟩,
 ⟨some 42, none, .fieldAddr 0 (.t 6)⟩,
 ⟨some 43, none, .load false 1 (.t 42)⟩,
 ⟨some 44, none, .mov (.t 3)⟩,
 ⟨some 45, none, .fieldAddr 1 (.t 6)⟩,
 ⟨some 46, none, .load false 1 (.t 45)⟩,
 ⟨some 47, none, .mov (.t 7)⟩,
 ⟨some 48, none, .mov (.t 7)⟩,
 ⟨some 49, none, .indexAddr 1 (.t 41) (.t 43)⟩,
 ⟨none, none, .store 1 (.t 49) (.t 47)⟩,
 ⟨some 50, none, .indexAddr 1 (.t 44) (.t 46)⟩,
 ⟨none, none, .store 1 (.t 50) (.t 48)⟩] [1, 3, 20, 21, 24, 25, 26]))))
 (.reg [
 ⟨some 51, none, .bin .add (.t 26) (.v (.i .i64 1))⟩,
 ⟨some 26, none, .mov (.t 51)⟩] [1, 3, 20, 21, 24, 25, 26]))))))))
 (.reg [
 ⟨some 52, none, .bin .add (.t 21) (.v (.i .i64 1))⟩,
 ⟨some 21, none, .mov (.t 52)⟩] [1, 3, 20, 21])))))))
 (.seq
 (.reg [
 ⟨some 53, none, .mov (.t 3)⟩,
 ⟨some 2, none, .mov (.t 53)⟩] [2])
 (.ret)))))
theorem get_impl_Graph_parts : prog.funcs[fid_impl_Graph_parts]? = some f62 := func62
theorem ok_impl_Graph_parts : okFn prog f62 54 [] [(2, none)] mc_impl_Graph_parts = true := by kernel_rfl
def mc_impl_Graph_without : MCode :=
 .seq
 (.reg [
 ⟨some 2, none, .box 2 (.t 0)⟩,
 ⟨some 4, none, .alloc [.i .i64 0, .nl 2]⟩] [1, 2, 4])
 (.seq
 (.draw [0, 1, 0, 4, 12, 0, 60, 127, 255] [
 ⟨some 5, none, .fieldAddr 0 (.t 2)⟩,
 ⟨some 6, none, .load false 1 (.t 5)⟩,
 ⟨some 7, none, .fieldAddr 1 (.t 2)⟩,
 ⟨some 8, none, .load false 1 (.t 7)⟩,
 ⟨some 9, none, .call fid_slices_Clone_impl_Edge_impl_Edge false [.im] [(.t 8)]⟩,
 ⟨some 10, none, .mov (.t 1)⟩,
 ⟨some 11, none, .call fid_slices_DeleteFunc_impl_Edge_impl_Edge false [.co, .fn] [(.t 9), (.t 10)]⟩,
 ⟨some 12, none, .build [.i .i64 0, .nl 2] [(0, 1, (.t 6)), (1, 1, (.t 11))]⟩,
 ⟨none, none, .store 2 (.t 4) (.t 12)⟩] [4])
 (.ret))
theorem get_impl_Graph_without : prog.funcs[fid_impl_Graph_without]? = some f63 := func63
theorem ok_impl_Graph_without : okFn prog f63 13 [] [(4, some (true, 2))] mc_impl_Graph_without = true := by kernel_rfl
def mc_impl_Graph_edgesBy_1 : MCode :=
 .seq
 (.reg [
 ⟨some 2, none, .box 2 (.t 0)⟩,
 ⟨some 3, none, .mov (.v (.b false))⟩] [1, 2])
 (.seq
 (.reg [
 ⟨some 4, none, .load false 1 (.t 1)⟩,
 ⟨some 5, none, .load true 2 (.t 2)⟩,
 ⟨some 6, none, .callv (.t 4) [(.t 5)]⟩,
 ⟨some 7, none, .un .not (.t 6)⟩,
 ⟨some 3, none, .mov (.t 7)⟩] [3])
 (.ret))
theorem get_impl_Graph_edgesBy_1 : prog.funcs[fid_impl_Graph_edgesBy_1]? = some f64 := func64
theorem ok_impl_Graph_edgesBy_1 : okFn prog f64 8 [] [(3, none)] mc_impl_Graph_edgesBy_1 = true := by kernel_rfl
def mc_impl_Graph_cut : MCode :=
 .seq
 (.reg [
 ⟨some 2, none, .box 2 (.t 0)⟩,
 ⟨some 3, none, .box 2 (.t 1)⟩,
 ⟨some 4, none, .alloc [.i .i64 0, .nl 2]⟩] [2, 3, 4])
 (.seq
 (.reg [
 ⟨some 5, none, .load true 2 (.t 2)⟩,
 ⟨some 6, none, .mkfn fid_impl_Graph_cut_1 [] [(.t 3)]⟩,
 ⟨some 7, none, .call fid_impl_Graph_without false [.im, .fn] [(.t 5), (.t 6)]⟩,
 ⟨none, none, .store 2 (.t 4) (.t 7)⟩] [4])
 (.ret))
theorem get_impl_Graph_cut : prog.funcs[fid_impl_Graph_cut]? = some f65 := func65
theorem ok_impl_Graph_cut : okFn prog f65 8 [] [(4, some (true, 2))] mc_impl_Graph_cut = true := by kernel_rfl
def mc_impl_Graph_connected : MCode :=
 .seq
 (.reg [
 ⟨some 3, none, .box 2 (.t 0)⟩,
 ⟨some 6, none, .mov (.v (.b false))⟩] [1, 2, 3])
 (.seq
 (.reg [
 ⟨some 8, none, .load true 2 (.t 3)⟩,
 ⟨some 9, none, .call fid_impl_Graph_parts false [.im] [(.t 8)]⟩,
 ⟨some 7, none, .mov (.t 9)⟩] [1, 2, 7])
 (.seq
 (.draw [0, 0, 3, 7, 0, 0, 48, 112, 255, 511] [
 ⟨some 10, none, .mov (.t 7)⟩,
 ⟨some 11, none, .mov (.t 1)⟩,
 ⟨some 12, none, .indexAddr 1 (.t 10) (.t 11)⟩,
 ⟨some 13, none, .load false 1 (.t 12)⟩,
 ⟨some 14, none, .mov (.t 7)⟩,
 ⟨some 15, none, .mov (.t 2)⟩,
 ⟨some 16, none, .indexAddr 1 (.t 14) (.t 15)⟩,
 ⟨some 17, none, .load false 1 (.t 16)⟩,
 ⟨some 18, none, .bin .eql (.t 13) (.t 17)⟩,
 ⟨some 6, none, .mov (.t 18)⟩] [6])
 (.ret)))
theorem get_impl_Graph_connected : prog.funcs[fid_impl_Graph_connected]? = some f66 := func66
theorem ok_impl_Graph_connected : okFn prog f66 19 [] [(6, none)] mc_impl_Graph_connected = true := by kernel_rfl
def mc_impl_Graph_cutNode : MCode :=
 .seq
 (.reg [
 ⟨some 2, none, .box 2 (.t 0)⟩,
 ⟨some 3, none, .box 1 (.t 1)⟩,
 ⟨some 4, none, .alloc [.i .i64 0, .nl 2]⟩] [2, 3, 4])
 (.seq
 (.reg [
 ⟨some 5, none, .load true 2 (.t 2)⟩,
 ⟨some 6, none, .mkfn fid_impl_Graph_cutNode_1 [] [(.t 3)]⟩,
 ⟨some 7, none, .call fid_impl_Graph_without false [.im, .fn] [(.t 5), (.t 6)]⟩,
 ⟨none, none, .store 2 (.t 4) (.t 7)⟩] [4])
 (.ret))
theorem get_impl_Graph_cutNode : prog.funcs[fid_impl_Graph_cutNode]? = some f67 := func67
theorem ok_impl_Graph_cutNode : okFn prog f67 8 [] [(4, some (true, 2))] mc_impl_Graph_cutNode = true := by kernel_rfl
def mc_impl_Graph_neighbors : MCode :=
 .seq
 (.reg [
 ⟨some 2, none, .box 2 (.t 0)⟩,
 ⟨some 4, none, .mov (.v (.nl 1))⟩] [1, 2])
 (.seq
 (.reg [
 ⟨some 8, none, .buildSlice 1 []⟩,
 ⟨some 5, none, .mov (.t 8)⟩] [1, 2, 5])
 (.seq
 (.seq
 (.reg [
 ⟨some 9, none, .fieldAddr 1 (.t 2)⟩,
 ⟨some 10, none, .load false 1 (.t 9)⟩,
 ⟨some 11, none, .len (.t 10)⟩,
 ⟨some 12, none, .mov (.v (.i .i64 0))⟩] [1, 5, 10, 11, 12])
 (.block 0
 (.loop [1, 5, 10, 11, 12]
 (.seq
 (.reg [
 ⟨some 13, none, .bin .lss (.t 12) (.t 11)⟩] [1, 5, 10, 11, 12, 13])
 (.seq
 (.cond (.t 13)
 (.skip)
 (.exit 0))
 (.seq
 (.block 1
 (.seq
 (.reg [
 ⟨some 14, none, .indexAddr 2 (.t 10) (.t 12)⟩,
 ⟨some 15, none, .load true 2 (.t 14)⟩,
 ⟨some 7, none, .alloc [.i .i64 0, .i .i64 0]⟩,
 ⟨none, none, .store 2 (.t 7) (.t 15)⟩] [1, 5, 7, 10, 11, 12])
 (.seq
 (.reg [
 ⟨some 16, none, .mov (.t 1)⟩] [1, 5, 7, 10, 11, 12, 16])
 (.block 2
 (.seq
 (.reg [
 ⟨some 18, none, .fieldAddr 0 (.t 7)⟩,
 ⟨some 19, none, .load false 1 (.t 18)⟩,
 ⟨some 20, none, .bin .eql (.t 16) (.t 19)⟩,
 ⟨some 17, none, .mov (.t 20)⟩] [1, 5, 7, 10, 11, 12, 16, 17])
 (.cond (.t 17)
 (.reg [
 ⟨some 21, none, .mov (.t 5)⟩,
 ⟨some 22, none, .fieldAddr 1 (.t 7)⟩,
 ⟨some 23, none, .load false 1 (.t 22)⟩,
 ⟨some 24, none, .buildSlice 1 [(.t 23)]⟩,
 ⟨some 25, none, .append 1 8 true (.t 21) (.t 24)⟩,
 ⟨some 5, none, .mov (.t 25)⟩] [1, 5, 10, 11, 12])
 (.seq
 (.reg [
 ⟨some 27, none, .fieldAddr 1 (.t 7)⟩,
 ⟨some 28, none, .load false 1 (.t 27)⟩,
 ⟨some 29, none, .bin .eql (.t 16) (.t 28)⟩,
 ⟨some 26, none, .mov (.t 29)⟩] [1, 5, 7, 10, 11, 12, 26])
 (.cond (.t 26)
 (.reg [
 ⟨some 30, none, .mov (.t 5)⟩,
 ⟨some 31, none, .fieldAddr 0 (.t 7)⟩,
 ⟨some 32, none, .load false 1 (.t 31)⟩,
 ⟨some 33, none, .buildSlice 1 [(.t 32)]⟩,
 ⟨some 34, none, .append 1 8 true (.t 30) (.t 33)⟩,
 ⟨some 5, none, .mov (.t 34)⟩] [1, 5, 10, 11, 12])
 (.skip)))))))))
 (.reg [
 ⟨some 35, none, .bin .add (.t 12) (.v (.i .i64 1))⟩,
 ⟨some 12, none, .mov (.t 35)⟩] [1, 5, 10, 11, 12])))))))
 (.seq
 (.reg [
 ⟨some 36, none, .mov (.t 5)⟩,
 ⟨some 37, none, .call fid_slices_Sort_int_int false [.im] [(.t 36)]⟩] [5])
 (.seq
 (.reg [
 ⟨some 38, none, .mov (.t 5)⟩,
 ⟨some 4, none, .mov (.t 38)⟩] [4])
 (.ret)))))
theorem get_impl_Graph_neighbors : prog.funcs[fid_impl_Graph_neighbors]? = some f68 := func68
theorem ok_impl_Graph_neighbors : okFn prog f68 39 [] [(4, none)] mc_impl_Graph_neighbors = true := by kernel_rfl
def mc_slices_ContainsFunc_int_int : MCode :=
 .seq
 (.reg [
 ⟨some 4, none, .mov (.v (.b false))⟩] [0, 1])
 (.seq
 (.reg [
 ⟨some 5, none, .mov (.t 0)⟩,
 ⟨some 6, none, .mov (.t 1)⟩,
 ⟨some 7, none, .call fid_slices_IndexFunc_int_int false [.im, .fn] [(.t 5), (.t 6)]⟩,
 ⟨some 8, none, .bin .geq (.t 7) (.v (.i .i64 0))⟩,
 ⟨some 4, none, .mov (.t 8)⟩] [4])
 (.ret))
theorem get_slices_ContainsFunc_int_int : prog.funcs[fid_slices_ContainsFunc_int_int]? = some f69 := func69
theorem ok_slices_ContainsFunc_int_int : okFn prog f69 9 [] [(4, none)] mc_slices_ContainsFunc_int_int = true := by kernel_rfl
def mc_impl_Graph_isCutNode_1 : MCode :=
 .seq
 (.reg [
 ⟨some 4, none, .mov (.v (.b false))⟩] [0, 1, 2])
 (.seq
 (.draw [0, 0, 3, 7, 0, 0, 32, 96, 240, 496, 1023, 2047] [
 ⟨some 5, none, .load false 1 (.t 1)⟩,
 ⟨some 6, none, .mov (.t 0)⟩,
 ⟨some 7, none, .indexAddr 1 (.t 5) (.t 6)⟩,
 ⟨some 8, none, .load false 1 (.t 7)⟩,
 ⟨some 9, none, .load false 1 (.t 1)⟩,
 ⟨some 10, none, .load false 1 (.t 2)⟩,
 ⟨some 11, none, .indexAddr 1 (.t 10) (.v (.i .i64 0))⟩,
 ⟨some 12, none, .load false 1 (.t 11)⟩,
 ⟨some 13, none, .indexAddr 1 (.t 9) (.t 12)⟩,
 ⟨some 14, none, .load false 1 (.t 13)⟩,
 ⟨some 15, none, .bin .neq (.t 8) (.t 14)⟩,
 ⟨some 4, none, .mov (.t 15)⟩] [4])
 (.ret))
theorem get_impl_Graph_isCutNode_1 : prog.funcs[fid_impl_Graph_isCutNode_1]? = some f70 := func70
theorem ok_impl_Graph_isCutNode_1 : okFn prog f70 16 [] [(4, none)] mc_impl_Graph_isCutNode_1 = true := by kernel_rfl
def mc_cmp_Or_int : MCode :=
 .seq
 (.reg [
 ⟨some 2, none, .mov (.v (.i .i64 0))⟩] [0])
 (.seq
 (.reg [
 ⟨some 3, none, .mov (.v (.i .i64 0))⟩] [0, 3])
 (.seq
 (.seq
 (.reg [
 ⟨some 6, none, .mov (.t 0)⟩,
 ⟨some 7, none, .len (.t 6)⟩,
 ⟨some 8, none, .mov (.v (.i .i64 0))⟩] [3, 6, 7, 8])
 (.block 0
 (.loop [3, 6, 7, 8]
 (.seq
 (.reg [
 ⟨some 9, none, .bin .lss (.t 8) (.t 7)⟩] [3, 6, 7, 8, 9])
 (.seq
 (.cond (.t 9)
 (.skip)
 (.exit 0))
 (.seq
 (.block 1
 (.seq
 (.reg [
 ⟨some 10, none, .indexAddr 1 (.t 6) (.t 8)⟩,
 ⟨some 11, none, .load false 1 (.t 10)⟩,
 ⟨some 5, none, .mov (.t 11)⟩] [3, 5, 6, 7, 8])
 (.seq
 (.reg [
 ⟨some 12, none, .mov (.t 5)⟩,
 ⟨some 13, none, .mov (.t 3)⟩,
 ⟨some 14, none, .bin .neq (.t 12) (.t 13)⟩] [3, 5, 6, 7, 8, 14])
 (.cond (.t 14)
 (.seq
 (.reg [
 ⟨some 15, none, .mov (.t 5)⟩,
 ⟨some 2, none, .mov (.t 15)⟩] [2])
 (.ret))
 (.skip)))))
 (.reg [
 ⟨some 16, none, .bin .add (.t 8) (.v (.i .i64 1))⟩,
 ⟨some 8, none, .mov (.t 16)⟩] [3, 6, 7, 8])))))))
 (.seq
 (.reg [
 ⟨some 17, none, .mov (.t 3)⟩,
 ⟨some 2, none, .mov (.t 17)⟩] [2])
 (.ret))))
theorem get_cmp_Or_int : prog.funcs[fid_cmp_Or_int]? = some f74 := func74
theorem ok_cmp_Or_int : okFn prog f74 18 [] [(2, none)] mc_cmp_Or_int = true := by kernel_rfl
def mc_cmp_Compare_int : MCode :=
 .seq
 (.reg [
 ⟨some 4, none, .mov (.v (.i .i64 0))⟩] [0, 1])
 (.seq
 (.reg [
 ⟨some 7, none, .mov (.t 0)⟩,
 ⟨some 8, none, .call fid_cmp_isNaN_int false [.im] [(.t 7)]⟩,
 ⟨some 5, none, .mov (.t 8)⟩] [0, 1, 5])
 (.seq
 (.reg [
 ⟨some 9, none, .mov (.t 1)⟩,
 ⟨some 10, none, .call fid_cmp_isNaN_int false [.im] [(.t 9)]⟩,
 ⟨some 6, none, .mov (.t 10)⟩] [0, 1, 5, 6])
 (.seq
 (.seq
 (.reg [
 ⟨some 11, none, .mov (.t 5)⟩] [0, 1, 6, 11])
 (.cond (.t 11)
 (.seq
 (.seq
 (.reg [
 ⟨some 12, none, .mov (.t 6)⟩] [12])
 (.cond (.t 12)
 (.seq
 (.reg [
 ⟨some 4, none, .mov (.v (.i .i64 0))⟩] [4])
 (.ret))
 (.skip)))
 (.seq
 (.reg [
 ⟨some 4, none, .mov (.v (.i .i64 (-1)))⟩] [4])
 (.ret)))
 (.skip)))
 (.seq
 (.seq
 (.reg [
 ⟨some 13, none, .mov (.t 6)⟩] [0, 1, 13])
 (.cond (.t 13)
 (.seq
 (.reg [
 ⟨some 4, none, .mov (.v (.i .i64 1))⟩] [4])
 (.ret))
 (.skip)))
 (.seq
 (.seq
 (.reg [
 ⟨some 14, none, .mov (.t 0)⟩,
 ⟨some 15, none, .mov (.t 1)⟩,
 ⟨some 16, none, .bin .lss (.t 14) (.t 15)⟩] [0, 1, 16])
 (.cond (.t 16)
 (.seq
 (.reg [
 ⟨some 4, none, .mov (.v (.i .i64 (-1)))⟩] [4])
 (.ret))
 (.skip)))
 (.seq
 (.seq
 (.reg [
 ⟨some 17, none, .mov (.t 0)⟩,
 ⟨some 18, none, .mov (.t 1)⟩,
 ⟨some 19, none, .bin .gtr (.t 17) (.t 18)⟩] [19])
 (.cond (.t 19)
 (.seq
 (.reg [
 ⟨some 4, none, .mov (.v (.i .i64 1))⟩] [4])
 (.ret))
 (.skip)))
 (.seq
 (.reg [
 ⟨some 4, none, .mov (.v (.i .i64 0))⟩] [4])
 (.ret))))))))
theorem get_cmp_Compare_int : prog.funcs[fid_cmp_Compare_int]? = some f75 := func75
theorem ok_cmp_Compare_int : okFn prog f75 20 [] [(4, none)] mc_cmp_Compare_int = true := by kernel_rfl
def mc_impl_Graph_has : MCode :=
 .seq
 (.reg [
 ⟨some 2, none, .box 2 (.t 0)⟩,
 ⟨some 3, none, .box 2 (.t 1)⟩,
 ⟨some 4, none, .mov (.v (.b false))⟩] [2, 3])
 (.seq
 (.reg [
 ⟨some 5, none, .fieldAddr 1 (.t 2)⟩,
 ⟨some 6, none, .load false 1 (.t 5)⟩,
 ⟨some 7, none, .load true 2 (.t 3)⟩,
 ⟨some 8, none, .call fid_slices_Contains_impl_Edge_impl_Edge false [.im, .im] [(.t 6), (.t 7)]⟩,
 ⟨some 4, none, .mov (.t 8)⟩] [4])
 (.ret))
theorem get_impl_Graph_has : prog.funcs[fid_impl_Graph_has]? = some f76 := func76
theorem ok_impl_Graph_has : okFn prog f76 9 [] [(4, none)] mc_impl_Graph_has = true := by kernel_rfl
def mc_slices_BinarySearchFunc_impl_Edge_impl_Edge_impl_Edge : MCode :=
 .seq
 (.reg [
 ⟨some 4, none, .box 2 (.t 1)⟩,
 ⟨some 6, none, .mov (.v (.i .i64 0))⟩,
 ⟨some 7, none, .mov (.v (.b false))⟩] [0, 2, 4])
 (.seq
 (.reg [
 ⟨some 12, none, .mov (.t 0)⟩,
 ⟨some 13, none, .len (.t 12)⟩,
 ⟨some 8, none, .mov (.t 13)⟩] [0, 2, 4, 8])
 (.seq
 (.reg [
 ⟨some 14, none, .mov (.t 8)⟩,
 ⟨some 9, none, .mov (.v (.i .i64 0))⟩,
 ⟨some 10, none, .mov (.t 14)⟩] [0, 2, 4, 8, 9, 10])
 (.seq
 (.block 0
 (.loop [0, 2, 4, 8, 9, 10]
 (.seq
 (.seq
 (.reg [
 ⟨some 15, none, .mov (.t 9)⟩,
 ⟨some 16, none, .mov (.t 10)⟩,
 ⟨some 17, none, .bin .lss (.t 15) (.t 16)⟩] [0, 2, 4, 8, 9, 10, 17])
 (.cond (.t 17)
 (.skip)
 (.exit 0)))
 (.block 1
 (.seq
 (.reg [
 ⟨some 18, none, .mov (.t 9)⟩,
 ⟨some 19, none, .mov (.t 10)⟩,
 ⟨some 20, none, .bin .add (.t 18) (.t 19)⟩,
 ⟨some 21, none, .conv .u64 (.t 20)⟩,
 ⟨some 22, none, .bin .shr (.t 21) (.v (.i .u64 1))⟩,
 ⟨some 23, none, .conv .i64 (.t 22)⟩,
 ⟨some 11, none, .mov (.t 23)⟩] [0, 2, 4, 8, 9, 10, 11])
 (.seq
 (.draw [0, 0, 0, 6, 14, 0, 63, 127] [
 ⟨some 24, none, .mov (.t 2)⟩,
 ⟨some 25, none, .mov (.t 0)⟩,
 ⟨some 26, none, .mov (.t 11)⟩,
 ⟨some 27, none, .indexAddr 2 (.t 25) (.t 26)⟩,
 ⟨some 28, none, .load true 2 (.t 27)⟩,
 ⟨some 29, none, .load true 2 (.t 4)⟩,
 ⟨some 30, none, .callv (.t 24) [(.t 28), (.t 29)]⟩,
 ⟨some 31, none, .bin .lss (.t 30) (.v (.i .i64 0))⟩] [0, 2, 4, 8, 9, 10, 11, 31])
 (.cond (.t 31)
 (.reg [
 ⟨some 32, none, .mov (.t 11)⟩,
 ⟨some 33, none, .bin .add (.t 32) (.v (.i .i64 1))⟩,
 ⟨some 9, none, .mov (.t 33)⟩] [0, 2, 4, 8, 9, 10])
 (.reg [
 ⟨some 34, none, .mov (.t 11)⟩,
 ⟨some 10, none, .mov (.t 34)⟩] [0, 2, 4, 8, 9, 10]))))))))
 (.seq
 (.draw [0, 0, 0, 6, 14, 30, 30, 30, 222, 478, 30, 2046, 4094, 8190, 4095, 32767] [
 ⟨some 35, none, .mov (.t 9)⟩,
 ⟨some 36, none, .mov (.t 9)⟩,
 ⟨some 37, none, .mov (.t 8)⟩,
 ⟨some 38, none, .bin .lss (.t 36) (.t 37)⟩,
 ⟨some 39, none, .mov (.t 38)⟩,
 ⟨some 40, (some (39, true)), .mov (.t 2)⟩,
 ⟨some 41, (some (39, true)), .mov (.t 0)⟩,
 ⟨some 42, (some (39, true)), .mov (.t 9)⟩,
 ⟨some 43, (some (39, true)), .indexAddr 2 (.t 41) (.t 42)⟩,
 ⟨some 44, (some (39, true)), .load true 2 (.t 43)⟩,
 ⟨some 45, (some (39, true)), .load true 2 (.t 4)⟩,
 ⟨some 46, (some (39, true)), .callv (.t 40) [(.t 44), (.t 45)]⟩,
 ⟨some 47, (some (39, true)), .bin .eql (.t 46) (.v (.i .i64 0))⟩,
 ⟨some 48, none, .pick (.t 39) (.t 47) (.v (.b false))⟩,
 ⟨some 6, none, .mov (.t 35)⟩,
 ⟨some 7, none, .mov (.t 48)⟩] [6, 7])
 (.ret)))))
theorem get_slices_BinarySearchFunc_impl_Edge_impl_Edge_impl_Edge : prog.funcs[fid_slices_BinarySearchFunc_impl_Edge_impl_Edge_impl_Edge]? = some f77 := func77
theorem ok_slices_BinarySearchFunc_impl_Edge_impl_Edge_impl_Edge : okFn prog f77 49 [] [(6, none), (7, none)] mc_slices_BinarySearchFunc_impl_Edge_impl_Edge_impl_Edge = true := by kernel_rfl
def mc_slices_Insert_impl_Edge_impl_Edge : MCode :=
 .seq
 (.reg [
 ⟨some 6, none, .mov (.v (.nl 2))⟩] [0, 1, 2])
 (.seq
 (.reg [
 ⟨some 10, none, .mov (.t 0)⟩,
 ⟨some 11, none, .mov (.t 1)⟩,
 ⟨some 12, none, .slice 2 (.t 10) (some (.t 11)) none⟩] [0, 1, 2])
 (.seq
 (.reg [
 ⟨some 13, none, .mov (.t 2)⟩,
 ⟨some 14, none, .len (.t 13)⟩,
 ⟨some 7, none, .mov (.t 14)⟩] [0, 1, 2, 7])
 (.seq
 (.seq
 (.reg [
 ⟨some 15, none, .mov (.t 7)⟩,
 ⟨some 16, none, .bin .eql (.t 15) (.v (.i .i64 0))⟩] [0, 1, 2, 7, 16])
 (.cond (.t 16)
 (.seq
 (.reg [
 ⟨some 17, none, .mov (.t 0)⟩,
 ⟨some 6, none, .mov (.t 17)⟩] [6])
 (.ret))
 (.skip)))
 (.seq
 (.reg [
 ⟨some 18, none, .mov (.t 0)⟩,
 ⟨some 19, none, .len (.t 18)⟩,
 ⟨some 8, none, .mov (.t 19)⟩] [0, 1, 2, 7, 8])
 (.seq
 (.seq
 (.reg [
 ⟨some 20, none, .mov (.t 1)⟩,
 ⟨some 21, none, .mov (.t 8)⟩,
 ⟨some 22, none, .bin .eql (.t 20) (.t 21)⟩] [0, 1, 2, 7, 8, 22])
 (.cond (.t 22)
 (.seq
 (.reg [
 ⟨some 23, none, .mov (.t 0)⟩,
 ⟨some 24, none, .mov (.t 2)⟩,
 ⟨some 25, none, .append 2 16 false (.t 23) (.t 24)⟩,
 ⟨some 6, none, .mov (.t 25)⟩] [6])
 (.ret))
 (.skip)))
 (.seq
 (.seq
 (.reg [
 ⟨some 26, none, .mov (.t 8)⟩,
 ⟨some 27, none, .mov (.t 7)⟩,
 ⟨some 28, none, .bin .add (.t 26) (.t 27)⟩,
 ⟨some 29, none, .mov (.t 0)⟩,
 ⟨some 30, none, .cap (.t 29)⟩,
 ⟨some 31, none, .bin .gtr (.t 28) (.t 30)⟩] [0, 1, 2, 7, 8, 31])
 (.cond (.t 31)
 (.seq
 (.reg [
 ⟨some 32, none, .mov (.t 0)⟩,
 ⟨some 33, none, .mov (.t 1)⟩,
 ⟨some 34, none, .slice 2 (.t 32) none (some (.t 33))⟩,
 ⟨some 35, none, .mov (.t 8)⟩,
 ⟨some 36, none, .mov (.t 7)⟩,
 ⟨some 37, none, .bin .add (.t 35) (.t 36)⟩,
 ⟨some 38, none, .mov (.t 1)⟩,
 ⟨some 39, none, .bin .sub (.t 37) (.t 38)⟩,
 ⟨some 40, none, .appendMk 2 16 [.i .i64 0, .i .i64 0] (.t 34) (.t 39)⟩,
 ⟨some 9, none, .mov (.t 40)⟩] [0, 1, 2, 7, 9])
 (.seq
 (.reg [
 ⟨some 41, none, .mov (.t 9)⟩,
 ⟨some 42, none, .mov (.t 1)⟩,
 ⟨some 43, none, .slice 2 (.t 41) (some (.t 42)) none⟩,
 ⟨some 44, none, .mov (.t 2)⟩,
 ⟨some 45, none, .copy 2 (.t 43) (.t 44)⟩] [0, 1, 7, 9])
 (.seq
 (.draw [0, 0, 0, 6, 15, 0, 0, 96, 255] [
 ⟨some 46, none, .mov (.t 9)⟩,
 ⟨some 47, none, .mov (.t 1)⟩,
 ⟨some 48, none, .mov (.t 7)⟩,
 ⟨some 49, none, .bin .add (.t 47) (.t 48)⟩,
 ⟨some 50, none, .slice 2 (.t 46) (some (.t 49)) none⟩,
 ⟨some 51, none, .mov (.t 0)⟩,
 ⟨some 52, none, .mov (.t 1)⟩,
 ⟨some 53, none, .slice 2 (.t 51) (some (.t 52)) none⟩,
 ⟨some 54, none, .copy 2 (.t 50) (.t 53)⟩] [9])
 (.seq
 (.reg [
 ⟨some 55, none, .mov (.t 9)⟩,
 ⟨some 6, none, .mov (.t 55)⟩] [6])
 (.ret)))))
 (.skip)))
 (.seq
 (.reg [
 ⟨some 56, none, .mov (.t 0)⟩,
 ⟨some 57, none, .mov (.t 8)⟩,
 ⟨some 58, none, .mov (.t 7)⟩,
 ⟨some 59, none, .bin .add (.t 57) (.t 58)⟩,
 ⟨some 60, none, .slice 2 (.t 56) none (some (.t 59))⟩,
 ⟨some 0, none, .mov (.t 60)⟩] [0, 1, 2, 7, 8])
 (.seq
 (.seq
 (.reg [
 ⟨some 61, none, .mov (.t 2)⟩,
 ⟨some 62, none, .mov (.t 0)⟩,
 ⟨some 63, none, .mov (.t 1)⟩,
 ⟨some 64, none, .mov (.t 7)⟩,
 ⟨some 65, none, .bin .add (.t 63) (.t 64)⟩,
 ⟨some 66, none, .slice 2 (.t 62) (some (.t 65)) none⟩,
 ⟨some 67, none, .overlaps fid_slices_overlaps_impl_Edge (.t 61) (.t 66)⟩,
 ⟨some 68, none, .un .not (.t 67)⟩] [0, 1, 2, 7, 8, 68])
 (.cond (.t 68)
 (.seq
 (.draw [0, 0, 0, 6, 15, 0, 0, 96, 255] [
 ⟨some 69, none, .mov (.t 0)⟩,
 ⟨some 70, none, .mov (.t 1)⟩,
 ⟨some 71, none, .mov (.t 7)⟩,
 ⟨some 72, none, .bin .add (.t 70) (.t 71)⟩,
 ⟨some 73, none, .slice 2 (.t 69) (some (.t 72)) none⟩,
 ⟨some 74, none, .mov (.t 0)⟩,
 ⟨some 75, none, .mov (.t 1)⟩,
 ⟨some 76, none, .slice 2 (.t 74) (some (.t 75)) none⟩,
 ⟨some 77, none, .copy 2 (.t 73) (.t 76)⟩] [0, 1, 2])
 (.seq
 (.reg [
 ⟨some 78, none, .mov (.t 0)⟩,
 ⟨some 79, none, .mov (.t 1)⟩,
 ⟨some 80, none, .slice 2 (.t 78) (some (.t 79)) none⟩,
 ⟨some 81, none, .mov (.t 2)⟩,
 ⟨some 82, none, .copy 2 (.t 80) (.t 81)⟩] [0])
 (.seq
 (.reg [
 ⟨some 83, none, .mov (.t 0)⟩,
 ⟨some 6, none, .mov (.t 83)⟩] [6])
 (.ret))))
 (.skip)))
 (.seq
 (.reg [
 ⟨some 84, none, .mov (.t 0)⟩,
 ⟨some 85, none, .mov (.t 8)⟩,
 ⟨some 86, none, .slice 2 (.t 84) (some (.t 85)) none⟩,
 ⟨some 87, none, .mov (.t 2)⟩,
 ⟨some 88, none, .copy 2 (.t 86) (.t 87)⟩] [0, 1, 7])
 (.seq
 (.reg [
 ⟨some 89, none, .mov (.t 0)⟩,
 ⟨some 90, none, .mov (.t 1)⟩,
 ⟨some 91, none, .slice 2 (.t 89) (some (.t 90)) none⟩,
 ⟨some 92, none, .mov (.t 7)⟩,
 ⟨some 93, none, .call fid_slices_rotateRight_impl_Edge false [.im, .im] [(.t 91), (.t 92)]⟩] [0])
 (.seq
 (.reg [
 ⟨some 94, none, .mov (.t 0)⟩,
 ⟨some 6, none, .mov (.t 94)⟩] [6])
 (.ret))))))))))))
theorem get_slices_Insert_impl_Edge_impl_Edge : prog.funcs[fid_slices_Insert_impl_Edge_impl_Edge]? = some f78 := func78
theorem ok_slices_Insert_impl_Edge_impl_Edge : okFn prog f78 95 [] [(6, none)] mc_slices_Insert_impl_Edge_impl_Edge = true := by kernel_rfl
def mc_slices_Clone_impl_Edge_impl_Edge : MCode :=
 .seq
 (.reg [
 ⟨some 2, none, .mov (.v (.nl 2))⟩] [0])
 (.seq
 (.seq
 (.reg [
 ⟨some 3, none, .mov (.t 0)⟩,
 ⟨some 4, none, .nilq false (.t 3)⟩] [0, 4])
 (.cond (.t 4)
 (.seq
 (.reg [
 ⟨some 2, none, .mov (.v (.nl 2))⟩] [2])
 (.ret))
 (.skip)))
 (.seq
 (.reg [
 ⟨some 5, none, .buildSlice 2 []⟩,
 ⟨some 6, none, .mov (.t 0)⟩,
 ⟨some 7, none, .append 2 16 false (.t 5) (.t 6)⟩,
 ⟨some 2, none, .mov (.t 7)⟩] [2])
 (.ret)))
theorem get_slices_Clone_impl_Edge_impl_Edge : prog.funcs[fid_slices_Clone_impl_Edge_impl_Edge]? = some f79 := func79
theorem ok_slices_Clone_impl_Edge_impl_Edge : okFn prog f79 8 [] [(2, none)] mc_slices_Clone_impl_Edge_impl_Edge = true := by kernel_rfl
def mc_slices_DeleteFunc_impl_Edge_impl_Edge : MCode :=
 .seq
 (.reg [
 ⟨some 4, none, .mov (.v (.nl 2))⟩] [0, 1])
 (.seq
 (.reg [
 ⟨some 8, none, .mov (.t 0)⟩,
 ⟨some 9, none, .mov (.t 1)⟩,
 ⟨some 10, none, .call fid_slices_IndexFunc_impl_Edge_impl_Edge false [.im, .fn] [(.t 8), (.t 9)]⟩,
 ⟨some 5, none, .mov (.t 10)⟩] [0, 1, 5])
 (.seq
 (.seq
 (.reg [
 ⟨some 11, none, .mov (.t 5)⟩,
 ⟨some 12, none, .bin .eql (.t 11) (.v (.i .i64 (-1)))⟩] [0, 1, 5, 12])
 (.cond (.t 12)
 (.seq
 (.reg [
 ⟨some 13, none, .mov (.t 0)⟩,
 ⟨some 4, none, .mov (.t 13)⟩] [4])
 (.ret))
 (.skip)))
 (.seq
 (.seq
 (.reg [
 ⟨some 14, none, .mov (.t 5)⟩,
 ⟨some 15, none, .bin .add (.t 14) (.v (.i .i64 1))⟩,
 ⟨some 6, none, .mov (.t 15)⟩] [0, 1, 5, 6])
 (.block 0
 (.loop [0, 1, 5, 6]
 (.seq
 (.seq
 (.reg [
 ⟨some 16, none, .mov (.t 6)⟩,
 ⟨some 17, none, .mov (.t 0)⟩,
 ⟨some 18, none, .len (.t 17)⟩,
 ⟨some 19, none, .bin .lss (.t 16) (.t 18)⟩] [0, 1, 5, 6, 19])
 (.cond (.t 19)
 (.skip)
 (.exit 0)))
 (.seq
 (.block 1
 (.seq
 (.reg [
 ⟨some 22, none, .mov (.t 0)⟩,
 ⟨some 23, none, .mov (.t 6)⟩,
 ⟨some 24, none, .indexAddr 2 (.t 22) (.t 23)⟩,
 ⟨some 25, none, .load true 2 (.t 24)⟩,
 ⟨some 7, none, .alloc [.i .i64 0, .i .i64 0]⟩,
 ⟨none, none, .store 2 (.t 7) (.t 25)⟩] [0, 1, 5, 6, 7])
 (.seq
 (.reg [
 ⟨some 26, none, .mov (.t 1)⟩,
 ⟨some 27, none, .load true 2 (.t 7)⟩,
 ⟨some 28, none, .callv (.t 26) [(.t 27)]⟩,
 ⟨some 29, none, .un .not (.t 28)⟩] [0, 1, 5, 6, 7, 29])
 (.cond (.t 29)
 (.seq
 (.reg [
 ⟨some 30, none, .mov (.t 0)⟩,
 ⟨some 31, none, .mov (.t 5)⟩,
 ⟨some 32, none, .load true 2 (.t 7)⟩,
 ⟨some 33, none, .indexAddr 2 (.t 30) (.t 31)⟩,
 ⟨none, none, .store 2 (.t 33) (.t 32)⟩] [0, 1, 5, 6])
 (.reg [
 ⟨some 34, none, .mov (.t 5)⟩,
 ⟨some 35, none, .bin .add (.t 34) (.v (.i .i64 1))⟩,
 ⟨some 5, none, .mov (.t 35)⟩] [0, 1, 5, 6]))
 (.skip)))))
 (.reg [
 ⟨some 20, none, .mov (.t 6)⟩,
 ⟨some 21, none, .bin .add (.t 20) (.v (.i .i64 1))⟩,
 ⟨some 6, none, .mov (.t 21)⟩] [0, 1, 5, 6]))))))
 (.seq
 (.reg [
 ⟨some 36, none, .mov (.t 0)⟩,
 ⟨some 37, none, .mov (.t 5)⟩,
 ⟨some 38, none, .slice 2 (.t 36) (some (.t 37)) none⟩,
 ⟨none, none, .clear 2 [.i .i64 0, .i .i64 0] (.t 38)⟩] [0, 5])
 (.seq
 (.reg [
 ⟨some 39, none, .mov (.t 0)⟩,
 ⟨some 40, none, .mov (.t 5)⟩,
 ⟨some 41, none, .slice 2 (.t 39) none (some (.t 40))⟩,
 ⟨some 4, none, .mov (.t 41)⟩] [4])
 (.ret))))))
theorem get_slices_DeleteFunc_impl_Edge_impl_Edge : prog.funcs[fid_slices_DeleteFunc_impl_Edge_impl_Edge]? = some f80 := func80
theorem ok_slices_DeleteFunc_impl_Edge_impl_Edge : okFn prog f80 42 [] [(4, none)] mc_slices_DeleteFunc_impl_Edge_impl_Edge = true := by kernel_rfl
def mc_impl_Graph_cut_1 : MCode :=
 .seq
 (.reg [
 ⟨some 2, none, .box 2 (.t 0)⟩,
 ⟨some 3, none, .mov (.v (.b false))⟩] [1, 2])
 (.seq
 (.reg [
 ⟨some 4, none, .load true 2 (.t 2)⟩,
 ⟨some 5, none, .load true 2 (.t 1)⟩,
 ⟨some 6, none, .eqAgg false [true, true] (.t 4) (.t 5)⟩,
 ⟨some 3, none, .mov (.t 6)⟩] [3])
 (.ret))
theorem get_impl_Graph_cut_1 : prog.funcs[fid_impl_Graph_cut_1]? = some f81 := func81
theorem ok_impl_Graph_cut_1 : okFn prog f81 7 [] [(3, none)] mc_impl_Graph_cut_1 = true := by kernel_rfl
def mc_impl_Graph_cutNode_1 : MCode :=
 .seq
 (.reg [
 ⟨some 2, none, .box 2 (.t 0)⟩,
 ⟨some 3, none, .mov (.v (.b false))⟩] [1, 2])
 (.seq
 (.reg [
 ⟨some 4, none, .fieldAddr 0 (.t 2)⟩,
 ⟨some 5, none, .load false 1 (.t 4)⟩,
 ⟨some 6, none, .load false 1 (.t 1)⟩,
 ⟨some 7, none, .bin .eql (.t 5) (.t 6)⟩,
 ⟨some 8, none, .mov (.t 7)⟩,
 ⟨some 9, (some (8, false)), .fieldAddr 1 (.t 2)⟩,
 ⟨some 10, (some (8, false)), .load false 1 (.t 9)⟩,
 ⟨some 11, (some (8, false)), .load false 1 (.t 1)⟩,
 ⟨some 12, (some (8, false)), .bin .eql (.t 10) (.t 11)⟩,
 ⟨some 13, none, .pick (.t 8) (.v (.b true)) (.t 12)⟩,
 ⟨some 3, none, .mov (.t 13)⟩] [3])
 (.ret))
theorem get_impl_Graph_cutNode_1 : prog.funcs[fid_impl_Graph_cutNode_1]? = some f82 := func82
theorem ok_impl_Graph_cutNode_1 : okFn prog f82 14 [] [(3, none)] mc_impl_Graph_cutNode_1 = true := by kernel_rfl
def mc_slices_Sort_int_int : MCode :=
 .seq
 (.reg [
 ⟨some 3, none, .mov (.t 0)⟩,
 ⟨some 4, none, .len (.t 3)⟩,
 ⟨some 2, none, .mov (.t 4)⟩] [0, 2])
 (.reg [
 ⟨some 5, none, .mov (.t 0)⟩,
 ⟨some 6, none, .mov (.t 2)⟩,
 ⟨some 7, none, .mov (.t 2)⟩,
 ⟨some 8, none, .conv .u64 (.t 7)⟩,
 ⟨some 9, none, .call fid_math_bits_Len false [.im] [(.t 8)]⟩,
 ⟨some 10, none, .call fid_slices_pdqsortOrdered_int false [.im, .im, .im, .im] [(.t 5), (.v (.i .i64 0)), (.t 6), (.t 9)]⟩] [])
theorem get_slices_Sort_int_int : prog.funcs[fid_slices_Sort_int_int]? = some f83 := func83
theorem ok_slices_Sort_int_int : okFn prog f83 11 [] [] mc_slices_Sort_int_int = true := by kernel_rfl
def mc_slices_IndexFunc_int_int : MCode :=
 .seq
 (.reg [
 ⟨some 4, none, .mov (.v (.i .i64 0))⟩] [0, 1])
 (.seq
 (.seq
 (.reg [
 ⟨some 6, none, .mov (.t 0)⟩,
 ⟨some 7, none, .len (.t 6)⟩,
 ⟨some 8, none, .mov (.v (.i .i64 0))⟩] [0, 1, 7, 8])
 (.block 0
 (.loop [0, 1, 7, 8]
 (.seq
 (.reg [
 ⟨some 9, none, .bin .lss (.t 8) (.t 7)⟩] [0, 1, 7, 8, 9])
 (.seq
 (.cond (.t 9)
 (.skip)
 (.exit 0))
 (.seq
 (.block 1
 (.seq
 (.reg [
 ⟨some 10, none, .mov (.t 8)⟩,
 ⟨some 5, none, .mov (.t 10)⟩] [0, 1, 5, 7, 8])
 (.seq
 (.reg [
 ⟨some 11, none, .mov (.t 1)⟩,
 ⟨some 12, none, .mov (.t 0)⟩,
 ⟨some 13, none, .mov (.t 5)⟩,
 ⟨some 14, none, .indexAddr 1 (.t 12) (.t 13)⟩,
 ⟨some 15, none, .load false 1 (.t 14)⟩,
 ⟨some 16, none, .callv (.t 11) [(.t 15)]⟩] [0, 1, 5, 7, 8, 16])
 (.cond (.t 16)
 (.seq
 (.reg [
 ⟨some 17, none, .mov (.t 5)⟩,
 ⟨some 4, none, .mov (.t 17)⟩] [4])
 (.ret))
 (.skip)))))
 (.reg [
 ⟨some 18, none, .bin .add (.t 8) (.v (.i .i64 1))⟩,
 ⟨some 8, none, .mov (.t 18)⟩] [0, 1, 7, 8])))))))
 (.seq
 (.reg [
 ⟨some 4, none, .mov (.v (.i .i64 (-1)))⟩] [4])
 (.ret)))
theorem get_slices_IndexFunc_int_int : prog.funcs[fid_slices_IndexFunc_int_int]? = some f84 := func84
theorem ok_slices_IndexFunc_int_int : okFn prog f84 19 [] [(4, none)] mc_slices_IndexFunc_int_int = true := by kernel_rfl
def mc_cmp_isNaN_int : MCode :=
 .seq
 (.reg [
 ⟨some 2, none, .mov (.v (.b false))⟩] [0])
 (.seq
 (.reg [
 ⟨some 3, none, .mov (.t 0)⟩,
 ⟨some 4, none, .mov (.t 0)⟩,
 ⟨some 5, none, .bin .neq (.t 3) (.t 4)⟩,
 ⟨some 2, none, .mov (.t 5)⟩] [2])
 (.ret))
theorem get_cmp_isNaN_int : prog.funcs[fid_cmp_isNaN_int]? = some f85 := func85
theorem ok_cmp_isNaN_int : okFn prog f85 6 [] [(2, none)] mc_cmp_isNaN_int = true := by kernel_rfl
def mc_slices_Contains_impl_Edge_impl_Edge : MCode :=
 .seq
 (.reg [
 ⟨some 3, none, .box 2 (.t 1)⟩,
 ⟨some 4, none, .mov (.v (.b false))⟩] [0, 3])
 (.seq
 (.reg [
 ⟨some 5, none, .mov (.t 0)⟩,
 ⟨some 6, none, .load true 2 (.t 3)⟩,
 ⟨some 7, none, .call fid_slices_Index_impl_Edge_impl_Edge false [.im, .im] [(.t 5), (.t 6)]⟩,
 ⟨some 8, none, .bin .geq (.t 7) (.v (.i .i64 0))⟩,
 ⟨some 4, none, .mov (.t 8)⟩] [4])
 (.ret))
theorem get_slices_Contains_impl_Edge_impl_Edge : prog.funcs[fid_slices_Contains_impl_Edge_impl_Edge]? = some f86 := func86
theorem ok_slices_Contains_impl_Edge_impl_Edge : okFn prog f86 9 [] [(4, none)] mc_slices_Contains_impl_Edge_impl_Edge = true := by kernel_rfl
def mc_slices_overlaps_impl_Edge : MCode :=
 .skip
theorem get_slices_overlaps_impl_Edge : prog.funcs[fid_slices_overlaps_impl_Edge]? = some f87 := func87
abbrev ovT_slices_overlaps_impl_Edge : Nat := 31
abbrev ovR_slices_overlaps_impl_Edge : Nat := 4
abbrev ove_slices_overlaps_impl_Edge : Nat := 53
def mc_slices_rotateRight_impl_Edge : MCode :=
 .reg [
 ⟨some 4, none, .mov (.t 0)⟩,
 ⟨some 5, none, .mov (.t 0)⟩,
 ⟨some 6, none, .len (.t 5)⟩,
 ⟨some 7, none, .mov (.t 1)⟩,
 ⟨some 8, none, .bin .sub (.t 6) (.t 7)⟩,
 ⟨some 9, none, .call fid_slices_rotateLeft_impl_Edge false [.im, .im] [(.t 4), (.t 8)]⟩] []
theorem get_slices_rotateRight_impl_Edge : prog.funcs[fid_slices_rotateRight_impl_Edge]? = some f88 := func88
theorem ok_slices_rotateRight_impl_Edge : okFn prog f88 10 [] [] mc_slices_rotateRight_impl_Edge = true := by kernel_rfl
def mc_slices_IndexFunc_impl_Edge_impl_Edge : MCode :=
 .seq
 (.reg [
 ⟨some 4, none, .mov (.v (.i .i64 0))⟩] [0, 1])
 (.seq
 (.seq
 (.reg [
 ⟨some 6, none, .mov (.t 0)⟩,
 ⟨some 7, none, .len (.t 6)⟩,
 ⟨some 8, none, .mov (.v (.i .i64 0))⟩] [0, 1, 7, 8])
 (.block 0
 (.loop [0, 1, 7, 8]
 (.seq
 (.reg [
 ⟨some 9, none, .bin .lss (.t 8) (.t 7)⟩] [0, 1, 7, 8, 9])
 (.seq
 (.cond (.t 9)
 (.skip)
 (.exit 0))
 (.seq
 (.block 1
 (.seq
 (.reg [
 ⟨some 10, none, .mov (.t 8)⟩,
 ⟨some 5, none, .mov (.t 10)⟩] [0, 1, 5, 7, 8])
 (.seq
 (.reg [
 ⟨some 11, none, .mov (.t 1)⟩,
 ⟨some 12, none, .mov (.t 0)⟩,
 ⟨some 13, none, .mov (.t 5)⟩,
 ⟨some 14, none, .indexAddr 2 (.t 12) (.t 13)⟩,
 ⟨some 15, none, .load true 2 (.t 14)⟩,
 ⟨some 16, none, .callv (.t 11) [(.t 15)]⟩] [0, 1, 5, 7, 8, 16])
 (.cond (.t 16)
 (.seq
 (.reg [
 ⟨some 17, none, .mov (.t 5)⟩,
 ⟨some 4, none, .mov (.t 17)⟩] [4])
 (.ret))
 (.skip)))))
 (.reg [
 ⟨some 18, none, .bin .add (.t 8) (.v (.i .i64 1))⟩,
 ⟨some 8, none, .mov (.t 18)⟩] [0, 1, 7, 8])))))))
 (.seq
 (.reg [
 ⟨some 4, none, .mov (.v (.i .i64 (-1)))⟩] [4])
 (.ret)))
theorem get_slices_IndexFunc_impl_Edge_impl_Edge : prog.funcs[fid_slices_IndexFunc_impl_Edge_impl_Edge]? = some f89 := func89
theorem ok_slices_IndexFunc_impl_Edge_impl_Edge : okFn prog f89 19 [] [(4, none)] mc_slices_IndexFunc_impl_Edge_impl_Edge = true := by kernel_rfl
def mc_slices_pdqsortOrdered_int : MCode :=
 .seq
 (.reg [
 ⟨some 8, none, .mov (.v (.b true))⟩] [0, 1, 2, 3, 8])
 (.seq
 (.reg [
 ⟨some 9, none, .mov (.v (.b true))⟩] [0, 1, 2, 3, 8, 9])
 (.block 0
 (.loop [0, 1, 2, 3, 8, 9]
 (.block 1
 (.seq
 (.reg [
 ⟨some 19, none, .mov (.t 2)⟩,
 ⟨some 20, none, .mov (.t 1)⟩,
 ⟨some 21, none, .bin .sub (.t 19) (.t 20)⟩,
 ⟨some 10, none, .mov (.t 21)⟩] [0, 1, 2, 3, 8, 9, 10])
 (.seq
 (.seq
 (.reg [
 ⟨some 22, none, .mov (.t 10)⟩,
 ⟨some 23, none, .bin .leq (.t 22) (.v (.i .i64 12))⟩] [0, 1, 2, 3, 8, 9, 10, 23])
 (.cond (.t 23)
 (.seq
 (.reg [
 ⟨some 24, none, .mov (.t 0)⟩,
 ⟨some 25, none, .mov (.t 1)⟩,
 ⟨some 26, none, .mov (.t 2)⟩,
 ⟨some 27, none, .call fid_slices_insertionSortOrdered_int false [.im, .im, .im] [(.t 24), (.t 25), (.t 26)]⟩] [])
 (.ret))
 (.skip)))
 (.seq
 (.seq
 (.reg [
 ⟨some 28, none, .mov (.t 3)⟩,
 ⟨some 29, none, .bin .eql (.t 28) (.v (.i .i64 0))⟩] [0, 1, 2, 3, 8, 9, 10, 29])
 (.cond (.t 29)
 (.seq
 (.reg [
 ⟨some 30, none, .mov (.t 0)⟩,
 ⟨some 31, none, .mov (.t 1)⟩,
 ⟨some 32, none, .mov (.t 2)⟩,
 ⟨some 33, none, .call fid_slices_heapSortOrdered_int false [.im, .im, .im] [(.t 30), (.t 31), (.t 32)]⟩] [])
 (.ret))
 (.skip)))
 (.seq
 (.seq
 (.reg [
 ⟨some 34, none, .mov (.t 8)⟩,
 ⟨some 35, none, .un .not (.t 34)⟩] [0, 1, 2, 3, 8, 9, 10, 35])
 (.cond (.t 35)
 (.seq
 (.reg [
 ⟨some 36, none, .mov (.t 0)⟩,
 ⟨some 37, none, .mov (.t 1)⟩,
 ⟨some 38, none, .mov (.t 2)⟩,
 ⟨some 39, none, .call fid_slices_breakPatternsOrdered_int false [.im, .im, .im] [(.t 36), (.t 37), (.t 38)]⟩] [0, 1, 2, 3, 8, 9, 10])
 (.reg [
 ⟨some 40, none, .mov (.t 3)⟩,
 ⟨some 41, none, .bin .sub (.t 40) (.v (.i .i64 1))⟩,
 ⟨some 3, none, .mov (.t 41)⟩] [0, 1, 2, 3, 8, 9, 10]))
 (.skip)))
 (.seq
 (.reg [
 ⟨some 43, none, .mov (.t 0)⟩,
 ⟨some 44, none, .mov (.t 1)⟩,
 ⟨some 45, none, .mov (.t 2)⟩,
 ⟨some 46, none, .call fid_slices_choosePivotOrdered_int false [.im, .im, .im] [(.t 43), (.t 44), (.t 45)]⟩,
 ⟨some 42, none, .mov (.t 46)⟩,
 ⟨some 47, none, .extract (.t 42) 0⟩,
 ⟨some 48, none, .extract (.t 42) 1⟩,
 ⟨some 11, none, .mov (.t 47)⟩,
 ⟨some 12, none, .mov (.t 48)⟩] [0, 1, 2, 3, 8, 9, 10, 11, 12])
 (.seq
 (.seq
 (.reg [
 ⟨some 49, none, .mov (.t 12)⟩,
 ⟨some 50, none, .bin .eql (.t 49) (.v (.i .i64 2))⟩] [0, 1, 2, 3, 8, 9, 10, 11, 12, 50])
 (.cond (.t 50)
 (.seq
 (.reg [
 ⟨some 51, none, .mov (.t 0)⟩,
 ⟨some 52, none, .mov (.t 1)⟩,
 ⟨some 53, none, .mov (.t 2)⟩,
 ⟨some 54, none, .call fid_slices_reverseRangeOrdered_int false [.im, .im, .im] [(.t 51), (.t 52), (.t 53)]⟩] [0, 1, 2, 3, 8, 9, 10, 11])
 (.seq
 (.reg [
 ⟨some 55, none, .mov (.t 2)⟩,
 ⟨some 56, none, .bin .sub (.t 55) (.v (.i .i64 1))⟩,
 ⟨some 57, none, .mov (.t 11)⟩,
 ⟨some 58, none, .mov (.t 1)⟩,
 ⟨some 59, none, .bin .sub (.t 57) (.t 58)⟩,
 ⟨some 60, none, .bin .sub (.t 56) (.t 59)⟩,
 ⟨some 11, none, .mov (.t 60)⟩] [0, 1, 2, 3, 8, 9, 10, 11])
 (.reg [
 ⟨some 12, none, .mov (.v (.i .i64 1))⟩] [0, 1, 2, 3, 8, 9, 10, 11, 12])))
 (.skip)))
 (.seq
 (.seq
 (.reg [
 ⟨some 61, none, .mov (.t 8)⟩,
 ⟨some 62, none, .mov (.t 61)⟩,
 ⟨some 63, (some (62, true)), .mov (.t 9)⟩,
 ⟨some 64, none, .pick (.t 62) (.t 63) (.v (.b false))⟩,
 ⟨some 65, none, .mov (.t 64)⟩,
 ⟨some 66, (some (65, true)), .mov (.t 12)⟩,
 ⟨some 67, (some (65, true)), .bin .eql (.t 66) (.v (.i .i64 1))⟩,
 ⟨some 68, none, .pick (.t 65) (.t 67) (.v (.b false))⟩] [0, 1, 2, 3, 8, 9, 10, 11, 68])
 (.cond (.t 68)
 (.seq
 (.reg [
 ⟨some 69, none, .mov (.t 0)⟩,
 ⟨some 70, none, .mov (.t 1)⟩,
 ⟨some 71, none, .mov (.t 2)⟩,
 ⟨some 72, none, .call fid_slices_partialInsertionSortOrdered_int false [.im, .im, .im] [(.t 69), (.t 70), (.t 71)]⟩] [0, 1, 2, 3, 8, 9, 10, 11, 72])
 (.cond (.t 72)
 (.ret)
 (.skip)))
 (.skip)))
 (.seq
 (.seq
 (.draw [0, 1, 3, 7, 7, 23, 63, 127, 7, 7, 775, 1799, 4095, 8191, 16383] [
 ⟨some 73, none, .mov (.t 1)⟩,
 ⟨some 74, none, .bin .gtr (.t 73) (.v (.i .i64 0))⟩,
 ⟨some 75, none, .mov (.t 74)⟩,
 ⟨some 76, (some (75, true)), .mov (.t 0)⟩,
 ⟨some 77, (some (75, true)), .mov (.t 1)⟩,
 ⟨some 78, (some (75, true)), .bin .sub (.t 77) (.v (.i .i64 1))⟩,
 ⟨some 79, (some (75, true)), .indexAddr 1 (.t 76) (.t 78)⟩,
 ⟨some 80, (some (75, true)), .load false 1 (.t 79)⟩,
 ⟨some 81, (some (75, true)), .mov (.t 0)⟩,
 ⟨some 82, (some (75, true)), .mov (.t 11)⟩,
 ⟨some 83, (some (75, true)), .indexAddr 1 (.t 81) (.t 82)⟩,
 ⟨some 84, (some (75, true)), .load false 1 (.t 83)⟩,
 ⟨some 85, (some (75, true)), .call fid_cmp_Less_int false [.im, .im] [(.t 80), (.t 84)]⟩,
 ⟨some 86, (some (75, true)), .un .not (.t 85)⟩,
 ⟨some 87, none, .pick (.t 75) (.t 86) (.v (.b false))⟩] [0, 1, 2, 3, 8, 9, 10, 11, 87])
 (.cond (.t 87)
 (.seq
 (.reg [
 ⟨some 88, none, .mov (.t 0)⟩,
 ⟨some 89, none, .mov (.t 1)⟩,
 ⟨some 90, none, .mov (.t 2)⟩,
 ⟨some 91, none, .mov (.t 11)⟩,
 ⟨some 92, none, .call fid_slices_partitionEqualOrdered_int false [.im, .im, .im, .im] [(.t 88), (.t 89), (.t 90), (.t 91)]⟩,
 ⟨some 13, none, .mov (.t 92)⟩] [0, 2, 3, 8, 9, 13])
 (.seq
 (.reg [
 ⟨some 93, none, .mov (.t 13)⟩,
 ⟨some 1, none, .mov (.t 93)⟩] [0, 1, 2, 3, 8, 9])
 (.exit 1)))
 (.skip)))
 (.seq
 (.reg [
 ⟨some 95, none, .mov (.t 0)⟩,
 ⟨some 96, none, .mov (.t 1)⟩,
 ⟨some 97, none, .mov (.t 2)⟩,
 ⟨some 98, none, .mov (.t 11)⟩,
 ⟨some 99, none, .call fid_slices_partitionOrdered_int false [.im, .im, .im, .im] [(.t 95), (.t 96), (.t 97), (.t 98)]⟩,
 ⟨some 94, none, .mov (.t 99)⟩,
 ⟨some 100, none, .extract (.t 94) 0⟩,
 ⟨some 101, none, .extract (.t 94) 1⟩,
 ⟨some 14, none, .mov (.t 100)⟩,
 ⟨some 15, none, .mov (.t 101)⟩] [0, 1, 2, 3, 10, 14, 15])
 (.seq
 (.reg [
 ⟨some 102, none, .mov (.t 15)⟩,
 ⟨some 9, none, .mov (.t 102)⟩] [0, 1, 2, 3, 9, 10, 14])
 (.seq
 (.reg [
 ⟨some 103, none, .mov (.t 14)⟩,
 ⟨some 104, none, .mov (.t 1)⟩,
 ⟨some 105, none, .bin .sub (.t 103) (.t 104)⟩,
 ⟨some 106, none, .mov (.t 2)⟩,
 ⟨some 107, none, .mov (.t 14)⟩,
 ⟨some 108, none, .bin .sub (.t 106) (.t 107)⟩,
 ⟨some 16, none, .mov (.t 105)⟩,
 ⟨some 17, none, .mov (.t 108)⟩] [0, 1, 2, 3, 9, 10, 14, 16, 17])
 (.seq
 (.reg [
 ⟨some 109, none, .mov (.t 10)⟩,
 ⟨some 110, none, .bin .quo (.t 109) (.v (.i .i64 8))⟩,
 ⟨some 18, none, .mov (.t 110)⟩] [0, 1, 2, 3, 9, 14, 16, 17, 18])
 (.seq
 (.reg [
 ⟨some 111, none, .mov (.t 16)⟩,
 ⟨some 112, none, .mov (.t 17)⟩,
 ⟨some 113, none, .bin .lss (.t 111) (.t 112)⟩] [0, 1, 2, 3, 9, 14, 16, 17, 18, 113])
 (.cond (.t 113)
 (.seq
 (.reg [
 ⟨some 114, none, .mov (.t 16)⟩,
 ⟨some 115, none, .mov (.t 18)⟩,
 ⟨some 116, none, .bin .geq (.t 114) (.t 115)⟩,
 ⟨some 8, none, .mov (.t 116)⟩] [0, 1, 2, 3, 8, 9, 14])
 (.seq
 (.reg [
 ⟨some 117, none, .mov (.t 0)⟩,
 ⟨some 118, none, .mov (.t 1)⟩,
 ⟨some 119, none, .mov (.t 14)⟩,
 ⟨some 120, none, .mov (.t 3)⟩,
 ⟨some 121, none, .call fid_slices_pdqsortOrdered_int false [.im, .im, .im, .im] [(.t 117), (.t 118), (.t 119), (.t 120)]⟩] [0, 2, 3, 8, 9, 14])
 (.reg [
 ⟨some 122, none, .mov (.t 14)⟩,
 ⟨some 123, none, .bin .add (.t 122) (.v (.i .i64 1))⟩,
 ⟨some 1, none, .mov (.t 123)⟩] [0, 1, 2, 3, 8, 9])))
 (.seq
 (.reg [
 ⟨some 124, none, .mov (.t 17)⟩,
 ⟨some 125, none, .mov (.t 18)⟩,
 ⟨some 126, none, .bin .geq (.t 124) (.t 125)⟩,
 ⟨some 8, none, .mov (.t 126)⟩] [0, 1, 2, 3, 8, 9, 14])
 (.seq
 (.reg [
 ⟨some 127, none, .mov (.t 0)⟩,
 ⟨some 128, none, .mov (.t 14)⟩,
 ⟨some 129, none, .bin .add (.t 128) (.v (.i .i64 1))⟩,
 ⟨some 130, none, .mov (.t 2)⟩,
 ⟨some 131, none, .mov (.t 3)⟩,
 ⟨some 132, none, .call fid_slices_pdqsortOrdered_int false [.im, .im, .im, .im] [(.t 127), (.t 129), (.t 130), (.t 131)]⟩] [0, 1, 3, 8, 9, 14])
 (.reg [
 ⟨some 133, none, .mov (.t 14)⟩,
 ⟨some 2, none, .mov (.t 133)⟩] [0, 1, 2, 3, 8, 9])))))))))))))))))))))
theorem get_slices_pdqsortOrdered_int : prog.funcs[fid_slices_pdqsortOrdered_int]? = some f90 := func90
theorem ok_slices_pdqsortOrdered_int : okFn prog f90 134 [] [] mc_slices_pdqsortOrdered_int = true := by kernel_rfl
def mc_math_bits_Len : MCode :=
 .seq
 (.reg [
 ⟨some 2, none, .mov (.v (.i .i64 0))⟩] [0])
 (.seq
 (.cond (.v (.b false))
 (.seq
 (.reg [
 ⟨some 3, none, .mov (.t 0)⟩,
 ⟨some 4, none, .conv .u32 (.t 3)⟩,
 ⟨some 5, none, .call fid_math_bits_Len32 false [.im] [(.t 4)]⟩,
 ⟨some 2, none, .mov (.t 5)⟩] [2])
 (.ret))
 (.skip))
 (.seq
 (.reg [
 ⟨some 6, none, .mov (.t 0)⟩,
 ⟨some 7, none, .call fid_math_bits_Len64 false [.im] [(.t 6)]⟩,
 ⟨some 2, none, .mov (.t 7)⟩] [2])
 (.ret)))
theorem get_math_bits_Len : prog.funcs[fid_math_bits_Len]? = some f91 := func91
theorem ok_math_bits_Len : okFn prog f91 8 [] [(2, none)] mc_math_bits_Len = true := by kernel_rfl
def mc_slices_Index_impl_Edge_impl_Edge : MCode :=
 .seq
 (.reg [
 ⟨some 3, none, .box 2 (.t 1)⟩,
 ⟨some 4, none, .mov (.v (.i .i64 0))⟩] [0, 3])
 (.seq
 (.seq
 (.reg [
 ⟨some 6, none, .mov (.t 0)⟩,
 ⟨some 7, none, .len (.t 6)⟩,
 ⟨some 8, none, .mov (.v (.i .i64 0))⟩] [0, 3, 7, 8])
 (.block 0
 (.loop [0, 3, 7, 8]
 (.seq
 (.reg [
 ⟨some 9, none, .bin .lss (.t 8) (.t 7)⟩] [0, 3, 7, 8, 9])
 (.seq
 (.cond (.t 9)
 (.skip)
 (.exit 0))
 (.seq
 (.block 1
 (.seq
 (.reg [
 ⟨some 10, none, .mov (.t 8)⟩,
 ⟨some 5, none, .mov (.t 10)⟩] [0, 3, 5, 7, 8])
 (.seq
 (.draw [0, 0, 0, 6, 14, 31] [
 ⟨some 11, none, .load true 2 (.t 3)⟩,
 ⟨some 12, none, .mov (.t 0)⟩,
 ⟨some 13, none, .mov (.t 5)⟩,
 ⟨some 14, none, .indexAddr 2 (.t 12) (.t 13)⟩,
 ⟨some 15, none, .load true 2 (.t 14)⟩,
 ⟨some 16, none, .eqAgg false [true, true] (.t 11) (.t 15)⟩] [0, 3, 5, 7, 8, 16])
 (.cond (.t 16)
 (.seq
 (.reg [
 ⟨some 17, none, .mov (.t 5)⟩,
 ⟨some 4, none, .mov (.t 17)⟩] [4])
 (.ret))
 (.skip)))))
 (.reg [
 ⟨some 18, none, .bin .add (.t 8) (.v (.i .i64 1))⟩,
 ⟨some 8, none, .mov (.t 18)⟩] [0, 3, 7, 8])))))))
 (.seq
 (.reg [
 ⟨some 4, none, .mov (.v (.i .i64 (-1)))⟩] [4])
 (.ret)))
theorem get_slices_Index_impl_Edge_impl_Edge : prog.funcs[fid_slices_Index_impl_Edge_impl_Edge]? = some f92 := func92
theorem ok_slices_Index_impl_Edge_impl_Edge : okFn prog f92 19 [] [(4, none)] mc_slices_Index_impl_Edge_impl_Edge = true := by kernel_rfl
def mc_slices_rotateLeft_impl_Edge : MCode :=
 .seq
 (.reg [
 ⟨some 4, none, .mov (.t 0)⟩,
 ⟨some 5, none, .mov (.t 1)⟩,
 ⟨some 6, none, .slice 2 (.t 4) none (some (.t 5))⟩,
 ⟨some 7, none, .call fid_slices_Reverse_impl_Edge_impl_Edge false [.im] [(.t 6)]⟩] [0, 1])
 (.seq
 (.reg [
 ⟨some 8, none, .mov (.t 0)⟩,
 ⟨some 9, none, .mov (.t 1)⟩,
 ⟨some 10, none, .slice 2 (.t 8) (some (.t 9)) none⟩,
 ⟨some 11, none, .call fid_slices_Reverse_impl_Edge_impl_Edge false [.im] [(.t 10)]⟩] [0])
 (.reg [
 ⟨some 12, none, .mov (.t 0)⟩,
 ⟨some 13, none, .call fid_slices_Reverse_impl_Edge_impl_Edge false [.im] [(.t 12)]⟩] []))
theorem get_slices_rotateLeft_impl_Edge : prog.funcs[fid_slices_rotateLeft_impl_Edge]? = some f93 := func93
theorem ok_slices_rotateLeft_impl_Edge : okFn prog f93 14 [] [] mc_slices_rotateLeft_impl_Edge = true := by kernel_rfl
def mc_slices_insertionSortOrdered_int : MCode :=
 .seq
 (.reg [
 ⟨some 8, none, .mov (.t 1)⟩,
 ⟨some 9, none, .bin .add (.t 8) (.v (.i .i64 1))⟩,
 ⟨some 6, none, .mov (.t 9)⟩] [0, 1, 2, 6])
 (.block 0
 (.loop [0, 1, 2, 6]
 (.seq
 (.seq
 (.reg [
 ⟨some 10, none, .mov (.t 6)⟩,
 ⟨some 11, none, .mov (.t 2)⟩,
 ⟨some 12, none, .bin .lss (.t 10) (.t 11)⟩] [0, 1, 2, 6, 12])
 (.cond (.t 12)
 (.skip)
 (.exit 0)))
 (.seq
 (.block 1
 (.seq
 (.reg [
 ⟨some 15, none, .mov (.t 6)⟩,
 ⟨some 7, none, .mov (.t 15)⟩] [0, 1, 2, 6, 7])
 (.block 2
 (.loop [0, 1, 2, 6, 7]
 (.seq
 (.seq
 (.draw [0, 0, 3, 7, 15, 15, 63, 127, 15, 15, 527, 1807, 3855, 8191, 16383] [
 ⟨some 16, none, .mov (.t 7)⟩,
 ⟨some 17, none, .mov (.t 1)⟩,
 ⟨some 18, none, .bin .gtr (.t 16) (.t 17)⟩,
 ⟨some 19, none, .mov (.t 18)⟩,
 ⟨some 20, (some (19, true)), .mov (.t 0)⟩,
 ⟨some 21, (some (19, true)), .mov (.t 7)⟩,
 ⟨some 22, (some (19, true)), .indexAddr 1 (.t 20) (.t 21)⟩,
 ⟨some 23, (some (19, true)), .load false 1 (.t 22)⟩,
 ⟨some 24, (some (19, true)), .mov (.t 0)⟩,
 ⟨some 25, (some (19, true)), .mov (.t 7)⟩,
 ⟨some 26, (some (19, true)), .bin .sub (.t 25) (.v (.i .i64 1))⟩,
 ⟨some 27, (some (19, true)), .indexAddr 1 (.t 24) (.t 26)⟩,
 ⟨some 28, (some (19, true)), .load false 1 (.t 27)⟩,
 ⟨some 29, (some (19, true)), .call fid_cmp_Less_int false [.im, .im] [(.t 23), (.t 28)]⟩,
 ⟨some 30, none, .pick (.t 19) (.t 29) (.v (.b false))⟩] [0, 1, 2, 6, 7, 30])
 (.cond (.t 30)
 (.skip)
 (.exit 2)))
 (.seq
 (.block 3
 (.draw [0, 0, 0, 0, 8, 0, 0, 64, 224, 480, 0, 0, 3072, 7168, 16355, 32739, 65535, 131071] [
 ⟨some 33, none, .mov (.t 0)⟩,
 ⟨some 34, none, .mov (.t 7)⟩,
 ⟨some 35, none, .mov (.t 0)⟩,
 ⟨some 36, none, .mov (.t 7)⟩,
 ⟨some 37, none, .bin .sub (.t 36) (.v (.i .i64 1))⟩,
 ⟨some 38, none, .mov (.t 0)⟩,
 ⟨some 39, none, .mov (.t 7)⟩,
 ⟨some 40, none, .bin .sub (.t 39) (.v (.i .i64 1))⟩,
 ⟨some 41, none, .indexAddr 1 (.t 38) (.t 40)⟩,
 ⟨some 42, none, .load false 1 (.t 41)⟩,
 ⟨some 43, none, .mov (.t 0)⟩,
 ⟨some 44, none, .mov (.t 7)⟩,
 ⟨some 45, none, .indexAddr 1 (.t 43) (.t 44)⟩,
 ⟨some 46, none, .load false 1 (.t 45)⟩,
 ⟨some 47, none, .indexAddr 1 (.t 33) (.t 34)⟩,
 ⟨none, none, .store 1 (.t 47) (.t 42)⟩,
 ⟨some 48, none, .indexAddr 1 (.t 35) (.t 37)⟩,
 ⟨none, none, .store 1 (.t 48) (.t 46)⟩] [0, 1, 2, 6, 7]))
 (.reg [
 ⟨some 31, none, .mov (.t 7)⟩,
 ⟨some 32, none, .bin .sub (.t 31) (.v (.i .i64 1))⟩,
 ⟨some 7, none, .mov (.t 32)⟩] [0, 1, 2, 6, 7])))))))
 (.reg [
 ⟨some 13, none, .mov (.t 6)⟩,
 ⟨some 14, none, .bin .add (.t 13) (.v (.i .i64 1))⟩,
 ⟨some 6, none, .mov (.t 14)⟩] [0, 1, 2, 6])))))
theorem get_slices_insertionSortOrdered_int : prog.funcs[fid_slices_insertionSortOrdered_int]? = some f94 := func94
theorem ok_slices_insertionSortOrdered_int : okFn prog f94 49 [] [] mc_slices_insertionSortOrdered_int = true := by kernel_rfl
def mc_slices_heapSortOrdered_int : MCode :=
 .seq
 (.reg [
 ⟨some 11, none, .mov (.t 1)⟩,
 ⟨some 6, none, .mov (.t 11)⟩] [0, 1, 2, 6])
 (.seq
 (.reg [
 ⟨some 7, none, .mov (.v (.i .i64 0))⟩] [0, 1, 2, 6, 7])
 (.seq
 (.reg [
 ⟨some 12, none, .mov (.t 2)⟩,
 ⟨some 13, none, .mov (.t 1)⟩,
 ⟨some 14, none, .bin .sub (.t 12) (.t 13)⟩,
 ⟨some 8, none, .mov (.t 14)⟩] [0, 6, 7, 8])
 (.seq
 (.seq
 (.reg [
 ⟨some 15, none, .mov (.t 8)⟩,
 ⟨some 16, none, .bin .sub (.t 15) (.v (.i .i64 1))⟩,
 ⟨some 17, none, .bin .quo (.t 16) (.v (.i .i64 2))⟩,
 ⟨some 9, none, .mov (.t 17)⟩] [0, 6, 7, 8, 9])
 (.block 0
 (.loop [0, 6, 7, 8, 9]
 (.seq
 (.seq
 (.reg [
 ⟨some 18, none, .mov (.t 9)⟩,
 ⟨some 19, none, .bin .geq (.t 18) (.v (.i .i64 0))⟩] [0, 6, 7, 8, 9, 19])
 (.cond (.t 19)
 (.skip)
 (.exit 0)))
 (.seq
 (.block 1
 (.reg [
 ⟨some 22, none, .mov (.t 0)⟩,
 ⟨some 23, none, .mov (.t 9)⟩,
 ⟨some 24, none, .mov (.t 8)⟩,
 ⟨some 25, none, .mov (.t 6)⟩,
 ⟨some 26, none, .call fid_slices_siftDownOrdered_int false [.im, .im, .im, .im] [(.t 22), (.t 23), (.t 24), (.t 25)]⟩] [0, 6, 7, 8, 9]))
 (.reg [
 ⟨some 20, none, .mov (.t 9)⟩,
 ⟨some 21, none, .bin .sub (.t 20) (.v (.i .i64 1))⟩,
 ⟨some 9, none, .mov (.t 21)⟩] [0, 6, 7, 8, 9]))))))
 (.seq
 (.reg [
 ⟨some 27, none, .mov (.t 8)⟩,
 ⟨some 28, none, .bin .sub (.t 27) (.v (.i .i64 1))⟩,
 ⟨some 10, none, .mov (.t 28)⟩] [0, 6, 7, 10])
 (.block 2
 (.loop [0, 6, 7, 10]
 (.seq
 (.seq
 (.reg [
 ⟨some 29, none, .mov (.t 10)⟩,
 ⟨some 30, none, .bin .geq (.t 29) (.v (.i .i64 0))⟩] [0, 6, 7, 10, 30])
 (.cond (.t 30)
 (.skip)
 (.exit 2)))
 (.seq
 (.block 3
 (.seq
 (.draw [0, 0, 0, 0, 0, 24, 0, 0, 0, 384, 960, 1984, 0, 0, 12288, 28672, 65475, 131011, 262143, 524287] [
 ⟨some 33, none, .mov (.t 0)⟩,
 ⟨some 34, none, .mov (.t 6)⟩,
 ⟨some 35, none, .mov (.t 0)⟩,
 ⟨some 36, none, .mov (.t 6)⟩,
 ⟨some 37, none, .mov (.t 10)⟩,
 ⟨some 38, none, .bin .add (.t 36) (.t 37)⟩,
 ⟨some 39, none, .mov (.t 0)⟩,
 ⟨some 40, none, .mov (.t 6)⟩,
 ⟨some 41, none, .mov (.t 10)⟩,
 ⟨some 42, none, .bin .add (.t 40) (.t 41)⟩,
 ⟨some 43, none, .indexAddr 1 (.t 39) (.t 42)⟩,
 ⟨some 44, none, .load false 1 (.t 43)⟩,
 ⟨some 45, none, .mov (.t 0)⟩,
 ⟨some 46, none, .mov (.t 6)⟩,
 ⟨some 47, none, .indexAddr 1 (.t 45) (.t 46)⟩,
 ⟨some 48, none, .load false 1 (.t 47)⟩,
 ⟨some 49, none, .indexAddr 1 (.t 33) (.t 34)⟩,
 ⟨none, none, .store 1 (.t 49) (.t 44)⟩,
 ⟨some 50, none, .indexAddr 1 (.t 35) (.t 38)⟩,
 ⟨none, none, .store 1 (.t 50) (.t 48)⟩] [0, 6, 7, 10])
 (.reg [
 ⟨some 51, none, .mov (.t 0)⟩,
 ⟨some 52, none, .mov (.t 7)⟩,
 ⟨some 53, none, .mov (.t 10)⟩,
 ⟨some 54, none, .mov (.t 6)⟩,
 ⟨some 55, none, .call fid_slices_siftDownOrdered_int false [.im, .im, .im, .im] [(.t 51), (.t 52), (.t 53), (.t 54)]⟩] [0, 6, 7, 10])))
 (.reg [
 ⟨some 31, none, .mov (.t 10)⟩,
 ⟨some 32, none, .bin .sub (.t 31) (.v (.i .i64 1))⟩,
 ⟨some 10, none, .mov (.t 32)⟩] [0, 6, 7, 10])))))))))
theorem get_slices_heapSortOrdered_int : prog.funcs[fid_slices_heapSortOrdered_int]? = some f95 := func95
theorem ok_slices_heapSortOrdered_int : okFn prog f95 56 [] [] mc_slices_heapSortOrdered_int = true := by kernel_rfl
def mc_slices_breakPatternsOrdered_int : MCode :=
 .seq
 (.reg [
 ⟨some 11, none, .mov (.t 2)⟩,
 ⟨some 12, none, .mov (.t 1)⟩,
 ⟨some 13, none, .bin .sub (.t 11) (.t 12)⟩,
 ⟨some 6, none, .mov (.t 13)⟩] [0, 1, 6])
 (.seq
 (.reg [
 ⟨some 14, none, .mov (.t 6)⟩,
 ⟨some 15, none, .bin .geq (.t 14) (.v (.i .i64 8))⟩] [0, 1, 6, 15])
 (.cond (.t 15)
 (.seq
 (.reg [
 ⟨some 16, none, .mov (.t 6)⟩,
 ⟨some 17, none, .conv .u64 (.t 16)⟩,
 ⟨some 7, none, .alloc [.i .u64 0]⟩,
 ⟨none, none, .store 1 (.t 7) (.t 17)⟩] [0, 1, 6, 7])
 (.seq
 (.reg [
 ⟨some 18, none, .mov (.t 6)⟩,
 ⟨some 19, none, .call fid_slices_nextPowerOfTwo false [.im] [(.t 18)]⟩,
 ⟨some 8, none, .mov (.t 19)⟩] [0, 1, 6, 7, 8])
 (.seq
 (.reg [
 ⟨some 20, none, .mov (.t 1)⟩,
 ⟨some 21, none, .mov (.t 6)⟩,
 ⟨some 22, none, .bin .quo (.t 21) (.v (.i .i64 4))⟩,
 ⟨some 23, none, .bin .mul (.t 22) (.v (.i .i64 2))⟩,
 ⟨some 24, none, .bin .add (.t 20) (.t 23)⟩,
 ⟨some 25, none, .bin .sub (.t 24) (.v (.i .i64 1))⟩,
 ⟨some 9, none, .mov (.t 25)⟩] [0, 1, 6, 7, 8, 9])
 (.block 0
 (.loop [0, 1, 6, 7, 8, 9]
 (.seq
 (.seq
 (.reg [
 ⟨some 26, none, .mov (.t 9)⟩,
 ⟨some 27, none, .mov (.t 1)⟩,
 ⟨some 28, none, .mov (.t 6)⟩,
 ⟨some 29, none, .bin .quo (.t 28) (.v (.i .i64 4))⟩,
 ⟨some 30, none, .bin .mul (.t 29) (.v (.i .i64 2))⟩,
 ⟨some 31, none, .bin .add (.t 27) (.t 30)⟩,
 ⟨some 32, none, .bin .add (.t 31) (.v (.i .i64 1))⟩,
 ⟨some 33, none, .bin .leq (.t 26) (.t 32)⟩] [0, 1, 6, 7, 8, 9, 33])
 (.cond (.t 33)
 (.skip)
 (.exit 0)))
 (.seq
 (.block 1
 (.seq
 (.reg [
 ⟨some 36, none, .call fid_p_slices_xorshift_Next false [.im] [(.t 7)]⟩,
 ⟨some 37, none, .mov (.t 8)⟩,
 ⟨some 38, none, .bin .sub (.t 37) (.v (.i .u64 1))⟩,
 ⟨some 39, none, .bin .and (.t 36) (.t 38)⟩,
 ⟨some 40, none, .conv .i64 (.t 39)⟩,
 ⟨some 10, none, .mov (.t 40)⟩] [0, 1, 6, 7, 8, 9, 10])
 (.seq
 (.seq
 (.reg [
 ⟨some 41, none, .mov (.t 10)⟩,
 ⟨some 42, none, .mov (.t 6)⟩,
 ⟨some 43, none, .bin .geq (.t 41) (.t 42)⟩] [0, 1, 6, 7, 8, 9, 10, 43])
 (.cond (.t 43)
 (.reg [
 ⟨some 44, none, .mov (.t 10)⟩,
 ⟨some 45, none, .mov (.t 6)⟩,
 ⟨some 46, none, .bin .sub (.t 44) (.t 45)⟩,
 ⟨some 10, none, .mov (.t 46)⟩] [0, 1, 6, 7, 8, 9, 10])
 (.skip)))
 (.draw [0, 0, 0, 0, 0, 24, 0, 0, 0, 384, 960, 1984, 0, 0, 12288, 28672, 65475, 131011, 262143, 524287] [
 ⟨some 47, none, .mov (.t 0)⟩,
 ⟨some 48, none, .mov (.t 9)⟩,
 ⟨some 49, none, .mov (.t 0)⟩,
 ⟨some 50, none, .mov (.t 1)⟩,
 ⟨some 51, none, .mov (.t 10)⟩,
 ⟨some 52, none, .bin .add (.t 50) (.t 51)⟩,
 ⟨some 53, none, .mov (.t 0)⟩,
 ⟨some 54, none, .mov (.t 1)⟩,
 ⟨some 55, none, .mov (.t 10)⟩,
 ⟨some 56, none, .bin .add (.t 54) (.t 55)⟩,
 ⟨some 57, none, .indexAddr 1 (.t 53) (.t 56)⟩,
 ⟨some 58, none, .load false 1 (.t 57)⟩,
 ⟨some 59, none, .mov (.t 0)⟩,
 ⟨some 60, none, .mov (.t 9)⟩,
 ⟨some 61, none, .indexAddr 1 (.t 59) (.t 60)⟩,
 ⟨some 62, none, .load false 1 (.t 61)⟩,
 ⟨some 63, none, .indexAddr 1 (.t 47) (.t 48)⟩,
 ⟨none, none, .store 1 (.t 63) (.t 58)⟩,
 ⟨some 64, none, .indexAddr 1 (.t 49) (.t 52)⟩,
 ⟨none, none, .store 1 (.t 64) (.t 62)⟩] [0, 1, 6, 7, 8, 9]))))
 (.reg [
 ⟨some 34, none, .mov (.t 9)⟩,
 ⟨some 35, none, .bin .add (.t 34) (.v (.i .i64 1))⟩,
 ⟨some 9, none, .mov (.t 35)⟩] [0, 1, 6, 7, 8, 9]))))))))
 (.skip)))
theorem get_slices_breakPatternsOrdered_int : prog.funcs[fid_slices_breakPatternsOrdered_int]? = some f96 := func96
theorem ok_slices_breakPatternsOrdered_int : okFn prog f96 65 [] [] mc_slices_breakPatternsOrdered_int = true := by kernel_rfl
def mc_slices_choosePivotOrdered_int : MCode :=
 .seq
 (.reg [
 ⟨some 6, none, .mov (.v (.i .i64 0))⟩,
 ⟨some 7, none, .mov (.v (.i .i64 0))⟩] [0, 1, 2])
 (.seq
 (.reg [
 ⟨some 13, none, .mov (.t 2)⟩,
 ⟨some 14, none, .mov (.t 1)⟩,
 ⟨some 15, none, .bin .sub (.t 13) (.t 14)⟩,
 ⟨some 8, none, .mov (.t 15)⟩] [0, 1, 8])
 (.seq
 (.reg [
 ⟨some 9, none, .alloc [.i .i64 0]⟩] [0, 1, 8, 9])
 (.seq
 (.reg [
 ⟨some 16, none, .mov (.t 1)⟩,
 ⟨some 17, none, .mov (.t 8)⟩,
 ⟨some 18, none, .bin .quo (.t 17) (.v (.i .i64 4))⟩,
 ⟨some 19, none, .bin .mul (.t 18) (.v (.i .i64 1))⟩,
 ⟨some 20, none, .bin .add (.t 16) (.t 19)⟩,
 ⟨some 10, none, .mov (.t 20)⟩] [0, 1, 8, 9, 10])
 (.seq
 (.reg [
 ⟨some 21, none, .mov (.t 1)⟩,
 ⟨some 22, none, .mov (.t 8)⟩,
 ⟨some 23, none, .bin .quo (.t 22) (.v (.i .i64 4))⟩,
 ⟨some 24, none, .bin .mul (.t 23) (.v (.i .i64 2))⟩,
 ⟨some 25, none, .bin .add (.t 21) (.t 24)⟩,
 ⟨some 11, none, .mov (.t 25)⟩] [0, 1, 8, 9, 10, 11])
 (.seq
 (.reg [
 ⟨some 26, none, .mov (.t 1)⟩,
 ⟨some 27, none, .mov (.t 8)⟩,
 ⟨some 28, none, .bin .quo (.t 27) (.v (.i .i64 4))⟩,
 ⟨some 29, none, .bin .mul (.t 28) (.v (.i .i64 3))⟩,
 ⟨some 30, none, .bin .add (.t 26) (.t 29)⟩,
 ⟨some 12, none, .mov (.t 30)⟩] [0, 8, 9, 10, 11, 12])
 (.seq
 (.seq
 (.reg [
 ⟨some 31, none, .mov (.t 8)⟩,
 ⟨some 32, none, .bin .geq (.t 31) (.v (.i .i64 8))⟩] [0, 8, 9, 10, 11, 12, 32])
 (.cond (.t 32)
 (.seq
 (.seq
 (.reg [
 ⟨some 33, none, .mov (.t 8)⟩,
 ⟨some 34, none, .bin .geq (.t 33) (.v (.i .i64 50))⟩] [0, 9, 10, 11, 12, 34])
 (.cond (.t 34)
 (.seq
 (.reg [
 ⟨some 35, none, .mov (.t 0)⟩,
 ⟨some 36, none, .mov (.t 10)⟩,
 ⟨some 37, none, .call fid_slices_medianAdjacentOrdered_int false [.im, .im, .im] [(.t 35), (.t 36), (.t 9)]⟩,
 ⟨some 10, none, .mov (.t 37)⟩] [0, 9, 10, 11, 12])
 (.seq
 (.reg [
 ⟨some 38, none, .mov (.t 0)⟩,
 ⟨some 39, none, .mov (.t 11)⟩,
 ⟨some 40, none, .call fid_slices_medianAdjacentOrdered_int false [.im, .im, .im] [(.t 38), (.t 39), (.t 9)]⟩,
 ⟨some 11, none, .mov (.t 40)⟩] [0, 9, 10, 11, 12])
 (.reg [
 ⟨some 41, none, .mov (.t 0)⟩,
 ⟨some 42, none, .mov (.t 12)⟩,
 ⟨some 43, none, .call fid_slices_medianAdjacentOrdered_int false [.im, .im, .im] [(.t 41), (.t 42), (.t 9)]⟩,
 ⟨some 12, none, .mov (.t 43)⟩] [0, 9, 10, 11, 12])))
 (.skip)))
 (.reg [
 ⟨some 44, none, .mov (.t 0)⟩,
 ⟨some 45, none, .mov (.t 10)⟩,
 ⟨some 46, none, .mov (.t 11)⟩,
 ⟨some 47, none, .mov (.t 12)⟩,
 ⟨some 48, none, .call fid_slices_medianOrdered_int false [.im, .im, .im, .im, .im] [(.t 44), (.t 45), (.t 46), (.t 47), (.t 9)]⟩,
 ⟨some 11, none, .mov (.t 48)⟩] [9, 11]))
 (.skip)))
 (.seq
 (.reg [
 ⟨some 49, none, .load false 1 (.t 9)⟩] [11, 49])
 (.block 0
 (.seq
 (.reg [
 ⟨some 52, none, .bin .eql (.t 49) (.v (.i .i64 0))⟩,
 ⟨some 51, none, .mov (.t 52)⟩] [11, 49, 51])
 (.cond (.t 51)
 (.seq
 (.reg [
 ⟨some 53, none, .mov (.t 11)⟩,
 ⟨some 6, none, .mov (.t 53)⟩,
 ⟨some 7, none, .mov (.v (.i .i64 1))⟩] [6, 7])
 (.ret))
 (.seq
 (.reg [
 ⟨some 55, none, .bin .eql (.t 49) (.v (.i .i64 12))⟩,
 ⟨some 54, none, .mov (.t 55)⟩] [11, 54])
 (.cond (.t 54)
 (.seq
 (.reg [
 ⟨some 56, none, .mov (.t 11)⟩,
 ⟨some 6, none, .mov (.t 56)⟩,
 ⟨some 7, none, .mov (.v (.i .i64 2))⟩] [6, 7])
 (.ret))
 (.seq
 (.reg [
 ⟨some 50, none, .mov (.t 11)⟩,
 ⟨some 6, none, .mov (.t 50)⟩,
 ⟨some 7, none, .mov (.v (.i .i64 0))⟩] [6, 7])
 (.ret))))))))))))))
theorem get_slices_choosePivotOrdered_int : prog.funcs[fid_slices_choosePivotOrdered_int]? = some f97 := func97
theorem ok_slices_choosePivotOrdered_int : okFn prog f97 57 [] [(6, none), (7, none)] mc_slices_choosePivotOrdered_int = true := by kernel_rfl
def mc_slices_reverseRangeOrdered_int : MCode :=
 .seq
 (.reg [
 ⟨some 8, none, .mov (.t 1)⟩,
 ⟨some 6, none, .mov (.t 8)⟩] [0, 2, 6])
 (.seq
 (.reg [
 ⟨some 9, none, .mov (.t 2)⟩,
 ⟨some 10, none, .bin .sub (.t 9) (.v (.i .i64 1))⟩,
 ⟨some 7, none, .mov (.t 10)⟩] [0, 6, 7])
 (.block 0
 (.loop [0, 6, 7]
 (.seq
 (.seq
 (.reg [
 ⟨some 11, none, .mov (.t 6)⟩,
 ⟨some 12, none, .mov (.t 7)⟩,
 ⟨some 13, none, .bin .lss (.t 11) (.t 12)⟩] [0, 6, 7, 13])
 (.cond (.t 13)
 (.skip)
 (.exit 0)))
 (.block 1
 (.seq
 (.draw [0, 0, 0, 0, 0, 0, 48, 112, 0, 0, 768, 1792, 4083, 8179, 16383, 32767] [
 ⟨some 14, none, .mov (.t 0)⟩,
 ⟨some 15, none, .mov (.t 6)⟩,
 ⟨some 16, none, .mov (.t 0)⟩,
 ⟨some 17, none, .mov (.t 7)⟩,
 ⟨some 18, none, .mov (.t 0)⟩,
 ⟨some 19, none, .mov (.t 7)⟩,
 ⟨some 20, none, .indexAddr 1 (.t 18) (.t 19)⟩,
 ⟨some 21, none, .load false 1 (.t 20)⟩,
 ⟨some 22, none, .mov (.t 0)⟩,
 ⟨some 23, none, .mov (.t 6)⟩,
 ⟨some 24, none, .indexAddr 1 (.t 22) (.t 23)⟩,
 ⟨some 25, none, .load false 1 (.t 24)⟩,
 ⟨some 26, none, .indexAddr 1 (.t 14) (.t 15)⟩,
 ⟨none, none, .store 1 (.t 26) (.t 21)⟩,
 ⟨some 27, none, .indexAddr 1 (.t 16) (.t 17)⟩,
 ⟨none, none, .store 1 (.t 27) (.t 25)⟩] [0, 6, 7])
 (.seq
 (.reg [
 ⟨some 28, none, .mov (.t 6)⟩,
 ⟨some 29, none, .bin .add (.t 28) (.v (.i .i64 1))⟩,
 ⟨some 6, none, .mov (.t 29)⟩] [0, 6, 7])
 (.reg [
 ⟨some 30, none, .mov (.t 7)⟩,
 ⟨some 31, none, .bin .sub (.t 30) (.v (.i .i64 1))⟩,
 ⟨some 7, none, .mov (.t 31)⟩] [0, 6, 7]))))))))
theorem get_slices_reverseRangeOrdered_int : prog.funcs[fid_slices_reverseRangeOrdered_int]? = some f98 := func98
theorem ok_slices_reverseRangeOrdered_int : okFn prog f98 32 [] [] mc_slices_reverseRangeOrdered_int = true := by kernel_rfl
def mc_slices_partialInsertionSortOrdered_int : MCode :=
 .seq
 (.reg [
 ⟨some 6, none, .mov (.v (.b false))⟩] [0, 1, 2])
 (.seq
 (.reg [
 ⟨some 11, none, .mov (.t 1)⟩,
 ⟨some 12, none, .bin .add (.t 11) (.v (.i .i64 1))⟩,
 ⟨some 7, none, .mov (.t 12)⟩] [0, 1, 2, 7])
 (.seq
 (.seq
 (.reg [
 ⟨some 8, none, .mov (.v (.i .i64 0))⟩] [0, 1, 2, 7, 8])
 (.block 0
 (.loop [0, 1, 2, 7, 8]
 (.seq
 (.seq
 (.reg [
 ⟨some 13, none, .mov (.t 8)⟩,
 ⟨some 14, none, .bin .lss (.t 13) (.v (.i .i64 5))⟩] [0, 1, 2, 7, 8, 14])
 (.cond (.t 14)
 (.skip)
 (.exit 0)))
 (.seq
 (.block 1
 (.seq
 (.block 2
 (.loop [0, 1, 2, 7, 8]
 (.seq
 (.seq
 (.draw [0, 0, 3, 7, 15, 15, 63, 127, 15, 15, 527, 1807, 3855, 8191, 16383, 32767] [
 ⟨some 17, none, .mov (.t 7)⟩,
 ⟨some 18, none, .mov (.t 2)⟩,
 ⟨some 19, none, .bin .lss (.t 17) (.t 18)⟩,
 ⟨some 20, none, .mov (.t 19)⟩,
 ⟨some 21, (some (20, true)), .mov (.t 0)⟩,
 ⟨some 22, (some (20, true)), .mov (.t 7)⟩,
 ⟨some 23, (some (20, true)), .indexAddr 1 (.t 21) (.t 22)⟩,
 ⟨some 24, (some (20, true)), .load false 1 (.t 23)⟩,
 ⟨some 25, (some (20, true)), .mov (.t 0)⟩,
 ⟨some 26, (some (20, true)), .mov (.t 7)⟩,
 ⟨some 27, (some (20, true)), .bin .sub (.t 26) (.v (.i .i64 1))⟩,
 ⟨some 28, (some (20, true)), .indexAddr 1 (.t 25) (.t 27)⟩,
 ⟨some 29, (some (20, true)), .load false 1 (.t 28)⟩,
 ⟨some 30, (some (20, true)), .call fid_cmp_Less_int false [.im, .im] [(.t 24), (.t 29)]⟩,
 ⟨some 31, (some (20, true)), .un .not (.t 30)⟩,
 ⟨some 32, none, .pick (.t 20) (.t 31) (.v (.b false))⟩] [0, 1, 2, 7, 8, 32])
 (.cond (.t 32)
 (.skip)
 (.exit 2)))
 (.block 3
 (.reg [
 ⟨some 33, none, .mov (.t 7)⟩,
 ⟨some 34, none, .bin .add (.t 33) (.v (.i .i64 1))⟩,
 ⟨some 7, none, .mov (.t 34)⟩] [0, 1, 2, 7, 8])))))
 (.seq
 (.seq
 (.reg [
 ⟨some 35, none, .mov (.t 7)⟩,
 ⟨some 36, none, .mov (.t 2)⟩,
 ⟨some 37, none, .bin .eql (.t 35) (.t 36)⟩] [0, 1, 2, 7, 8, 37])
 (.cond (.t 37)
 (.seq
 (.reg [
 ⟨some 6, none, .mov (.v (.b true))⟩] [6])
 (.ret))
 (.skip)))
 (.seq
 (.seq
 (.reg [
 ⟨some 38, none, .mov (.t 2)⟩,
 ⟨some 39, none, .mov (.t 1)⟩,
 ⟨some 40, none, .bin .sub (.t 38) (.t 39)⟩,
 ⟨some 41, none, .bin .lss (.t 40) (.v (.i .i64 50))⟩] [0, 1, 2, 7, 8, 41])
 (.cond (.t 41)
 (.seq
 (.reg [
 ⟨some 6, none, .mov (.v (.b false))⟩] [6])
 (.ret))
 (.skip)))
 (.seq
 (.draw [0, 0, 0, 0, 8, 0, 0, 64, 224, 480, 0, 0, 3072, 7168, 16355, 32739, 65535, 131071] [
 ⟨some 42, none, .mov (.t 0)⟩,
 ⟨some 43, none, .mov (.t 7)⟩,
 ⟨some 44, none, .mov (.t 0)⟩,
 ⟨some 45, none, .mov (.t 7)⟩,
 ⟨some 46, none, .bin .sub (.t 45) (.v (.i .i64 1))⟩,
 ⟨some 47, none, .mov (.t 0)⟩,
 ⟨some 48, none, .mov (.t 7)⟩,
 ⟨some 49, none, .bin .sub (.t 48) (.v (.i .i64 1))⟩,
 ⟨some 50, none, .indexAddr 1 (.t 47) (.t 49)⟩,
 ⟨some 51, none, .load false 1 (.t 50)⟩,
 ⟨some 52, none, .mov (.t 0)⟩,
 ⟨some 53, none, .mov (.t 7)⟩,
 ⟨some 54, none, .indexAddr 1 (.t 52) (.t 53)⟩,
 ⟨some 55, none, .load false 1 (.t 54)⟩,
 ⟨some 56, none, .indexAddr 1 (.t 42) (.t 43)⟩,
 ⟨none, none, .store 1 (.t 56) (.t 51)⟩,
 ⟨some 57, none, .indexAddr 1 (.t 44) (.t 46)⟩,
 ⟨none, none, .store 1 (.t 57) (.t 55)⟩] [0, 1, 2, 7, 8])
 (.seq
 (.seq
 (.reg [
 ⟨some 58, none, .mov (.t 7)⟩,
 ⟨some 59, none, .mov (.t 1)⟩,
 ⟨some 60, none, .bin .sub (.t 58) (.t 59)⟩,
 ⟨some 61, none, .bin .geq (.t 60) (.v (.i .i64 2))⟩] [0, 1, 2, 7, 8, 61])
 (.cond (.t 61)
 (.seq
 (.reg [
 ⟨some 62, none, .mov (.t 7)⟩,
 ⟨some 63, none, .bin .sub (.t 62) (.v (.i .i64 1))⟩,
 ⟨some 9, none, .mov (.t 63)⟩] [0, 1, 2, 7, 8, 9])
 (.block 4
 (.loop [0, 1, 2, 7, 8, 9]
 (.seq
 (.seq
 (.reg [
 ⟨some 64, none, .mov (.t 9)⟩,
 ⟨some 65, none, .bin .geq (.t 64) (.v (.i .i64 1))⟩] [0, 1, 2, 7, 8, 9, 65])
 (.cond (.t 65)
 (.skip)
 (.exit 4)))
 (.seq
 (.block 5
 (.seq
 (.seq
 (.draw [0, 0, 3, 7, 0, 0, 32, 112, 240, 511, 1023] [
 ⟨some 68, none, .mov (.t 0)⟩,
 ⟨some 69, none, .mov (.t 9)⟩,
 ⟨some 70, none, .indexAddr 1 (.t 68) (.t 69)⟩,
 ⟨some 71, none, .load false 1 (.t 70)⟩,
 ⟨some 72, none, .mov (.t 0)⟩,
 ⟨some 73, none, .mov (.t 9)⟩,
 ⟨some 74, none, .bin .sub (.t 73) (.v (.i .i64 1))⟩,
 ⟨some 75, none, .indexAddr 1 (.t 72) (.t 74)⟩,
 ⟨some 76, none, .load false 1 (.t 75)⟩,
 ⟨some 77, none, .call fid_cmp_Less_int false [.im, .im] [(.t 71), (.t 76)]⟩,
 ⟨some 78, none, .un .not (.t 77)⟩] [0, 1, 2, 7, 8, 9, 78])
 (.cond (.t 78)
 (.exit 4)
 (.skip)))
 (.draw [0, 0, 0, 0, 8, 0, 0, 64, 224, 480, 0, 0, 3072, 7168, 16355, 32739, 65535, 131071] [
 ⟨some 79, none, .mov (.t 0)⟩,
 ⟨some 80, none, .mov (.t 9)⟩,
 ⟨some 81, none, .mov (.t 0)⟩,
 ⟨some 82, none, .mov (.t 9)⟩,
 ⟨some 83, none, .bin .sub (.t 82) (.v (.i .i64 1))⟩,
 ⟨some 84, none, .mov (.t 0)⟩,
 ⟨some 85, none, .mov (.t 9)⟩,
 ⟨some 86, none, .bin .sub (.t 85) (.v (.i .i64 1))⟩,
 ⟨some 87, none, .indexAddr 1 (.t 84) (.t 86)⟩,
 ⟨some 88, none, .load false 1 (.t 87)⟩,
 ⟨some 89, none, .mov (.t 0)⟩,
 ⟨some 90, none, .mov (.t 9)⟩,
 ⟨some 91, none, .indexAddr 1 (.t 89) (.t 90)⟩,
 ⟨some 92, none, .load false 1 (.t 91)⟩,
 ⟨some 93, none, .indexAddr 1 (.t 79) (.t 80)⟩,
 ⟨none, none, .store 1 (.t 93) (.t 88)⟩,
 ⟨some 94, none, .indexAddr 1 (.t 81) (.t 83)⟩,
 ⟨none, none, .store 1 (.t 94) (.t 92)⟩] [0, 1, 2, 7, 8, 9])))
 (.reg [
 ⟨some 66, none, .mov (.t 9)⟩,
 ⟨some 67, none, .bin .sub (.t 66) (.v (.i .i64 1))⟩,
 ⟨some 9, none, .mov (.t 67)⟩] [0, 1, 2, 7, 8, 9]))))))
 (.skip)))
 (.seq
 (.reg [
 ⟨some 95, none, .mov (.t 2)⟩,
 ⟨some 96, none, .mov (.t 7)⟩,
 ⟨some 97, none, .bin .sub (.t 95) (.t 96)⟩,
 ⟨some 98, none, .bin .geq (.t 97) (.v (.i .i64 2))⟩] [0, 1, 2, 7, 8, 98])
 (.cond (.t 98)
 (.seq
 (.reg [
 ⟨some 99, none, .mov (.t 7)⟩,
 ⟨some 100, none, .bin .add (.t 99) (.v (.i .i64 1))⟩,
 ⟨some 10, none, .mov (.t 100)⟩] [0, 1, 2, 7, 8, 10])
 (.block 6
 (.loop [0, 1, 2, 7, 8, 10]
 (.seq
 (.seq
 (.reg [
 ⟨some 101, none, .mov (.t 10)⟩,
 ⟨some 102, none, .mov (.t 2)⟩,
 ⟨some 103, none, .bin .lss (.t 101) (.t 102)⟩] [0, 1, 2, 7, 8, 10, 103])
 (.cond (.t 103)
 (.skip)
 (.exit 6)))
 (.seq
 (.block 7
 (.seq
 (.seq
 (.draw [0, 0, 3, 7, 0, 0, 32, 112, 240, 511, 1023] [
 ⟨some 106, none, .mov (.t 0)⟩,
 ⟨some 107, none, .mov (.t 10)⟩,
 ⟨some 108, none, .indexAddr 1 (.t 106) (.t 107)⟩,
 ⟨some 109, none, .load false 1 (.t 108)⟩,
 ⟨some 110, none, .mov (.t 0)⟩,
 ⟨some 111, none, .mov (.t 10)⟩,
 ⟨some 112, none, .bin .sub (.t 111) (.v (.i .i64 1))⟩,
 ⟨some 113, none, .indexAddr 1 (.t 110) (.t 112)⟩,
 ⟨some 114, none, .load false 1 (.t 113)⟩,
 ⟨some 115, none, .call fid_cmp_Less_int false [.im, .im] [(.t 109), (.t 114)]⟩,
 ⟨some 116, none, .un .not (.t 115)⟩] [0, 1, 2, 7, 8, 10, 116])
 (.cond (.t 116)
 (.exit 6)
 (.skip)))
 (.draw [0, 0, 0, 0, 8, 0, 0, 64, 224, 480, 0, 0, 3072, 7168, 16355, 32739, 65535, 131071] [
 ⟨some 117, none, .mov (.t 0)⟩,
 ⟨some 118, none, .mov (.t 10)⟩,
 ⟨some 119, none, .mov (.t 0)⟩,
 ⟨some 120, none, .mov (.t 10)⟩,
 ⟨some 121, none, .bin .sub (.t 120) (.v (.i .i64 1))⟩,
 ⟨some 122, none, .mov (.t 0)⟩,
 ⟨some 123, none, .mov (.t 10)⟩,
 ⟨some 124, none, .bin .sub (.t 123) (.v (.i .i64 1))⟩,
 ⟨some 125, none, .indexAddr 1 (.t 122) (.t 124)⟩,
 ⟨some 126, none, .load false 1 (.t 125)⟩,
 ⟨some 127, none, .mov (.t 0)⟩,
 ⟨some 128, none, .mov (.t 10)⟩,
 ⟨some 129, none, .indexAddr 1 (.t 127) (.t 128)⟩,
 ⟨some 130, none, .load false 1 (.t 129)⟩,
 ⟨some 131, none, .indexAddr 1 (.t 117) (.t 118)⟩,
 ⟨none, none, .store 1 (.t 131) (.t 126)⟩,
 ⟨some 132, none, .indexAddr 1 (.t 119) (.t 121)⟩,
 ⟨none, none, .store 1 (.t 132) (.t 130)⟩] [0, 1, 2, 7, 8, 10])))
 (.reg [
 ⟨some 104, none, .mov (.t 10)⟩,
 ⟨some 105, none, .bin .add (.t 104) (.v (.i .i64 1))⟩,
 ⟨some 10, none, .mov (.t 105)⟩] [0, 1, 2, 7, 8, 10]))))))
 (.skip)))))))))
 (.reg [
 ⟨some 15, none, .mov (.t 8)⟩,
 ⟨some 16, none, .bin .add (.t 15) (.v (.i .i64 1))⟩,
 ⟨some 8, none, .mov (.t 16)⟩] [0, 1, 2, 7, 8]))))))
 (.seq
 (.reg [
 ⟨some 6, none, .mov (.v (.b false))⟩] [6])
 (.ret))))
theorem get_slices_partialInsertionSortOrdered_int : prog.funcs[fid_slices_partialInsertionSortOrdered_int]? = some f99 := func99
theorem ok_slices_partialInsertionSortOrdered_int : okFn prog f99 133 [] [(6, none)] mc_slices_partialInsertionSortOrdered_int = true := by kernel_rfl
def mc_cmp_Less_int : MCode :=
 .seq
 (.reg [
 ⟨some 4, none, .mov (.v (.b false))⟩] [0, 1])
 (.seq
 (.reg [
 ⟨some 5, none, .mov (.t 0)⟩,
 ⟨some 6, none, .call fid_cmp_isNaN_int false [.im] [(.t 5)]⟩,
 ⟨some 7, none, .mov (.t 6)⟩,
 ⟨some 8, (some (7, true)), .mov (.t 1)⟩,
 ⟨some 9, (some (7, true)), .call fid_cmp_isNaN_int false [.im] [(.t 8)]⟩,
 ⟨some 10, (some (7, true)), .un .not (.t 9)⟩,
 ⟨some 11, none, .pick (.t 7) (.t 10) (.v (.b false))⟩,
 ⟨some 12, none, .mov (.t 11)⟩,
 ⟨some 13, (some (12, false)), .mov (.t 0)⟩,
 ⟨some 14, (some (12, false)), .mov (.t 1)⟩,
 ⟨some 15, (some (12, false)), .bin .lss (.t 13) (.t 14)⟩,
 ⟨some 16, none, .pick (.t 12) (.v (.b true)) (.t 15)⟩,
 ⟨some 4, none, .mov (.t 16)⟩] [4])
 (.ret))
theorem get_cmp_Less_int : prog.funcs[fid_cmp_Less_int]? = some f100 := func100
theorem ok_cmp_Less_int : okFn prog f100 17 [] [(4, none)] mc_cmp_Less_int = true := by kernel_rfl
def mc_slices_partitionEqualOrdered_int : MCode :=
 .seq
 (.reg [
 ⟨some 8, none, .mov (.v (.i .i64 0))⟩] [0, 1, 2, 3])
 (.seq
 (.draw [0, 0, 0, 0, 0, 0, 48, 112, 0, 0, 768, 1792, 4083, 8179, 16383, 32767] [
 ⟨some 11, none, .mov (.t 0)⟩,
 ⟨some 12, none, .mov (.t 1)⟩,
 ⟨some 13, none, .mov (.t 0)⟩,
 ⟨some 14, none, .mov (.t 3)⟩,
 ⟨some 15, none, .mov (.t 0)⟩,
 ⟨some 16, none, .mov (.t 3)⟩,
 ⟨some 17, none, .indexAddr 1 (.t 15) (.t 16)⟩,
 ⟨some 18, none, .load false 1 (.t 17)⟩,
 ⟨some 19, none, .mov (.t 0)⟩,
 ⟨some 20, none, .mov (.t 1)⟩,
 ⟨some 21, none, .indexAddr 1 (.t 19) (.t 20)⟩,
 ⟨some 22, none, .load false 1 (.t 21)⟩,
 ⟨some 23, none, .indexAddr 1 (.t 11) (.t 12)⟩,
 ⟨none, none, .store 1 (.t 23) (.t 18)⟩,
 ⟨some 24, none, .indexAddr 1 (.t 13) (.t 14)⟩,
 ⟨none, none, .store 1 (.t 24) (.t 22)⟩] [0, 1, 2])
 (.seq
 (.reg [
 ⟨some 25, none, .mov (.t 1)⟩,
 ⟨some 26, none, .bin .add (.t 25) (.v (.i .i64 1))⟩,
 ⟨some 27, none, .mov (.t 2)⟩,
 ⟨some 28, none, .bin .sub (.t 27) (.v (.i .i64 1))⟩,
 ⟨some 9, none, .mov (.t 26)⟩,
 ⟨some 10, none, .mov (.t 28)⟩] [0, 1, 9, 10])
 (.seq
 (.block 0
 (.loop [0, 1, 9, 10]
 (.block 1
 (.seq
 (.block 2
 (.loop [0, 1, 9, 10]
 (.seq
 (.seq
 (.draw [0, 0, 3, 7, 15, 15, 63, 127, 15, 15, 783, 1807, 4095, 8191, 16383] [
 ⟨some 29, none, .mov (.t 9)⟩,
 ⟨some 30, none, .mov (.t 10)⟩,
 ⟨some 31, none, .bin .leq (.t 29) (.t 30)⟩,
 ⟨some 32, none, .mov (.t 31)⟩,
 ⟨some 33, (some (32, true)), .mov (.t 0)⟩,
 ⟨some 34, (some (32, true)), .mov (.t 1)⟩,
 ⟨some 35, (some (32, true)), .indexAddr 1 (.t 33) (.t 34)⟩,
 ⟨some 36, (some (32, true)), .load false 1 (.t 35)⟩,
 ⟨some 37, (some (32, true)), .mov (.t 0)⟩,
 ⟨some 38, (some (32, true)), .mov (.t 9)⟩,
 ⟨some 39, (some (32, true)), .indexAddr 1 (.t 37) (.t 38)⟩,
 ⟨some 40, (some (32, true)), .load false 1 (.t 39)⟩,
 ⟨some 41, (some (32, true)), .call fid_cmp_Less_int false [.im, .im] [(.t 36), (.t 40)]⟩,
 ⟨some 42, (some (32, true)), .un .not (.t 41)⟩,
 ⟨some 43, none, .pick (.t 32) (.t 42) (.v (.b false))⟩] [0, 1, 9, 10, 43])
 (.cond (.t 43)
 (.skip)
 (.exit 2)))
 (.block 3
 (.reg [
 ⟨some 44, none, .mov (.t 9)⟩,
 ⟨some 45, none, .bin .add (.t 44) (.v (.i .i64 1))⟩,
 ⟨some 9, none, .mov (.t 45)⟩] [0, 1, 9, 10])))))
 (.seq
 (.block 4
 (.loop [0, 1, 9, 10]
 (.seq
 (.seq
 (.draw [0, 0, 3, 7, 15, 15, 63, 127, 15, 15, 783, 1807, 4095, 8191] [
 ⟨some 46, none, .mov (.t 9)⟩,
 ⟨some 47, none, .mov (.t 10)⟩,
 ⟨some 48, none, .bin .leq (.t 46) (.t 47)⟩,
 ⟨some 49, none, .mov (.t 48)⟩,
 ⟨some 50, (some (49, true)), .mov (.t 0)⟩,
 ⟨some 51, (some (49, true)), .mov (.t 1)⟩,
 ⟨some 52, (some (49, true)), .indexAddr 1 (.t 50) (.t 51)⟩,
 ⟨some 53, (some (49, true)), .load false 1 (.t 52)⟩,
 ⟨some 54, (some (49, true)), .mov (.t 0)⟩,
 ⟨some 55, (some (49, true)), .mov (.t 10)⟩,
 ⟨some 56, (some (49, true)), .indexAddr 1 (.t 54) (.t 55)⟩,
 ⟨some 57, (some (49, true)), .load false 1 (.t 56)⟩,
 ⟨some 58, (some (49, true)), .call fid_cmp_Less_int false [.im, .im] [(.t 53), (.t 57)]⟩,
 ⟨some 59, none, .pick (.t 49) (.t 58) (.v (.b false))⟩] [0, 1, 9, 10, 59])
 (.cond (.t 59)
 (.skip)
 (.exit 4)))
 (.block 5
 (.reg [
 ⟨some 60, none, .mov (.t 10)⟩,
 ⟨some 61, none, .bin .sub (.t 60) (.v (.i .i64 1))⟩,
 ⟨some 10, none, .mov (.t 61)⟩] [0, 1, 9, 10])))))
 (.seq
 (.seq
 (.reg [
 ⟨some 62, none, .mov (.t 9)⟩,
 ⟨some 63, none, .mov (.t 10)⟩,
 ⟨some 64, none, .bin .gtr (.t 62) (.t 63)⟩] [0, 1, 9, 10, 64])
 (.cond (.t 64)
 (.exit 0)
 (.skip)))
 (.seq
 (.draw [0, 0, 0, 0, 0, 0, 48, 112, 0, 0, 768, 1792, 4083, 8179, 16383, 32767] [
 ⟨some 65, none, .mov (.t 0)⟩,
 ⟨some 66, none, .mov (.t 9)⟩,
 ⟨some 67, none, .mov (.t 0)⟩,
 ⟨some 68, none, .mov (.t 10)⟩,
 ⟨some 69, none, .mov (.t 0)⟩,
 ⟨some 70, none, .mov (.t 10)⟩,
 ⟨some 71, none, .indexAddr 1 (.t 69) (.t 70)⟩,
 ⟨some 72, none, .load false 1 (.t 71)⟩,
 ⟨some 73, none, .mov (.t 0)⟩,
 ⟨some 74, none, .mov (.t 9)⟩,
 ⟨some 75, none, .indexAddr 1 (.t 73) (.t 74)⟩,
 ⟨some 76, none, .load false 1 (.t 75)⟩,
 ⟨some 77, none, .indexAddr 1 (.t 65) (.t 66)⟩,
 ⟨none, none, .store 1 (.t 77) (.t 72)⟩,
 ⟨some 78, none, .indexAddr 1 (.t 67) (.t 68)⟩,
 ⟨none, none, .store 1 (.t 78) (.t 76)⟩] [0, 1, 9, 10])
 (.seq
 (.reg [
 ⟨some 79, none, .mov (.t 9)⟩,
 ⟨some 80, none, .bin .add (.t 79) (.v (.i .i64 1))⟩,
 ⟨some 9, none, .mov (.t 80)⟩] [0, 1, 9, 10])
 (.reg [
 ⟨some 81, none, .mov (.t 10)⟩,
 ⟨some 82, none, .bin .sub (.t 81) (.v (.i .i64 1))⟩,
 ⟨some 10, none, .mov (.t 82)⟩] [0, 1, 9, 10])))))))))
 (.seq
 (.reg [
 ⟨some 83, none, .mov (.t 9)⟩,
 ⟨some 8, none, .mov (.t 83)⟩] [8])
 (.ret)))))
theorem get_slices_partitionEqualOrdered_int : prog.funcs[fid_slices_partitionEqualOrdered_int]? = some f101 := func101
theorem ok_slices_partitionEqualOrdered_int : okFn prog f101 84 [] [(8, none)] mc_slices_partitionEqualOrdered_int = true := by kernel_rfl
def mc_slices_partitionOrdered_int : MCode :=
 .seq
 (.reg [
 ⟨some 8, none, .mov (.v (.i .i64 0))⟩,
 ⟨some 9, none, .mov (.v (.b false))⟩] [0, 1, 2, 3])
 (.seq
 (.draw [0, 0, 0, 0, 0, 0, 48, 112, 0, 0, 768, 1792, 4083, 8179, 16383, 32767] [
 ⟨some 12, none, .mov (.t 0)⟩,
 ⟨some 13, none, .mov (.t 1)⟩,
 ⟨some 14, none, .mov (.t 0)⟩,
 ⟨some 15, none, .mov (.t 3)⟩,
 ⟨some 16, none, .mov (.t 0)⟩,
 ⟨some 17, none, .mov (.t 3)⟩,
 ⟨some 18, none, .indexAddr 1 (.t 16) (.t 17)⟩,
 ⟨some 19, none, .load false 1 (.t 18)⟩,
 ⟨some 20, none, .mov (.t 0)⟩,
 ⟨some 21, none, .mov (.t 1)⟩,
 ⟨some 22, none, .indexAddr 1 (.t 20) (.t 21)⟩,
 ⟨some 23, none, .load false 1 (.t 22)⟩,
 ⟨some 24, none, .indexAddr 1 (.t 12) (.t 13)⟩,
 ⟨none, none, .store 1 (.t 24) (.t 19)⟩,
 ⟨some 25, none, .indexAddr 1 (.t 14) (.t 15)⟩,
 ⟨none, none, .store 1 (.t 25) (.t 23)⟩] [0, 1, 2])
 (.seq
 (.reg [
 ⟨some 26, none, .mov (.t 1)⟩,
 ⟨some 27, none, .bin .add (.t 26) (.v (.i .i64 1))⟩,
 ⟨some 28, none, .mov (.t 2)⟩,
 ⟨some 29, none, .bin .sub (.t 28) (.v (.i .i64 1))⟩,
 ⟨some 10, none, .mov (.t 27)⟩,
 ⟨some 11, none, .mov (.t 29)⟩] [0, 1, 10, 11])
 (.seq
 (.block 0
 (.loop [0, 1, 10, 11]
 (.seq
 (.seq
 (.draw [0, 0, 3, 7, 15, 15, 63, 127, 15, 15, 783, 1807, 4095, 8191] [
 ⟨some 30, none, .mov (.t 10)⟩,
 ⟨some 31, none, .mov (.t 11)⟩,
 ⟨some 32, none, .bin .leq (.t 30) (.t 31)⟩,
 ⟨some 33, none, .mov (.t 32)⟩,
 ⟨some 34, (some (33, true)), .mov (.t 0)⟩,
 ⟨some 35, (some (33, true)), .mov (.t 10)⟩,
 ⟨some 36, (some (33, true)), .indexAddr 1 (.t 34) (.t 35)⟩,
 ⟨some 37, (some (33, true)), .load false 1 (.t 36)⟩,
 ⟨some 38, (some (33, true)), .mov (.t 0)⟩,
 ⟨some 39, (some (33, true)), .mov (.t 1)⟩,
 ⟨some 40, (some (33, true)), .indexAddr 1 (.t 38) (.t 39)⟩,
 ⟨some 41, (some (33, true)), .load false 1 (.t 40)⟩,
 ⟨some 42, (some (33, true)), .call fid_cmp_Less_int false [.im, .im] [(.t 37), (.t 41)]⟩,
 ⟨some 43, none, .pick (.t 33) (.t 42) (.v (.b false))⟩] [0, 1, 10, 11, 43])
 (.cond (.t 43)
 (.skip)
 (.exit 0)))
 (.block 1
 (.reg [
 ⟨some 44, none, .mov (.t 10)⟩,
 ⟨some 45, none, .bin .add (.t 44) (.v (.i .i64 1))⟩,
 ⟨some 10, none, .mov (.t 45)⟩] [0, 1, 10, 11])))))
 (.seq
 (.block 2
 (.loop [0, 1, 10, 11]
 (.seq
 (.seq
 (.draw [0, 0, 3, 7, 15, 15, 63, 127, 15, 15, 783, 1807, 4095, 8191, 16383] [
 ⟨some 46, none, .mov (.t 10)⟩,
 ⟨some 47, none, .mov (.t 11)⟩,
 ⟨some 48, none, .bin .leq (.t 46) (.t 47)⟩,
 ⟨some 49, none, .mov (.t 48)⟩,
 ⟨some 50, (some (49, true)), .mov (.t 0)⟩,
 ⟨some 51, (some (49, true)), .mov (.t 11)⟩,
 ⟨some 52, (some (49, true)), .indexAddr 1 (.t 50) (.t 51)⟩,
 ⟨some 53, (some (49, true)), .load false 1 (.t 52)⟩,
 ⟨some 54, (some (49, true)), .mov (.t 0)⟩,
 ⟨some 55, (some (49, true)), .mov (.t 1)⟩,
 ⟨some 56, (some (49, true)), .indexAddr 1 (.t 54) (.t 55)⟩,
 ⟨some 57, (some (49, true)), .load false 1 (.t 56)⟩,
 ⟨some 58, (some (49, true)), .call fid_cmp_Less_int false [.im, .im] [(.t 53), (.t 57)]⟩,
 ⟨some 59, (some (49, true)), .un .not (.t 58)⟩,
 ⟨some 60, none, .pick (.t 49) (.t 59) (.v (.b false))⟩] [0, 1, 10, 11, 60])
 (.cond (.t 60)
 (.skip)
 (.exit 2)))
 (.block 3
 (.reg [
 ⟨some 61, none, .mov (.t 11)⟩,
 ⟨some 62, none, .bin .sub (.t 61) (.v (.i .i64 1))⟩,
 ⟨some 11, none, .mov (.t 62)⟩] [0, 1, 10, 11])))))
 (.seq
 (.seq
 (.reg [
 ⟨some 63, none, .mov (.t 10)⟩,
 ⟨some 64, none, .mov (.t 11)⟩,
 ⟨some 65, none, .bin .gtr (.t 63) (.t 64)⟩] [0, 1, 10, 11, 65])
 (.cond (.t 65)
 (.seq
 (.draw [0, 0, 0, 0, 0, 0, 48, 112, 0, 0, 768, 1792, 4083, 8179, 16383, 32767] [
 ⟨some 66, none, .mov (.t 0)⟩,
 ⟨some 67, none, .mov (.t 11)⟩,
 ⟨some 68, none, .mov (.t 0)⟩,
 ⟨some 69, none, .mov (.t 1)⟩,
 ⟨some 70, none, .mov (.t 0)⟩,
 ⟨some 71, none, .mov (.t 1)⟩,
 ⟨some 72, none, .indexAddr 1 (.t 70) (.t 71)⟩,
 ⟨some 73, none, .load false 1 (.t 72)⟩,
 ⟨some 74, none, .mov (.t 0)⟩,
 ⟨some 75, none, .mov (.t 11)⟩,
 ⟨some 76, none, .indexAddr 1 (.t 74) (.t 75)⟩,
 ⟨some 77, none, .load false 1 (.t 76)⟩,
 ⟨some 78, none, .indexAddr 1 (.t 66) (.t 67)⟩,
 ⟨none, none, .store 1 (.t 78) (.t 73)⟩,
 ⟨some 79, none, .indexAddr 1 (.t 68) (.t 69)⟩,
 ⟨none, none, .store 1 (.t 79) (.t 77)⟩] [11])
 (.seq
 (.reg [
 ⟨some 80, none, .mov (.t 11)⟩,
 ⟨some 8, none, .mov (.t 80)⟩,
 ⟨some 9, none, .mov (.v (.b true))⟩] [8, 9])
 (.ret)))
 (.skip)))
 (.seq
 (.draw [0, 0, 0, 0, 0, 0, 48, 112, 0, 0, 768, 1792, 4083, 8179, 16383, 32767] [
 ⟨some 81, none, .mov (.t 0)⟩,
 ⟨some 82, none, .mov (.t 10)⟩,
 ⟨some 83, none, .mov (.t 0)⟩,
 ⟨some 84, none, .mov (.t 11)⟩,
 ⟨some 85, none, .mov (.t 0)⟩,
 ⟨some 86, none, .mov (.t 11)⟩,
 ⟨some 87, none, .indexAddr 1 (.t 85) (.t 86)⟩,
 ⟨some 88, none, .load false 1 (.t 87)⟩,
 ⟨some 89, none, .mov (.t 0)⟩,
 ⟨some 90, none, .mov (.t 10)⟩,
 ⟨some 91, none, .indexAddr 1 (.t 89) (.t 90)⟩,
 ⟨some 92, none, .load false 1 (.t 91)⟩,
 ⟨some 93, none, .indexAddr 1 (.t 81) (.t 82)⟩,
 ⟨none, none, .store 1 (.t 93) (.t 88)⟩,
 ⟨some 94, none, .indexAddr 1 (.t 83) (.t 84)⟩,
 ⟨none, none, .store 1 (.t 94) (.t 92)⟩] [0, 1, 10, 11])
 (.seq
 (.reg [
 ⟨some 95, none, .mov (.t 10)⟩,
 ⟨some 96, none, .bin .add (.t 95) (.v (.i .i64 1))⟩,
 ⟨some 10, none, .mov (.t 96)⟩] [0, 1, 10, 11])
 (.seq
 (.reg [
 ⟨some 97, none, .mov (.t 11)⟩,
 ⟨some 98, none, .bin .sub (.t 97) (.v (.i .i64 1))⟩,
 ⟨some 11, none, .mov (.t 98)⟩] [0, 1, 10, 11])
 (.seq
 (.block 4
 (.loop [0, 1, 10, 11]
 (.block 5
 (.seq
 (.block 6
 (.loop [0, 1, 10, 11]
 (.seq
 (.seq
 (.draw [0, 0, 3, 7, 15, 15, 63, 127, 15, 15, 783, 1807, 4095, 8191] [
 ⟨some 99, none, .mov (.t 10)⟩,
 ⟨some 100, none, .mov (.t 11)⟩,
 ⟨some 101, none, .bin .leq (.t 99) (.t 100)⟩,
 ⟨some 102, none, .mov (.t 101)⟩,
 ⟨some 103, (some (102, true)), .mov (.t 0)⟩,
 ⟨some 104, (some (102, true)), .mov (.t 10)⟩,
 ⟨some 105, (some (102, true)), .indexAddr 1 (.t 103) (.t 104)⟩,
 ⟨some 106, (some (102, true)), .load false 1 (.t 105)⟩,
 ⟨some 107, (some (102, true)), .mov (.t 0)⟩,
 ⟨some 108, (some (102, true)), .mov (.t 1)⟩,
 ⟨some 109, (some (102, true)), .indexAddr 1 (.t 107) (.t 108)⟩,
 ⟨some 110, (some (102, true)), .load false 1 (.t 109)⟩,
 ⟨some 111, (some (102, true)), .call fid_cmp_Less_int false [.im, .im] [(.t 106), (.t 110)]⟩,
 ⟨some 112, none, .pick (.t 102) (.t 111) (.v (.b false))⟩] [0, 1, 10, 11, 112])
 (.cond (.t 112)
 (.skip)
 (.exit 6)))
 (.block 7
 (.reg [
 ⟨some 113, none, .mov (.t 10)⟩,
 ⟨some 114, none, .bin .add (.t 113) (.v (.i .i64 1))⟩,
 ⟨some 10, none, .mov (.t 114)⟩] [0, 1, 10, 11])))))
 (.seq
 (.block 8
 (.loop [0, 1, 10, 11]
 (.seq
 (.seq
 (.draw [0, 0, 3, 7, 15, 15, 63, 127, 15, 15, 783, 1807, 4095, 8191, 16383] [
 ⟨some 115, none, .mov (.t 10)⟩,
 ⟨some 116, none, .mov (.t 11)⟩,
 ⟨some 117, none, .bin .leq (.t 115) (.t 116)⟩,
 ⟨some 118, none, .mov (.t 117)⟩,
 ⟨some 119, (some (118, true)), .mov (.t 0)⟩,
 ⟨some 120, (some (118, true)), .mov (.t 11)⟩,
 ⟨some 121, (some (118, true)), .indexAddr 1 (.t 119) (.t 120)⟩,
 ⟨some 122, (some (118, true)), .load false 1 (.t 121)⟩,
 ⟨some 123, (some (118, true)), .mov (.t 0)⟩,
 ⟨some 124, (some (118, true)), .mov (.t 1)⟩,
 ⟨some 125, (some (118, true)), .indexAddr 1 (.t 123) (.t 124)⟩,
 ⟨some 126, (some (118, true)), .load false 1 (.t 125)⟩,
 ⟨some 127, (some (118, true)), .call fid_cmp_Less_int false [.im, .im] [(.t 122), (.t 126)]⟩,
 ⟨some 128, (some (118, true)), .un .not (.t 127)⟩,
 ⟨some 129, none, .pick (.t 118) (.t 128) (.v (.b false))⟩] [0, 1, 10, 11, 129])
 (.cond (.t 129)
 (.skip)
 (.exit 8)))
 (.block 9
 (.reg [
 ⟨some 130, none, .mov (.t 11)⟩,
 ⟨some 131, none, .bin .sub (.t 130) (.v (.i .i64 1))⟩,
 ⟨some 11, none, .mov (.t 131)⟩] [0, 1, 10, 11])))))
 (.seq
 (.seq
 (.reg [
 ⟨some 132, none, .mov (.t 10)⟩,
 ⟨some 133, none, .mov (.t 11)⟩,
 ⟨some 134, none, .bin .gtr (.t 132) (.t 133)⟩] [0, 1, 10, 11, 134])
 (.cond (.t 134)
 (.exit 4)
 (.skip)))
 (.seq
 (.draw [0, 0, 0, 0, 0, 0, 48, 112, 0, 0, 768, 1792, 4083, 8179, 16383, 32767] [
 ⟨some 135, none, .mov (.t 0)⟩,
 ⟨some 136, none, .mov (.t 10)⟩,
 ⟨some 137, none, .mov (.t 0)⟩,
 ⟨some 138, none, .mov (.t 11)⟩,
 ⟨some 139, none, .mov (.t 0)⟩,
 ⟨some 140, none, .mov (.t 11)⟩,
 ⟨some 141, none, .indexAddr 1 (.t 139) (.t 140)⟩,
 ⟨some 142, none, .load false 1 (.t 141)⟩,
 ⟨some 143, none, .mov (.t 0)⟩,
 ⟨some 144, none, .mov (.t 10)⟩,
 ⟨some 145, none, .indexAddr 1 (.t 143) (.t 144)⟩,
 ⟨some 146, none, .load false 1 (.t 145)⟩,
 ⟨some 147, none, .indexAddr 1 (.t 135) (.t 136)⟩,
 ⟨none, none, .store 1 (.t 147) (.t 142)⟩,
 ⟨some 148, none, .indexAddr 1 (.t 137) (.t 138)⟩,
 ⟨none, none, .store 1 (.t 148) (.t 146)⟩] [0, 1, 10, 11])
 (.seq
 (.reg [
 ⟨some 149, none, .mov (.t 10)⟩,
 ⟨some 150, none, .bin .add (.t 149) (.v (.i .i64 1))⟩,
 ⟨some 10, none, .mov (.t 150)⟩] [0, 1, 10, 11])
 (.reg [
 ⟨some 151, none, .mov (.t 11)⟩,
 ⟨some 152, none, .bin .sub (.t 151) (.v (.i .i64 1))⟩,
 ⟨some 11, none, .mov (.t 152)⟩] [0, 1, 10, 11])))))))))
 (.seq
 (.draw [0, 0, 0, 0, 0, 0, 48, 112, 0, 0, 768, 1792, 4083, 8179, 16383, 32767] [
 ⟨some 153, none, .mov (.t 0)⟩,
 ⟨some 154, none, .mov (.t 11)⟩,
 ⟨some 155, none, .mov (.t 0)⟩,
 ⟨some 156, none, .mov (.t 1)⟩,
 ⟨some 157, none, .mov (.t 0)⟩,
 ⟨some 158, none, .mov (.t 1)⟩,
 ⟨some 159, none, .indexAddr 1 (.t 157) (.t 158)⟩,
 ⟨some 160, none, .load false 1 (.t 159)⟩,
 ⟨some 161, none, .mov (.t 0)⟩,
 ⟨some 162, none, .mov (.t 11)⟩,
 ⟨some 163, none, .indexAddr 1 (.t 161) (.t 162)⟩,
 ⟨some 164, none, .load false 1 (.t 163)⟩,
 ⟨some 165, none, .indexAddr 1 (.t 153) (.t 154)⟩,
 ⟨none, none, .store 1 (.t 165) (.t 160)⟩,
 ⟨some 166, none, .indexAddr 1 (.t 155) (.t 156)⟩,
 ⟨none, none, .store 1 (.t 166) (.t 164)⟩] [11])
 (.seq
 (.reg [
 ⟨some 167, none, .mov (.t 11)⟩,
 ⟨some 8, none, .mov (.t 167)⟩,
 ⟨some 9, none, .mov (.v (.b false))⟩] [8, 9])
 (.ret))))))))))))
theorem get_slices_partitionOrdered_int : prog.funcs[fid_slices_partitionOrdered_int]? = some f102 := func102
theorem ok_slices_partitionOrdered_int : okFn prog f102 168 [] [(8, none), (9, none)] mc_slices_partitionOrdered_int = true := by kernel_rfl
def mc_math_bits_Len32 : MCode :=
 .seq
 (.reg [
 ⟨some 2, none, .mov (.v (.i .i64 0))⟩] [0, 2])
 (.seq
 (.seq
 (.reg [
 ⟨some 3, none, .mov (.t 0)⟩,
 ⟨some 4, none, .bin .geq (.t 3) (.v (.i .u32 65536))⟩] [0, 2, 4])
 (.cond (.t 4)
 (.seq
 (.reg [
 ⟨some 5, none, .mov (.t 0)⟩,
 ⟨some 6, none, .bin .shr (.t 5) (.v (.i .u64 16))⟩,
 ⟨some 0, none, .mov (.t 6)⟩] [0])
 (.reg [
 ⟨some 2, none, .mov (.v (.i .i64 16))⟩] [0, 2]))
 (.skip)))
 (.seq
 (.seq
 (.reg [
 ⟨some 7, none, .mov (.t 0)⟩,
 ⟨some 8, none, .bin .geq (.t 7) (.v (.i .u32 256))⟩] [0, 2, 8])
 (.cond (.t 8)
 (.seq
 (.reg [
 ⟨some 9, none, .mov (.t 0)⟩,
 ⟨some 10, none, .bin .shr (.t 9) (.v (.i .u64 8))⟩,
 ⟨some 0, none, .mov (.t 10)⟩] [0, 2])
 (.reg [
 ⟨some 11, none, .mov (.t 2)⟩,
 ⟨some 12, none, .bin .add (.t 11) (.v (.i .i64 8))⟩,
 ⟨some 2, none, .mov (.t 12)⟩] [0, 2]))
 (.skip)))
 (.seq
 (.reg [
 ⟨some 13, none, .mov (.t 2)⟩,
 ⟨some 14, none, .mov (.t 0)⟩,
 ⟨some 15, none, .conv .u8 (.t 14)⟩,
 ⟨some 16, none, .strIdx [0, 1, 2, 2, 3, 3, 3, 3, 4, 4, 4, 4, 4, 4, 4, 4, 5, 5, 5, 5, 5, 5, 5, 5, 5, 5, 5, 5, 5, 5, 5, 5, 6, 6, 6, 6, 6, 6, 6, 6, 6, 6, 6, 6, 6, 6, 6, 6, 6, 6, 6, 6, 6, 6, 6, 6, 6, 6, 6, 6, 6, 6, 6, 6, 7, 7, 7, 7, 7, 7, 7, 7, 7, 7, 7, 7, 7, 7, 7, 7, 7, 7, 7, 7, 7, 7, 7, 7, 7, 7, 7, 7, 7, 7, 7, 7, 7, 7, 7, 7, 7, 7, 7, 7, 7, 7, 7, 7, 7, 7, 7, 7, 7, 7, 7, 7, 7, 7, 7, 7, 7, 7, 7, 7, 7, 7, 7, 7, 8, 8, 8, 8, 8, 8, 8, 8, 8, 8, 8, 8, 8, 8, 8, 8, 8, 8, 8, 8, 8, 8, 8, 8, 8, 8, 8, 8, 8, 8, 8, 8, 8, 8, 8, 8, 8, 8, 8, 8, 8, 8, 8, 8, 8, 8, 8, 8, 8, 8, 8, 8, 8, 8, 8, 8, 8, 8, 8, 8, 8, 8, 8, 8, 8, 8, 8, 8, 8, 8, 8, 8, 8, 8, 8, 8, 8, 8, 8, 8, 8, 8, 8, 8, 8, 8, 8, 8, 8, 8, 8, 8, 8, 8, 8, 8, 8, 8, 8, 8, 8, 8, 8, 8, 8, 8, 8, 8, 8, 8, 8, 8, 8, 8, 8, 8, 8, 8, 8, 8, 8, 8, 8, 8, 8, 8, 8, 8] (.t 15)⟩,
 ⟨some 17, none, .conv .i64 (.t 16)⟩,
 ⟨some 18, none, .bin .add (.t 13) (.t 17)⟩,
 ⟨some 2, none, .mov (.t 18)⟩] [2])
 (.ret))))
theorem get_math_bits_Len32 : prog.funcs[fid_math_bits_Len32]? = some f103 := func103
theorem ok_math_bits_Len32 : okFn prog f103 19 [] [(2, none)] mc_math_bits_Len32 = true := by kernel_rfl
def mc_math_bits_Len64 : MCode :=
 .seq
 (.reg [
 ⟨some 2, none, .mov (.v (.i .i64 0))⟩] [0, 2])
 (.seq
 (.seq
 (.reg [
 ⟨some 3, none, .mov (.t 0)⟩,
 ⟨some 4, none, .bin .geq (.t 3) (.v (.i .u64 4294967296))⟩] [0, 2, 4])
 (.cond (.t 4)
 (.seq
 (.reg [
 ⟨some 5, none, .mov (.t 0)⟩,
 ⟨some 6, none, .bin .shr (.t 5) (.v (.i .u64 32))⟩,
 ⟨some 0, none, .mov (.t 6)⟩] [0])
 (.reg [
 ⟨some 2, none, .mov (.v (.i .i64 32))⟩] [0, 2]))
 (.skip)))
 (.seq
 (.seq
 (.reg [
 ⟨some 7, none, .mov (.t 0)⟩,
 ⟨some 8, none, .bin .geq (.t 7) (.v (.i .u64 65536))⟩] [0, 2, 8])
 (.cond (.t 8)
 (.seq
 (.reg [
 ⟨some 9, none, .mov (.t 0)⟩,
 ⟨some 10, none, .bin .shr (.t 9) (.v (.i .u64 16))⟩,
 ⟨some 0, none, .mov (.t 10)⟩] [0, 2])
 (.reg [
 ⟨some 11, none, .mov (.t 2)⟩,
 ⟨some 12, none, .bin .add (.t 11) (.v (.i .i64 16))⟩,
 ⟨some 2, none, .mov (.t 12)⟩] [0, 2]))
 (.skip)))
 (.seq
 (.seq
 (.reg [
 ⟨some 13, none, .mov (.t 0)⟩,
 ⟨some 14, none, .bin .geq (.t 13) (.v (.i .u64 256))⟩] [0, 2, 14])
 (.cond (.t 14)
 (.seq
 (.reg [
 ⟨some 15, none, .mov (.t 0)⟩,
 ⟨some 16, none, .bin .shr (.t 15) (.v (.i .u64 8))⟩,
 ⟨some 0, none, .mov (.t 16)⟩] [0, 2])
 (.reg [
 ⟨some 17, none, .mov (.t 2)⟩,
 ⟨some 18, none, .bin .add (.t 17) (.v (.i .i64 8))⟩,
 ⟨some 2, none, .mov (.t 18)⟩] [0, 2]))
 (.skip)))
 (.seq
 (.reg [
 ⟨some 19, none, .mov (.t 2)⟩,
 ⟨some 20, none, .mov (.t 0)⟩,
 ⟨some 21, none, .conv .u8 (.t 20)⟩,
 ⟨some 22, none, .strIdx [0, 1, 2, 2, 3, 3, 3, 3, 4, 4, 4, 4, 4, 4, 4, 4, 5, 5, 5, 5, 5, 5, 5, 5, 5, 5, 5, 5, 5, 5, 5, 5, 6, 6, 6, 6, 6, 6, 6, 6, 6, 6, 6, 6, 6, 6, 6, 6, 6, 6, 6, 6, 6, 6, 6, 6, 6, 6, 6, 6, 6, 6, 6, 6, 7, 7, 7, 7, 7, 7, 7, 7, 7, 7, 7, 7, 7, 7, 7, 7, 7, 7, 7, 7, 7, 7, 7, 7, 7, 7, 7, 7, 7, 7, 7, 7, 7, 7, 7, 7, 7, 7, 7, 7, 7, 7, 7, 7, 7, 7, 7, 7, 7, 7, 7, 7, 7, 7, 7, 7, 7, 7, 7, 7, 7, 7, 7, 7, 8, 8, 8, 8, 8, 8, 8, 8, 8, 8, 8, 8, 8, 8, 8, 8, 8, 8, 8, 8, 8, 8, 8, 8, 8, 8, 8, 8, 8, 8, 8, 8, 8, 8, 8, 8, 8, 8, 8, 8, 8, 8, 8, 8, 8, 8, 8, 8, 8, 8, 8, 8, 8, 8, 8, 8, 8, 8, 8, 8, 8, 8, 8, 8, 8, 8, 8, 8, 8, 8, 8, 8, 8, 8, 8, 8, 8, 8, 8, 8, 8, 8, 8, 8, 8, 8, 8, 8, 8, 8, 8, 8, 8, 8, 8, 8, 8, 8, 8, 8, 8, 8, 8, 8, 8, 8, 8, 8, 8, 8, 8, 8, 8, 8, 8, 8, 8, 8, 8, 8, 8, 8, 8, 8, 8, 8, 8, 8] (.t 21)⟩,
 ⟨some 23, none, .conv .i64 (.t 22)⟩,
 ⟨some 24, none, .bin .add (.t 19) (.t 23)⟩,
 ⟨some 2, none, .mov (.t 24)⟩] [2])
 (.ret)))))
theorem get_math_bits_Len64 : prog.funcs[fid_math_bits_Len64]? = some f104 := func104
theorem ok_math_bits_Len64 : okFn prog f104 25 [] [(2, none)] mc_math_bits_Len64 = true := by kernel_rfl
def mc_slices_Reverse_impl_Edge_impl_Edge : MCode :=
 .seq
 (.reg [
 ⟨some 4, none, .mov (.t 0)⟩,
 ⟨some 5, none, .len (.t 4)⟩,
 ⟨some 6, none, .bin .sub (.t 5) (.v (.i .i64 1))⟩,
 ⟨some 2, none, .mov (.v (.i .i64 0))⟩,
 ⟨some 3, none, .mov (.t 6)⟩] [0, 2, 3])
 (.block 0
 (.loop [0, 2, 3]
 (.seq
 (.seq
 (.reg [
 ⟨some 7, none, .mov (.t 2)⟩,
 ⟨some 8, none, .mov (.t 3)⟩,
 ⟨some 9, none, .bin .lss (.t 7) (.t 8)⟩] [0, 2, 3, 9])
 (.cond (.t 9)
 (.skip)
 (.exit 0)))
 (.seq
 (.block 1
 (.draw [0, 0, 0, 0, 0, 0, 48, 112, 0, 0, 768, 1792, 4083, 8179, 16383, 32767] [
 ⟨some 14, none, .mov (.t 0)⟩,
 ⟨some 15, none, .mov (.t 2)⟩,
 ⟨some 16, none, .mov (.t 0)⟩,
 ⟨some 17, none, .mov (.t 3)⟩,
 ⟨some 18, none, .mov (.t 0)⟩,
 ⟨some 19, none, .mov (.t 3)⟩,
 ⟨some 20, none, .indexAddr 2 (.t 18) (.t 19)⟩,
 ⟨some 21, none, .load true 2 (.t 20)⟩,
 ⟨some 22, none, .mov (.t 0)⟩,
 ⟨some 23, none, .mov (.t 2)⟩,
 ⟨some 24, none, .indexAddr 2 (.t 22) (.t 23)⟩,
 ⟨some 25, none, .load true 2 (.t 24)⟩,
 ⟨some 26, none, .indexAddr 2 (.t 14) (.t 15)⟩,
 ⟨none, none, .store 2 (.t 26) (.t 21)⟩,
 ⟨some 27, none, .indexAddr 2 (.t 16) (.t 17)⟩,
 ⟨none, none, .store 2 (.t 27) (.t 25)⟩] [0, 2, 3]))
 (.reg [
 ⟨some 10, none, .mov (.t 2)⟩,
 ⟨some 11, none, .bin .add (.t 10) (.v (.i .i64 1))⟩,
 ⟨some 12, none, .mov (.t 3)⟩,
 ⟨some 13, none, .bin .sub (.t 12) (.v (.i .i64 1))⟩,
 ⟨some 2, none, .mov (.t 11)⟩,
 ⟨some 3, none, .mov (.t 13)⟩] [0, 2, 3])))))
theorem get_slices_Reverse_impl_Edge_impl_Edge : prog.funcs[fid_slices_Reverse_impl_Edge_impl_Edge]? = some f105 := func105
theorem ok_slices_Reverse_impl_Edge_impl_Edge : okFn prog f105 28 [] [] mc_slices_Reverse_impl_Edge_impl_Edge = true := by kernel_rfl
def mc_slices_siftDownOrdered_int : MCode :=
 .seq
 (.reg [
 ⟨some 10, none, .mov (.t 1)⟩,
 ⟨some 8, none, .mov (.t 10)⟩] [0, 2, 3, 8])
 (.block 0
 (.loop [0, 2, 3, 8]
 (.block 1
 (.seq
 (.reg [
 ⟨some 11, none, .mov (.t 8)⟩,
 ⟨some 12, none, .bin .mul (.v (.i .i64 2)) (.t 11)⟩,
 ⟨some 13, none, .bin .add (.t 12) (.v (.i .i64 1))⟩,
 ⟨some 9, none, .mov (.t 13)⟩] [0, 2, 3, 8, 9])
 (.seq
 (.seq
 (.reg [
 ⟨some 14, none, .mov (.t 9)⟩,
 ⟨some 15, none, .mov (.t 2)⟩,
 ⟨some 16, none, .bin .geq (.t 14) (.t 15)⟩] [0, 2, 3, 8, 9, 16])
 (.cond (.t 16)
 (.exit 0)
 (.skip)))
 (.seq
 (.seq
 (.draw [0, 1, 0, 7, 15, 31, 31, 31, 223, 511, 1023, 31, 31, 31, 12319, 28703, 63519, 129055, 262143, 524287] [
 ⟨some 17, none, .mov (.t 9)⟩,
 ⟨some 18, none, .bin .add (.t 17) (.v (.i .i64 1))⟩,
 ⟨some 19, none, .mov (.t 2)⟩,
 ⟨some 20, none, .bin .lss (.t 18) (.t 19)⟩,
 ⟨some 21, none, .mov (.t 20)⟩,
 ⟨some 22, (some (21, true)), .mov (.t 0)⟩,
 ⟨some 23, (some (21, true)), .mov (.t 3)⟩,
 ⟨some 24, (some (21, true)), .mov (.t 9)⟩,
 ⟨some 25, (some (21, true)), .bin .add (.t 23) (.t 24)⟩,
 ⟨some 26, (some (21, true)), .indexAddr 1 (.t 22) (.t 25)⟩,
 ⟨some 27, (some (21, true)), .load false 1 (.t 26)⟩,
 ⟨some 28, (some (21, true)), .mov (.t 0)⟩,
 ⟨some 29, (some (21, true)), .mov (.t 3)⟩,
 ⟨some 30, (some (21, true)), .mov (.t 9)⟩,
 ⟨some 31, (some (21, true)), .bin .add (.t 29) (.t 30)⟩,
 ⟨some 32, (some (21, true)), .bin .add (.t 31) (.v (.i .i64 1))⟩,
 ⟨some 33, (some (21, true)), .indexAddr 1 (.t 28) (.t 32)⟩,
 ⟨some 34, (some (21, true)), .load false 1 (.t 33)⟩,
 ⟨some 35, (some (21, true)), .call fid_cmp_Less_int false [.im, .im] [(.t 27), (.t 34)]⟩,
 ⟨some 36, none, .pick (.t 21) (.t 35) (.v (.b false))⟩] [0, 2, 3, 8, 9, 36])
 (.cond (.t 36)
 (.reg [
 ⟨some 37, none, .mov (.t 9)⟩,
 ⟨some 38, none, .bin .add (.t 37) (.v (.i .i64 1))⟩,
 ⟨some 9, none, .mov (.t 38)⟩] [0, 2, 3, 8, 9])
 (.skip)))
 (.seq
 (.seq
 (.draw [0, 0, 0, 6, 15, 31, 0, 0, 0, 384, 960, 1984, 4095, 8191] [
 ⟨some 39, none, .mov (.t 0)⟩,
 ⟨some 40, none, .mov (.t 3)⟩,
 ⟨some 41, none, .mov (.t 8)⟩,
 ⟨some 42, none, .bin .add (.t 40) (.t 41)⟩,
 ⟨some 43, none, .indexAddr 1 (.t 39) (.t 42)⟩,
 ⟨some 44, none, .load false 1 (.t 43)⟩,
 ⟨some 45, none, .mov (.t 0)⟩,
 ⟨some 46, none, .mov (.t 3)⟩,
 ⟨some 47, none, .mov (.t 9)⟩,
 ⟨some 48, none, .bin .add (.t 46) (.t 47)⟩,
 ⟨some 49, none, .indexAddr 1 (.t 45) (.t 48)⟩,
 ⟨some 50, none, .load false 1 (.t 49)⟩,
 ⟨some 51, none, .call fid_cmp_Less_int false [.im, .im] [(.t 44), (.t 50)]⟩,
 ⟨some 52, none, .un .not (.t 51)⟩] [0, 2, 3, 8, 9, 52])
 (.cond (.t 52)
 (.ret)
 (.skip)))
 (.seq
 (.draw [0, 0, 0, 6, 0, 0, 0, 96, 0, 0, 0, 1536, 3840, 7936, 0, 0, 0, 98304, 245760, 507904, 1048335, 2096911, 4194303, 8388607] [
 ⟨some 53, none, .mov (.t 0)⟩,
 ⟨some 54, none, .mov (.t 3)⟩,
 ⟨some 55, none, .mov (.t 8)⟩,
 ⟨some 56, none, .bin .add (.t 54) (.t 55)⟩,
 ⟨some 57, none, .mov (.t 0)⟩,
 ⟨some 58, none, .mov (.t 3)⟩,
 ⟨some 59, none, .mov (.t 9)⟩,
 ⟨some 60, none, .bin .add (.t 58) (.t 59)⟩,
 ⟨some 61, none, .mov (.t 0)⟩,
 ⟨some 62, none, .mov (.t 3)⟩,
 ⟨some 63, none, .mov (.t 9)⟩,
 ⟨some 64, none, .bin .add (.t 62) (.t 63)⟩,
 ⟨some 65, none, .indexAddr 1 (.t 61) (.t 64)⟩,
 ⟨some 66, none, .load false 1 (.t 65)⟩,
 ⟨some 67, none, .mov (.t 0)⟩,
 ⟨some 68, none, .mov (.t 3)⟩,
 ⟨some 69, none, .mov (.t 8)⟩,
 ⟨some 70, none, .bin .add (.t 68) (.t 69)⟩,
 ⟨some 71, none, .indexAddr 1 (.t 67) (.t 70)⟩,
 ⟨some 72, none, .load false 1 (.t 71)⟩,
 ⟨some 73, none, .indexAddr 1 (.t 53) (.t 56)⟩,
 ⟨none, none, .store 1 (.t 73) (.t 66)⟩,
 ⟨some 74, none, .indexAddr 1 (.t 57) (.t 60)⟩,
 ⟨none, none, .store 1 (.t 74) (.t 72)⟩] [0, 2, 3, 9])
 (.reg [
 ⟨some 75, none, .mov (.t 9)⟩,
 ⟨some 8, none, .mov (.t 75)⟩] [0, 2, 3, 8])))))))))
theorem get_slices_siftDownOrdered_int : prog.funcs[fid_slices_siftDownOrdered_int]? = some f106 := func106
theorem ok_slices_siftDownOrdered_int : okFn prog f106 76 [] [] mc_slices_siftDownOrdered_int = true := by kernel_rfl
def mc_slices_nextPowerOfTwo : MCode :=
 .seq
 (.reg [
 ⟨some 2, none, .mov (.v (.i .u64 0))⟩] [0])
 (.seq
 (.reg [
 ⟨some 3, none, .mov (.t 0)⟩,
 ⟨some 4, none, .conv .u64 (.t 3)⟩,
 ⟨some 5, none, .call fid_math_bits_Len false [.im] [(.t 4)]⟩,
 ⟨some 6, none, .bin .shl (.v (.i .u64 1)) (.t 5)⟩,
 ⟨some 2, none, .mov (.t 6)⟩] [2])
 (.ret))
theorem get_slices_nextPowerOfTwo : prog.funcs[fid_slices_nextPowerOfTwo]? = some f107 := func107
theorem ok_slices_nextPowerOfTwo : okFn prog f107 7 [] [(2, none)] mc_slices_nextPowerOfTwo = true := by kernel_rfl
def mc_p_slices_xorshift_Next : MCode :=
 .seq
 (.reg [
 ⟨some 2, none, .mov (.v (.i .u64 0))⟩] [0])
 (.seq
 (.draw [0, 1, 3, 0, 8, 24, 56, 127, 255, 511] [
 ⟨some 3, none, .mov (.t 0)⟩,
 ⟨some 4, none, .nilCheck (.t 3)⟩,
 ⟨some 5, none, .load false 1 (.t 4)⟩,
 ⟨some 6, none, .mov (.t 0)⟩,
 ⟨some 7, none, .nilCheck (.t 6)⟩,
 ⟨some 8, none, .load false 1 (.t 7)⟩,
 ⟨some 9, none, .bin .shl (.t 8) (.v (.i .u64 13))⟩,
 ⟨some 10, none, .bin .xor (.t 5) (.t 9)⟩,
 ⟨some 11, none, .nilCheck (.t 3)⟩,
 ⟨none, none, .store 1 (.t 11) (.t 10)⟩] [0])
 (.seq
 (.draw [0, 1, 3, 0, 8, 24, 56, 127, 255, 511] [
 ⟨some 12, none, .mov (.t 0)⟩,
 ⟨some 13, none, .nilCheck (.t 12)⟩,
 ⟨some 14, none, .load false 1 (.t 13)⟩,
 ⟨some 15, none, .mov (.t 0)⟩,
 ⟨some 16, none, .nilCheck (.t 15)⟩,
 ⟨some 17, none, .load false 1 (.t 16)⟩,
 ⟨some 18, none, .bin .shr (.t 17) (.v (.i .u64 7))⟩,
 ⟨some 19, none, .bin .xor (.t 14) (.t 18)⟩,
 ⟨some 20, none, .nilCheck (.t 12)⟩,
 ⟨none, none, .store 1 (.t 20) (.t 19)⟩] [0])
 (.seq
 (.draw [0, 1, 3, 0, 8, 24, 56, 127, 255, 511] [
 ⟨some 21, none, .mov (.t 0)⟩,
 ⟨some 22, none, .nilCheck (.t 21)⟩,
 ⟨some 23, none, .load false 1 (.t 22)⟩,
 ⟨some 24, none, .mov (.t 0)⟩,
 ⟨some 25, none, .nilCheck (.t 24)⟩,
 ⟨some 26, none, .load false 1 (.t 25)⟩,
 ⟨some 27, none, .bin .shl (.t 26) (.v (.i .u64 17))⟩,
 ⟨some 28, none, .bin .xor (.t 23) (.t 27)⟩,
 ⟨some 29, none, .nilCheck (.t 21)⟩,
 ⟨none, none, .store 1 (.t 29) (.t 28)⟩] [0])
 (.seq
 (.reg [
 ⟨some 30, none, .mov (.t 0)⟩,
 ⟨some 31, none, .nilCheck (.t 30)⟩,
 ⟨some 32, none, .load false 1 (.t 31)⟩,
 ⟨some 2, none, .mov (.t 32)⟩] [2])
 (.ret)))))
theorem get_p_slices_xorshift_Next : prog.funcs[fid_p_slices_xorshift_Next]? = some f108 := func108
theorem ok_p_slices_xorshift_Next : okFn prog f108 33 [] [(2, none)] mc_p_slices_xorshift_Next = true := by kernel_rfl
def mc_slices_medianAdjacentOrdered_int : MCode :=
 .seq
 (.reg [
 ⟨some 6, none, .mov (.v (.i .i64 0))⟩] [0, 1, 2])
 (.seq
 (.reg [
 ⟨some 7, none, .mov (.t 0)⟩,
 ⟨some 8, none, .mov (.t 1)⟩,
 ⟨some 9, none, .bin .sub (.t 8) (.v (.i .i64 1))⟩,
 ⟨some 10, none, .mov (.t 1)⟩,
 ⟨some 11, none, .mov (.t 1)⟩,
 ⟨some 12, none, .bin .add (.t 11) (.v (.i .i64 1))⟩,
 ⟨some 13, none, .mov (.t 2)⟩,
 ⟨some 14, none, .call fid_slices_medianOrdered_int false [.im, .im, .im, .im, .im] [(.t 7), (.t 9), (.t 10), (.t 12), (.t 13)]⟩,
 ⟨some 6, none, .mov (.t 14)⟩] [6])
 (.ret))
theorem get_slices_medianAdjacentOrdered_int : prog.funcs[fid_slices_medianAdjacentOrdered_int]? = some f109 := func109
theorem ok_slices_medianAdjacentOrdered_int : okFn prog f109 15 [] [(6, none)] mc_slices_medianAdjacentOrdered_int = true := by kernel_rfl
def mc_slices_medianOrdered_int : MCode :=
 .seq
 (.reg [
 ⟨some 10, none, .mov (.v (.i .i64 0))⟩] [0, 1, 2, 3, 4])
 (.seq
 (.reg [
 ⟨some 12, none, .mov (.t 0)⟩,
 ⟨some 13, none, .mov (.t 1)⟩,
 ⟨some 14, none, .mov (.t 2)⟩,
 ⟨some 15, none, .mov (.t 4)⟩,
 ⟨some 16, none, .call fid_slices_order2Ordered_int false [.im, .im, .im, .im] [(.t 12), (.t 13), (.t 14), (.t 15)]⟩,
 ⟨some 11, none, .mov (.t 16)⟩,
 ⟨some 17, none, .extract (.t 11) 0⟩,
 ⟨some 18, none, .extract (.t 11) 1⟩,
 ⟨some 1, none, .mov (.t 17)⟩,
 ⟨some 2, none, .mov (.t 18)⟩] [0, 1, 2, 3, 4])
 (.seq
 (.reg [
 ⟨some 20, none, .mov (.t 0)⟩,
 ⟨some 21, none, .mov (.t 2)⟩,
 ⟨some 22, none, .mov (.t 3)⟩,
 ⟨some 23, none, .mov (.t 4)⟩,
 ⟨some 24, none, .call fid_slices_order2Ordered_int false [.im, .im, .im, .im] [(.t 20), (.t 21), (.t 22), (.t 23)]⟩,
 ⟨some 19, none, .mov (.t 24)⟩,
 ⟨some 25, none, .extract (.t 19) 0⟩,
 ⟨some 26, none, .extract (.t 19) 1⟩,
 ⟨some 2, none, .mov (.t 25)⟩,
 ⟨some 3, none, .mov (.t 26)⟩] [0, 1, 2, 4])
 (.seq
 (.reg [
 ⟨some 28, none, .mov (.t 0)⟩,
 ⟨some 29, none, .mov (.t 1)⟩,
 ⟨some 30, none, .mov (.t 2)⟩,
 ⟨some 31, none, .mov (.t 4)⟩,
 ⟨some 32, none, .call fid_slices_order2Ordered_int false [.im, .im, .im, .im] [(.t 28), (.t 29), (.t 30), (.t 31)]⟩,
 ⟨some 27, none, .mov (.t 32)⟩,
 ⟨some 33, none, .extract (.t 27) 0⟩,
 ⟨some 34, none, .extract (.t 27) 1⟩,
 ⟨some 1, none, .mov (.t 33)⟩,
 ⟨some 2, none, .mov (.t 34)⟩] [2])
 (.seq
 (.reg [
 ⟨some 35, none, .mov (.t 2)⟩,
 ⟨some 10, none, .mov (.t 35)⟩] [10])
 (.ret)))))
theorem get_slices_medianOrdered_int : prog.funcs[fid_slices_medianOrdered_int]? = some f110 := func110
theorem ok_slices_medianOrdered_int : okFn prog f110 36 [] [(10, none)] mc_slices_medianOrdered_int = true := by kernel_rfl
def mc_slices_order2Ordered_int : MCode :=
 .seq
 (.reg [
 ⟨some 8, none, .mov (.v (.i .i64 0))⟩,
 ⟨some 9, none, .mov (.v (.i .i64 0))⟩] [0, 1, 2, 3])
 (.seq
 (.seq
 (.draw [0, 0, 3, 7, 0, 0, 48, 112, 255] [
 ⟨some 10, none, .mov (.t 0)⟩,
 ⟨some 11, none, .mov (.t 2)⟩,
 ⟨some 12, none, .indexAddr 1 (.t 10) (.t 11)⟩,
 ⟨some 13, none, .load false 1 (.t 12)⟩,
 ⟨some 14, none, .mov (.t 0)⟩,
 ⟨some 15, none, .mov (.t 1)⟩,
 ⟨some 16, none, .indexAddr 1 (.t 14) (.t 15)⟩,
 ⟨some 17, none, .load false 1 (.t 16)⟩,
 ⟨some 18, none, .call fid_cmp_Less_int false [.im, .im] [(.t 13), (.t 17)]⟩] [1, 2, 3, 18])
 (.cond (.t 18)
 (.seq
 (.reg [
 ⟨some 19, none, .mov (.t 3)⟩,
 ⟨some 20, none, .nilCheck (.t 19)⟩,
 ⟨some 21, none, .load false 1 (.t 20)⟩,
 ⟨some 22, none, .bin .add (.t 21) (.v (.i .i64 1))⟩,
 ⟨some 23, none, .nilCheck (.t 19)⟩,
 ⟨none, none, .store 1 (.t 23) (.t 22)⟩] [1, 2])
 (.seq
 (.reg [
 ⟨some 24, none, .mov (.t 2)⟩,
 ⟨some 25, none, .mov (.t 1)⟩,
 ⟨some 8, none, .mov (.t 24)⟩,
 ⟨some 9, none, .mov (.t 25)⟩] [8, 9])
 (.ret)))
 (.skip)))
 (.seq
 (.reg [
 ⟨some 26, none, .mov (.t 1)⟩,
 ⟨some 27, none, .mov (.t 2)⟩,
 ⟨some 8, none, .mov (.t 26)⟩,
 ⟨some 9, none, .mov (.t 27)⟩] [8, 9])
 (.ret)))
theorem get_slices_order2Ordered_int : prog.funcs[fid_slices_order2Ordered_int]? = some f111 := func111
theorem ok_slices_order2Ordered_int : okFn prog f111 28 [] [(8, none), (9, none)] mc_slices_order2Ordered_int = true := by kernel_rfl

end Go.Fw
