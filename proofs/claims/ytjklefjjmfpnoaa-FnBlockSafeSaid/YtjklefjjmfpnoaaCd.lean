/-
  The code of the program's functions and the library's, as the model's own. Printed by a program.
-/
import Derived.Test.YtjklefjjmfpnoaaProg
import Derived.Test.YtjklefjjmfpnoaaFxC
namespace Go.Fw
open Go.Proofs.Try
set_option maxRecDepth 100000
abbrev fid_main_main : Nat := 0
abbrev fid_gosem_cut : Nat := 1
abbrev fid_gosem_cut_init : Nat := 2
abbrev fid_laws_FnCyclesOf : Nat := 3
abbrev fid_laws_FnCyclesSafe : Nat := 4
abbrev fid_laws_FnExactCyclesOf : Nat := 5
abbrev fid_laws_FnExactChainsOf : Nat := 6
abbrev fid_laws_FnExactForestsOf : Nat := 7
abbrev fid_laws_FnForestsAll : Nat := 8
abbrev fid_laws_FnExactCertificateOf : Nat := 9
abbrev fid_laws_FnCertificateBridges : Nat := 10
abbrev fid_laws_FnBlockSafe : Nat := 11
abbrev fid_laws_FnExactWeakestCut : Nat := 12
abbrev fid_spec_DrawCyclesOf : Nat := 13
abbrev fid_impl_CyclesOf : Nat := 14
abbrev fid_laws_dyLists : Nat := 15
abbrev fid_spec_CyclesOf : Nat := 16
abbrev fid_impl_GraphValid : Nat := 17
abbrev fid_impl_EdgeOf : Nat := 18
abbrev fid_impl_HasEdge : Nat := 19
abbrev fid_laws_dyIn : Nat := 20
abbrev fid_impl_ChainEdges : Nat := 21
abbrev fid_laws_dyHas : Nat := 22
abbrev fid_impl_ChainsOf : Nat := 23
abbrev fid_impl_IsBridge : Nat := 24
abbrev fid_laws_szGraph : Nat := 25
abbrev fid_laws_toGraph : Nat := 26
abbrev fid_laws_eqIntSS : Nat := 27
abbrev fid_laws_eqGraph : Nat := 28
abbrev fid_laws_markGraph : Nat := 29
abbrev fid_laws_markIntSS : Nat := 30
abbrev fid_laws_heldIntSS : Nat := 31
abbrev fid_spec_ChainsOf : Nat := 32
abbrev fid_spec_ForestsOf : Nat := 33
abbrev fid_impl_ForestsOf : Nat := 34
abbrev fid_laws_eqEdgeSS : Nat := 35
abbrev fid_laws_markEdgeSS : Nat := 36
abbrev fid_laws_heldEdgeSS : Nat := 37
abbrev fid_spec_DrawForestsOf : Nat := 38
abbrev fid_laws_dyBlocks : Nat := 39
abbrev fid_impl_CertificateOf : Nat := 40
abbrev fid_impl_GraphSame : Nat := 41
abbrev fid_spec_CertificateOf : Nat := 42
abbrev fid_laws_heldGraph : Nat := 43
abbrev fid_spec_DrawCertificateOf : Nat := 44
abbrev fid_impl_BridgesOf : Nat := 45
abbrev fid_laws_dyInts : Nat := 46
abbrev fid_impl_PartsOf : Nat := 47
abbrev fid_laws_dyEdges : Nat := 48
abbrev fid_impl_SafeParts : Nat := 49
abbrev fid_spec_DrawIsOneBlock : Nat := 50
abbrev fid_impl_IsOneBlock : Nat := 51
abbrev fid_spec_IsOneBlock : Nat := 52
abbrev fid_impl_WeakestCut : Nat := 53
abbrev fid_impl_IsSafeGraph : Nat := 54
abbrev fid_impl_BlocksOf : Nat := 55
abbrev fid_spec_WeakestCut : Nat := 56
abbrev fid_spec_DrawGraphValid : Nat := 57
abbrev fid_impl_Graph_search : Nat := 58
abbrev fid_impl_Graph_backs : Nat := 59
abbrev fid_spec_GraphValid : Nat := 60
abbrev fid_spec_l4Run : Nat := 61
abbrev fid_spec_l9Order : Nat := 62
abbrev fid_spec_l9Back : Nat := 63
abbrev fid_impl_compareEdges : Nat := 64
abbrev fid_impl_isNode : Nat := 65
abbrev fid_impl_Graph_has : Nat := 66
abbrev fid_slices_ContainsFunc_int_int : Nat := 67
abbrev fid_impl_ChainEdges_1 : Nat := 68
abbrev fid_impl_steps : Nat := 69
abbrev fid_impl_Graph_isBridge : Nat := 70
abbrev fid_laws_szEdgeS : Nat := 71
abbrev fid_laws_toEdgeS : Nat := 72
abbrev fid_laws_eqIntS : Nat := 73
abbrev fid_laws_eqEdgeS : Nat := 74
abbrev fid_laws_markEdgeS : Nat := 75
abbrev fid_laws_markIntS : Nat := 76
abbrev fid_laws_heldIntS : Nat := 77
abbrev fid_spec_l9Chains : Nat := 78
abbrev fid_spec_l2Forest : Nat := 79
abbrev fid_spec_l1Without : Nat := 80
abbrev fid_impl_Graph_forest : Nat := 81
abbrev fid_impl_Graph_without : Nat := 82
abbrev fid_impl_ForestsOf_1 : Nat := 83
abbrev fid_slices_Contains_impl_Edge_impl_Edge : Nat := 84
abbrev fid_laws_heldEdgeS : Nat := 85
abbrev fid_spec_l14Open : Nat := 86
abbrev fid_spec_l1Wrong : Nat := 87
abbrev fid_spec_l10Draw : Nat := 88
abbrev fid_p_spec_l14Rd_num : Nat := 89
abbrev fid_slices_Concat_impl_Edge_impl_Edge : Nat := 90
abbrev fid_slices_SortFunc_impl_Edge_impl_Edge : Nat := 91
abbrev fid_slices_Equal_impl_Edge_impl_Edge : Nat := 92
abbrev fid_spec_l1Put : Nat := 93
abbrev fid_impl_Graph_edgesBy : Nat := 94
abbrev fid_impl_Graph_parts : Nat := 95
abbrev fid_impl_Graph_safeParts : Nat := 96
abbrev fid_spec_DrawIsSafeGraph : Nat := 97
abbrev fid_impl_PartCount : Nat := 98
abbrev fid_impl_CutNodesOf : Nat := 99
abbrev fid_spec_PartCount : Nat := 100
abbrev fid_spec_CutNodesOf : Nat := 101
abbrev fid_impl_Graph_flow : Nat := 102
abbrev fid_impl_Graph_blocks : Nat := 103
abbrev fid_impl_Graph_block : Nat := 104
abbrev fid_spec_l10Run : Nat := 105
abbrev fid_spec_l1Draw : Nat := 106
abbrev fid_p_impl_Search_find : Nat := 107
abbrev fid_impl_Graph_neighbors : Nat := 108
abbrev fid_spec_l1Less : Nat := 109
abbrev fid_spec_l4Search : Nat := 110
abbrev fid_spec_l1Next : Nat := 111
abbrev fid_cmp_Or_int : Nat := 112
abbrev fid_cmp_Compare_int : Nat := 113
abbrev fid_slices_IndexFunc_int_int : Nat := 114
abbrev fid_impl_Graph_cut : Nat := 115
abbrev fid_impl_Graph_connected : Nat := 116
abbrev fid_laws_toEdge : Nat := 117
abbrev fid_laws_eqEdge : Nat := 118
abbrev fid_spec_l2Joined : Nat := 119
abbrev fid_slices_DeleteFunc_impl_Edge_impl_Edge : Nat := 120
abbrev fid_slices_Clone_impl_Edge_impl_Edge : Nat := 121
abbrev fid_slices_Index_impl_Edge_impl_Edge : Nat := 122
abbrev fid_spec_l1Copy : Nat := 123
abbrev fid_p_spec_l14Rd_pick : Nat := 124
abbrev fid_spec_l1Find : Nat := 125
abbrev fid_spec_l1Edge : Nat := 126
abbrev fid_slices_Grow_impl_Edge_impl_Edge : Nat := 127
abbrev fid_slices_pdqsortCmpFunc_impl_Edge : Nat := 128
abbrev fid_math_bits_Len : Nat := 129
abbrev fid_impl_Graph_edgesBy_1 : Nat := 130
abbrev fid_spec_l5Small : Nat := 131
abbrev fid_impl_Graph_nodesBy : Nat := 132
abbrev fid_impl_Graph_isCutNode : Nat := 133
abbrev fid_spec_PartsOf : Nat := 134
abbrev fid_spec_l4Cut : Nat := 135
abbrev fid_impl_Graph_reach : Nat := 136
abbrev fid_impl_Graph_flow_1 : Nat := 137
abbrev fid_impl_way : Nat := 138
abbrev fid_impl_common : Nat := 139
abbrev fid_impl_Graph_cutNode : Nat := 140
abbrev fid_spec_l10Reach : Nat := 141
abbrev fid_spec_l10Step : Nat := 142
abbrev fid_slices_Sort_int_int : Nat := 143
abbrev fid_cmp_isNaN_int : Nat := 144
abbrev fid_impl_Graph_cut_1 : Nat := 145
abbrev fid_spec_l2Labels : Nat := 146
abbrev fid_slices_IndexFunc_impl_Edge_impl_Edge : Nat := 147
abbrev fid_slices_insertionSortCmpFunc_impl_Edge : Nat := 148
abbrev fid_slices_heapSortCmpFunc_impl_Edge : Nat := 149
abbrev fid_slices_breakPatternsCmpFunc_impl_Edge : Nat := 150
abbrev fid_slices_choosePivotCmpFunc_impl_Edge : Nat := 151
abbrev fid_slices_reverseRangeCmpFunc_impl_Edge : Nat := 152
abbrev fid_slices_partialInsertionSortCmpFunc_impl_Edge : Nat := 153
abbrev fid_slices_partitionEqualCmpFunc_impl_Edge : Nat := 154
abbrev fid_slices_partitionCmpFunc_impl_Edge : Nat := 155
abbrev fid_math_bits_Len32 : Nat := 156
abbrev fid_math_bits_Len64 : Nat := 157
abbrev fid_impl_Graph_isCutNode_1 : Nat := 158
abbrev fid_spec_l1Alone : Nat := 159
abbrev fid_slices_Repeat_int_int : Nat := 160
abbrev fid_slices_Reverse_int_int : Nat := 161
abbrev fid_impl_Graph_cutNode_1 : Nat := 162
abbrev fid_spec_l10Has : Nat := 163
abbrev fid_spec_l10Without : Nat := 164
abbrev fid_slices_pdqsortOrdered_int : Nat := 165
abbrev fid_slices_siftDownCmpFunc_impl_Edge : Nat := 166
abbrev fid_slices_nextPowerOfTwo : Nat := 167
abbrev fid_p_slices_xorshift_Next : Nat := 168
abbrev fid_slices_medianAdjacentCmpFunc_impl_Edge : Nat := 169
abbrev fid_slices_medianCmpFunc_impl_Edge : Nat := 170
abbrev fid_math_bits_Mul : Nat := 171
abbrev fid_slices_insertionSortOrdered_int : Nat := 172
abbrev fid_slices_heapSortOrdered_int : Nat := 173
abbrev fid_slices_breakPatternsOrdered_int : Nat := 174
abbrev fid_slices_choosePivotOrdered_int : Nat := 175
abbrev fid_slices_reverseRangeOrdered_int : Nat := 176
abbrev fid_slices_partialInsertionSortOrdered_int : Nat := 177
abbrev fid_cmp_Less_int : Nat := 178
abbrev fid_slices_partitionEqualOrdered_int : Nat := 179
abbrev fid_slices_partitionOrdered_int : Nat := 180
abbrev fid_slices_order2CmpFunc_impl_Edge : Nat := 181
abbrev fid_math_bits_Mul32 : Nat := 182
abbrev fid_math_bits_Mul64 : Nat := 183
abbrev fid_slices_siftDownOrdered_int : Nat := 184
abbrev fid_slices_medianAdjacentOrdered_int : Nat := 185
abbrev fid_slices_medianOrdered_int : Nat := 186
abbrev fid_slices_order2Ordered_int : Nat := 187
abbrev fid_runtime_boundsError_Error : Nat := 188
abbrev fid_runtime_boundsError_RuntimeError : Nat := 189
abbrev fid_runtime_errorString_Error : Nat := 190
abbrev fid_runtime_errorString_RuntimeError : Nat := 191
abbrev fid_runtime_plainError_Error : Nat := 192
abbrev fid_runtime_plainError_RuntimeError : Nat := 193
abbrev fid_runtime_errorAddressString_Error : Nat := 194
abbrev fid_runtime_errorAddressString_RuntimeError : Nat := 195
abbrev fid_p_runtime_TypeAssertionError_Error : Nat := 196
abbrev fid_p_runtime_TypeAssertionError_RuntimeError : Nat := 197
abbrev fid_p_runtime_PanicNilError_Error : Nat := 198
abbrev fid_p_runtime_PanicNilError_RuntimeError : Nat := 199
abbrev fid_p_internal_abi_Type_Align : Nat := 200
abbrev fid_internal_runtime_maps_unhashableTypeError_Error : Nat := 201
abbrev fid_internal_runtime_maps_unhashableTypeError_RuntimeError : Nat := 202
abbrev fid_impl_Graph_hasNode : Nat := 203
abbrev fid_p_spec_l14Rd_word : Nat := 204
abbrev fid_internal_abi_Kind_String : Nat := 205
def mc_impl_GraphValid : MCode :=
 .seq
 (.reg [
 ⟨some 1, none, .box 2 (.t 0)⟩,
 ⟨some 2, none, .mov (.v (.b false))⟩] [1])
 (.seq
 (.seq
 (.reg [
 ⟨some 5, none, .fieldAddr 0 (.t 1)⟩,
 ⟨some 6, none, .load false 1 (.t 5)⟩,
 ⟨some 7, none, .bin .lss (.t 6) (.v (.i .i64 1))⟩,
 ⟨some 8, none, .mov (.t 7)⟩,
 ⟨some 9, (some (8, false)), .fieldAddr 0 (.t 1)⟩,
 ⟨some 10, (some (8, false)), .load false 1 (.t 9)⟩,
 ⟨some 11, (some (8, false)), .bin .gtr (.t 10) (.v (.i .i64 16))⟩,
 ⟨some 12, none, .pick (.t 8) (.v (.b true)) (.t 11)⟩,
 ⟨some 13, none, .mov (.t 12)⟩,
 ⟨some 14, (some (13, false)), .fieldAddr 1 (.t 1)⟩,
 ⟨some 15, (some (13, false)), .load false 1 (.t 14)⟩,
 ⟨some 16, (some (13, false)), .len (.t 15)⟩,
 ⟨some 17, (some (13, false)), .bin .gtr (.t 16) (.v (.i .i64 40))⟩,
 ⟨some 18, none, .pick (.t 13) (.v (.b true)) (.t 17)⟩] [1, 18])
 (.cond (.t 18)
 (.seq
 (.reg [
 ⟨some 2, none, .mov (.v (.b false))⟩] [2])
 (.ret))
 (.skip)))
 (.seq
 (.seq
 (.reg [
 ⟨some 19, none, .fieldAddr 1 (.t 1)⟩,
 ⟨some 20, none, .load false 1 (.t 19)⟩,
 ⟨some 21, none, .len (.t 20)⟩,
 ⟨some 22, none, .mov (.v (.i .i64 0))⟩] [1, 20, 21, 22])
 (.block 0
 (.loop [1, 20, 21, 22]
 (.seq
 (.reg [
 ⟨some 23, none, .bin .lss (.t 22) (.t 21)⟩] [1, 20, 21, 22, 23])
 (.seq
 (.cond (.t 23)
 (.skip)
 (.exit 0))
 (.seq
 (.block 1
 (.seq
 (.reg [
 ⟨some 24, none, .mov (.t 22)⟩,
 ⟨some 25, none, .indexAddr 2 (.t 20) (.t 22)⟩,
 ⟨some 26, none, .load true 2 (.t 25)⟩,
 ⟨some 4, none, .alloc [.i .i64 0, .i .i64 0]⟩,
 ⟨some 3, none, .mov (.t 24)⟩,
 ⟨none, none, .store 2 (.t 4) (.t 26)⟩] [1, 3, 4, 20, 21, 22])
 (.seq
 (.draw [0, 1, 3, 7, 15, 31, 15, 79, 255, 511, 1023, 2047, 4095, 2047, 10239, 32767, 65535, 131071, 262143, 524287, 1048575, 2097151, 4194303, 2097151, 10485759, 33554431, 67108863, 2097151, 268435455, 536870911, 1073741823, 2147483647] [
 ⟨some 27, none, .fieldAddr 0 (.t 4)⟩,
 ⟨some 28, none, .load false 1 (.t 27)⟩,
 ⟨some 29, none, .bin .lss (.t 28) (.v (.i .i64 0))⟩,
 ⟨some 30, none, .mov (.t 29)⟩,
 ⟨some 31, (some (30, false)), .fieldAddr 0 (.t 4)⟩,
 ⟨some 32, (some (30, false)), .load false 1 (.t 31)⟩,
 ⟨some 33, (some (30, false)), .fieldAddr 1 (.t 4)⟩,
 ⟨some 34, (some (30, false)), .load false 1 (.t 33)⟩,
 ⟨some 35, (some (30, false)), .bin .geq (.t 32) (.t 34)⟩,
 ⟨some 36, none, .pick (.t 30) (.v (.b true)) (.t 35)⟩,
 ⟨some 37, none, .mov (.t 36)⟩,
 ⟨some 38, (some (37, false)), .fieldAddr 1 (.t 4)⟩,
 ⟨some 39, (some (37, false)), .load false 1 (.t 38)⟩,
 ⟨some 40, (some (37, false)), .fieldAddr 0 (.t 1)⟩,
 ⟨some 41, (some (37, false)), .load false 1 (.t 40)⟩,
 ⟨some 42, (some (37, false)), .bin .geq (.t 39) (.t 41)⟩,
 ⟨some 43, none, .pick (.t 37) (.v (.b true)) (.t 42)⟩,
 ⟨some 44, none, .mov (.t 43)⟩,
 ⟨some 45, (some (44, false)), .mov (.t 3)⟩,
 ⟨some 46, (some (44, false)), .bin .gtr (.t 45) (.v (.i .i64 0))⟩,
 ⟨some 47, (some (44, false)), .mov (.t 46)⟩,
 ⟨some 48, (some (47, true)), .fieldAddr 1 (.t 1)⟩,
 ⟨some 49, (some (47, true)), .load false 1 (.t 48)⟩,
 ⟨some 50, (some (47, true)), .mov (.t 3)⟩,
 ⟨some 51, (some (47, true)), .bin .sub (.t 50) (.v (.i .i64 1))⟩,
 ⟨some 52, (some (47, true)), .indexAddr 2 (.t 49) (.t 51)⟩,
 ⟨some 53, (some (47, true)), .load true 2 (.t 52)⟩,
 ⟨some 54, (some (47, true)), .load true 2 (.t 4)⟩,
 ⟨some 55, (some (47, true)), .call fid_impl_compareEdges false [.im, .im] [(.t 53), (.t 54)]⟩,
 ⟨some 56, (some (47, true)), .bin .geq (.t 55) (.v (.i .i64 0))⟩,
 ⟨some 57, (some (44, false)), .pick (.t 47) (.t 56) (.v (.b false))⟩,
 ⟨some 58, none, .pick (.t 44) (.v (.b true)) (.t 57)⟩] [1, 20, 21, 22, 58])
 (.cond (.t 58)
 (.seq
 (.reg [
 ⟨some 2, none, .mov (.v (.b false))⟩] [2])
 (.ret))
 (.skip)))))
 (.reg [
 ⟨some 59, none, .bin .add (.t 22) (.v (.i .i64 1))⟩,
 ⟨some 22, none, .mov (.t 59)⟩] [1, 20, 21, 22])))))))
 (.seq
 (.reg [
 ⟨some 2, none, .mov (.v (.b true))⟩] [2])
 (.ret))))
theorem get_impl_GraphValid : prog.funcs[fid_impl_GraphValid]? = some f17 := func17
theorem ok_impl_GraphValid : okFn prog f17 60 [] [(2, none)] mc_impl_GraphValid = true := by kernel_rfl
def mc_impl_EdgeOf : MCode :=
 .seq
 (.reg [
 ⟨some 4, none, .alloc [.i .i64 0, .i .i64 0]⟩,
 ⟨some 5, none, .mov (.v (.b false))⟩] [0, 1, 4])
 (.seq
 (.seq
 (.reg [
 ⟨some 6, none, .mov (.t 0)⟩,
 ⟨some 7, none, .mov (.t 1)⟩,
 ⟨some 8, none, .bin .eql (.t 6) (.t 7)⟩,
 ⟨some 9, none, .mov (.t 8)⟩,
 ⟨some 10, (some (9, false)), .mov (.t 0)⟩,
 ⟨some 11, (some (9, false)), .call fid_impl_isNode false [.im] [(.t 10)]⟩,
 ⟨some 12, (some (9, false)), .un .not (.t 11)⟩,
 ⟨some 13, none, .pick (.t 9) (.v (.b true)) (.t 12)⟩,
 ⟨some 14, none, .mov (.t 13)⟩,
 ⟨some 15, (some (14, false)), .mov (.t 1)⟩,
 ⟨some 16, (some (14, false)), .call fid_impl_isNode false [.im] [(.t 15)]⟩,
 ⟨some 17, (some (14, false)), .un .not (.t 16)⟩,
 ⟨some 18, none, .pick (.t 14) (.v (.b true)) (.t 17)⟩] [0, 1, 4, 18])
 (.cond (.t 18)
 (.seq
 (.reg [
 ⟨some 19, none, .build [.i .i64 0, .i .i64 0] []⟩,
 ⟨none, none, .store 2 (.t 4) (.t 19)⟩,
 ⟨some 5, none, .mov (.v (.b false))⟩] [4, 5])
 (.ret))
 (.skip)))
 (.seq
 (.reg [
 ⟨some 20, none, .mov (.t 0)⟩,
 ⟨some 21, none, .mov (.t 1)⟩,
 ⟨some 22, none, .minmax false (.t 20) (.t 21)⟩,
 ⟨some 23, none, .mov (.t 0)⟩,
 ⟨some 24, none, .mov (.t 1)⟩,
 ⟨some 25, none, .minmax true (.t 23) (.t 24)⟩,
 ⟨some 26, none, .build [.i .i64 0, .i .i64 0] [(0, 1, (.t 22)), (1, 1, (.t 25))]⟩,
 ⟨none, none, .store 2 (.t 4) (.t 26)⟩,
 ⟨some 5, none, .mov (.v (.b true))⟩] [4, 5])
 (.ret)))
theorem get_impl_EdgeOf : prog.funcs[fid_impl_EdgeOf]? = some f18 := func18
theorem ok_impl_EdgeOf : okFn prog f18 27 [] [(4, some (true, 2)), (5, none)] mc_impl_EdgeOf = true := by kernel_rfl
def mc_impl_ChainEdges : MCode :=
 .seq
 (.reg [
 ⟨some 2, none, .mov (.v (.nl 2))⟩,
 ⟨some 3, none, .mov (.v (.b false))⟩] [0])
 (.seq
 (.seq
 (.reg [
 ⟨some 4, none, .mov (.t 0)⟩,
 ⟨some 5, none, .len (.t 4)⟩,
 ⟨some 6, none, .bin .gtr (.t 5) (.v (.i .i64 17))⟩,
 ⟨some 7, none, .mov (.t 6)⟩,
 ⟨some 8, (some (7, false)), .mov (.t 0)⟩,
 ⟨some 9, (some (7, false)), .call fid_slices_ContainsFunc_int_int false [.im, .fn] [(.t 8), (.v (.clo fid_impl_ChainEdges_1 [] []))]⟩,
 ⟨some 10, none, .pick (.t 7) (.v (.b true)) (.t 9)⟩] [0, 10])
 (.cond (.t 10)
 (.seq
 (.reg [
 ⟨some 2, none, .mov (.v (.nl 2))⟩,
 ⟨some 3, none, .mov (.v (.b false))⟩] [2, 3])
 (.ret))
 (.skip)))
 (.seq
 (.reg [
 ⟨some 11, none, .mov (.t 0)⟩,
 ⟨some 12, none, .call fid_impl_steps false [.im] [(.t 11)]⟩,
 ⟨some 13, none, .extract (.t 12) 0⟩,
 ⟨some 14, none, .extract (.t 12) 1⟩,
 ⟨some 2, none, .mov (.t 13)⟩,
 ⟨some 3, none, .mov (.t 14)⟩] [2, 3])
 (.ret)))
theorem get_impl_ChainEdges : prog.funcs[fid_impl_ChainEdges]? = some f21 := func21
theorem ok_impl_ChainEdges : okFn prog f21 15 [] [(2, none), (3, none)] mc_impl_ChainEdges = true := by kernel_rfl
def mc_impl_GraphSame : MCode :=
 .seq
 (.reg [
 ⟨some 2, none, .box 2 (.t 0)⟩,
 ⟨some 3, none, .box 2 (.t 1)⟩,
 ⟨some 4, none, .mov (.v (.b false))⟩] [2, 3])
 (.seq
 (.reg [
 ⟨some 5, none, .fieldAddr 0 (.t 2)⟩,
 ⟨some 6, none, .load false 1 (.t 5)⟩,
 ⟨some 7, none, .fieldAddr 0 (.t 3)⟩,
 ⟨some 8, none, .load false 1 (.t 7)⟩,
 ⟨some 9, none, .bin .eql (.t 6) (.t 8)⟩,
 ⟨some 10, none, .mov (.t 9)⟩,
 ⟨some 11, (some (10, true)), .fieldAddr 1 (.t 2)⟩,
 ⟨some 12, (some (10, true)), .load false 1 (.t 11)⟩,
 ⟨some 13, (some (10, true)), .fieldAddr 1 (.t 3)⟩,
 ⟨some 14, (some (10, true)), .load false 1 (.t 13)⟩,
 ⟨some 15, (some (10, true)), .call fid_slices_Equal_impl_Edge_impl_Edge false [.im, .im] [(.t 12), (.t 14)]⟩,
 ⟨some 16, none, .pick (.t 10) (.t 15) (.v (.b false))⟩,
 ⟨some 4, none, .mov (.t 16)⟩] [4])
 (.ret))
theorem get_impl_GraphSame : prog.funcs[fid_impl_GraphSame]? = some f41 := func41
theorem ok_impl_GraphSame : okFn prog f41 17 [] [(4, none)] mc_impl_GraphSame = true := by kernel_rfl
def mc_impl_BridgesOf : MCode :=
 .seq
 (.reg [
 ⟨some 1, none, .box 2 (.t 0)⟩,
 ⟨some 2, none, .mov (.v (.nl 2))⟩] [1])
 (.seq
 (.seq
 (.reg [
 ⟨some 3, none, .load true 2 (.t 1)⟩,
 ⟨some 4, none, .call fid_impl_GraphValid false [.im] [(.t 3)]⟩,
 ⟨some 5, none, .un .not (.t 4)⟩] [1, 5])
 (.cond (.t 5)
 (.seq
 (.reg [
 ⟨some 2, none, .mov (.v (.nl 2))⟩] [2])
 (.ret))
 (.skip)))
 (.seq
 (.reg [
 ⟨some 6, none, .load true 2 (.t 1)⟩,
 ⟨some 7, none, .load true 2 (.t 1)⟩,
 ⟨some 8, none, .mkfn fid_impl_Graph_isBridge [(.t 7)] []⟩,
 ⟨some 9, none, .call fid_impl_Graph_edgesBy false [.im, .fn] [(.t 6), (.t 8)]⟩,
 ⟨some 2, none, .mov (.t 9)⟩] [2])
 (.ret)))
theorem get_impl_BridgesOf : prog.funcs[fid_impl_BridgesOf]? = some f45 := func45
theorem ok_impl_BridgesOf : okFn prog f45 10 [] [(2, none)] mc_impl_BridgesOf = true := by kernel_rfl
def mc_impl_PartsOf : MCode :=
 .seq
 (.reg [
 ⟨some 1, none, .box 2 (.t 0)⟩,
 ⟨some 2, none, .mov (.v (.nl 1))⟩] [1])
 (.seq
 (.seq
 (.reg [
 ⟨some 3, none, .load true 2 (.t 1)⟩,
 ⟨some 4, none, .call fid_impl_GraphValid false [.im] [(.t 3)]⟩,
 ⟨some 5, none, .un .not (.t 4)⟩] [1, 5])
 (.cond (.t 5)
 (.seq
 (.reg [
 ⟨some 2, none, .mov (.v (.nl 1))⟩] [2])
 (.ret))
 (.skip)))
 (.seq
 (.reg [
 ⟨some 6, none, .load true 2 (.t 1)⟩,
 ⟨some 7, none, .call fid_impl_Graph_parts false [.im] [(.t 6)]⟩,
 ⟨some 2, none, .mov (.t 7)⟩] [2])
 (.ret)))
theorem get_impl_PartsOf : prog.funcs[fid_impl_PartsOf]? = some f47 := func47
theorem ok_impl_PartsOf : okFn prog f47 8 [] [(2, none)] mc_impl_PartsOf = true := by kernel_rfl
def mc_impl_IsOneBlock : MCode :=
 .seq
 (.reg [
 ⟨some 1, none, .box 2 (.t 0)⟩,
 ⟨some 2, none, .mov (.v (.b false))⟩] [1])
 (.seq
 (.reg [
 ⟨some 3, none, .load true 2 (.t 1)⟩,
 ⟨some 4, none, .call fid_impl_PartCount false [.im] [(.t 3)]⟩,
 ⟨some 5, none, .bin .eql (.t 4) (.v (.i .i64 1))⟩,
 ⟨some 6, none, .mov (.t 5)⟩,
 ⟨some 7, (some (6, true)), .load true 2 (.t 1)⟩,
 ⟨some 8, (some (6, true)), .call fid_impl_CutNodesOf false [.im] [(.t 7)]⟩,
 ⟨some 9, (some (6, true)), .len (.t 8)⟩,
 ⟨some 10, (some (6, true)), .bin .eql (.t 9) (.v (.i .i64 0))⟩,
 ⟨some 11, none, .pick (.t 6) (.t 10) (.v (.b false))⟩,
 ⟨some 2, none, .mov (.t 11)⟩] [2])
 (.ret))
theorem get_impl_IsOneBlock : prog.funcs[fid_impl_IsOneBlock]? = some f51 := func51
theorem ok_impl_IsOneBlock : okFn prog f51 12 [] [(2, none)] mc_impl_IsOneBlock = true := by kernel_rfl
def mc_impl_WeakestCut : MCode :=
 .seq
 (.reg [
 ⟨some 1, none, .box 2 (.t 0)⟩,
 ⟨some 2, none, .mov (.v (.i .i64 0))⟩,
 ⟨some 3, none, .mov (.v (.b false))⟩] [1])
 (.seq
 (.seq
 (.reg [
 ⟨some 10, none, .load true 2 (.t 1)⟩,
 ⟨some 11, none, .call fid_impl_GraphValid false [.im] [(.t 10)]⟩,
 ⟨some 12, none, .un .not (.t 11)⟩,
 ⟨some 13, none, .mov (.t 12)⟩,
 ⟨some 14, (some (13, false)), .fieldAddr 0 (.t 1)⟩,
 ⟨some 15, (some (13, false)), .load false 1 (.t 14)⟩,
 ⟨some 16, (some (13, false)), .bin .eql (.t 15) (.v (.i .i64 1))⟩,
 ⟨some 17, none, .pick (.t 13) (.v (.b true)) (.t 16)⟩] [1, 17])
 (.cond (.t 17)
 (.seq
 (.reg [
 ⟨some 2, none, .mov (.v (.i .i64 0))⟩,
 ⟨some 3, none, .mov (.v (.b false))⟩] [2, 3])
 (.ret))
 (.skip)))
 (.seq
 (.reg [
 ⟨some 19, none, .load true 2 (.t 1)⟩,
 ⟨some 20, none, .call fid_impl_Graph_flow false [.im, .im, .im] [(.t 19), (.v (.i .i64 0)), (.v (.i .i64 1))]⟩,
 ⟨some 18, none, .mov (.t 20)⟩,
 ⟨some 21, none, .extract (.t 18) 0⟩,
 ⟨some 22, none, .extract (.t 18) 1⟩,
 ⟨some 4, none, .alloc zs256⟩,
 ⟨none, none, .store 256 (.t 4) (.t 21)⟩,
 ⟨some 5, none, .mov (.t 22)⟩] [1, 5])
 (.seq
 (.seq
 (.reg [
 ⟨some 23, none, .fieldAddr 0 (.t 1)⟩,
 ⟨some 24, none, .load false 1 (.t 23)⟩,
 ⟨some 25, none, .mov (.v (.i .i64 0))⟩] [1, 5, 24, 25])
 (.block 0
 (.loop [1, 5, 24, 25]
 (.seq
 (.reg [
 ⟨some 26, none, .bin .lss (.t 25) (.t 24)⟩] [1, 5, 24, 25, 26])
 (.seq
 (.cond (.t 26)
 (.skip)
 (.exit 0))
 (.seq
 (.block 1
 (.seq
 (.reg [
 ⟨some 27, none, .mov (.t 25)⟩,
 ⟨some 6, none, .mov (.t 27)⟩] [1, 5, 6, 24, 25])
 (.seq
 (.reg [
 ⟨some 28, none, .mov (.t 6)⟩,
 ⟨some 29, none, .mov (.v (.i .i64 0))⟩] [1, 5, 6, 24, 25, 28, 29])
 (.block 2
 (.loop [1, 5, 6, 24, 25, 28, 29]
 (.seq
 (.reg [
 ⟨some 30, none, .bin .lss (.t 29) (.t 28)⟩] [1, 5, 6, 24, 25, 28, 29, 30])
 (.seq
 (.cond (.t 30)
 (.skip)
 (.exit 2))
 (.seq
 (.block 3
 (.seq
 (.reg [
 ⟨some 31, none, .mov (.t 29)⟩,
 ⟨some 7, none, .mov (.t 31)⟩] [1, 5, 6, 7, 24, 25, 28, 29])
 (.seq
 (.reg [
 ⟨some 33, none, .load true 2 (.t 1)⟩,
 ⟨some 34, none, .mov (.t 7)⟩,
 ⟨some 35, none, .mov (.t 6)⟩,
 ⟨some 36, none, .call fid_impl_Graph_flow false [.im, .im, .im] [(.t 33), (.t 34), (.t 35)]⟩,
 ⟨some 32, none, .mov (.t 36)⟩,
 ⟨some 37, none, .extract (.t 32) 0⟩,
 ⟨some 38, none, .extract (.t 32) 1⟩,
 ⟨some 8, none, .alloc zs256⟩,
 ⟨none, none, .store 256 (.t 8) (.t 37)⟩,
 ⟨some 9, none, .mov (.t 38)⟩] [1, 5, 6, 9, 24, 25, 28, 29])
 (.reg [
 ⟨some 39, none, .mov (.t 5)⟩,
 ⟨some 40, none, .mov (.t 9)⟩,
 ⟨some 41, none, .minmax false (.t 39) (.t 40)⟩,
 ⟨some 5, none, .mov (.t 41)⟩] [1, 5, 6, 24, 25, 28, 29]))))
 (.reg [
 ⟨some 42, none, .bin .add (.t 29) (.v (.i .i64 1))⟩,
 ⟨some 29, none, .mov (.t 42)⟩] [1, 5, 6, 24, 25, 28, 29])))))))))
 (.reg [
 ⟨some 43, none, .bin .add (.t 25) (.v (.i .i64 1))⟩,
 ⟨some 25, none, .mov (.t 43)⟩] [1, 5, 24, 25])))))))
 (.seq
 (.reg [
 ⟨some 44, none, .mov (.t 5)⟩,
 ⟨some 2, none, .mov (.t 44)⟩,
 ⟨some 3, none, .mov (.v (.b true))⟩] [2, 3])
 (.ret)))))
theorem get_impl_WeakestCut : prog.funcs[fid_impl_WeakestCut]? = some f53 := func53
theorem ok_impl_WeakestCut : okFn prog f53 45 [] [(2, none), (3, none)] mc_impl_WeakestCut = true := by kernel_rfl
def mc_impl_IsSafeGraph : MCode :=
 .seq
 (.reg [
 ⟨some 1, none, .box 2 (.t 0)⟩,
 ⟨some 2, none, .mov (.v (.b false))⟩] [1])
 (.seq
 (.reg [
 ⟨some 3, none, .load true 2 (.t 1)⟩,
 ⟨some 4, none, .call fid_impl_PartCount false [.im] [(.t 3)]⟩,
 ⟨some 5, none, .bin .eql (.t 4) (.v (.i .i64 1))⟩,
 ⟨some 6, none, .mov (.t 5)⟩,
 ⟨some 7, (some (6, true)), .load true 2 (.t 1)⟩,
 ⟨some 8, (some (6, true)), .call fid_impl_BridgesOf false [.im] [(.t 7)]⟩,
 ⟨some 9, (some (6, true)), .len (.t 8)⟩,
 ⟨some 10, (some (6, true)), .bin .eql (.t 9) (.v (.i .i64 0))⟩,
 ⟨some 11, none, .pick (.t 6) (.t 10) (.v (.b false))⟩,
 ⟨some 2, none, .mov (.t 11)⟩] [2])
 (.ret))
theorem get_impl_IsSafeGraph : prog.funcs[fid_impl_IsSafeGraph]? = some f54 := func54
theorem ok_impl_IsSafeGraph : okFn prog f54 12 [] [(2, none)] mc_impl_IsSafeGraph = true := by kernel_rfl
def mc_impl_BlocksOf : MCode :=
 .seq
 (.reg [
 ⟨some 1, none, .box 2 (.t 0)⟩,
 ⟨some 2, none, .mov (.v (.nl 1))⟩] [1])
 (.seq
 (.seq
 (.reg [
 ⟨some 7, none, .load true 2 (.t 1)⟩,
 ⟨some 8, none, .call fid_impl_GraphValid false [.im] [(.t 7)]⟩,
 ⟨some 9, none, .un .not (.t 8)⟩] [1, 9])
 (.cond (.t 9)
 (.seq
 (.reg [
 ⟨some 2, none, .mov (.v (.nl 1))⟩] [2])
 (.ret))
 (.skip)))
 (.seq
 (.reg [
 ⟨some 10, none, .buildSlice 1 []⟩,
 ⟨some 11, none, .load true 2 (.t 1)⟩,
 ⟨some 12, none, .call fid_impl_Graph_blocks false [.im] [(.t 11)]⟩,
 ⟨some 3, none, .mov (.t 10)⟩,
 ⟨some 4, none, .mov (.t 12)⟩] [1, 3, 4])
 (.seq
 (.seq
 (.reg [
 ⟨some 13, none, .mov (.t 4)⟩,
 ⟨some 14, none, .len (.t 13)⟩,
 ⟨some 15, none, .mov (.v (.i .i64 0))⟩] [1, 3, 4, 13, 14, 15])
 (.block 0
 (.loop [1, 3, 4, 13, 14, 15]
 (.seq
 (.reg [
 ⟨some 16, none, .bin .lss (.t 15) (.t 14)⟩] [1, 3, 4, 13, 14, 15, 16])
 (.seq
 (.cond (.t 16)
 (.skip)
 (.exit 0))
 (.seq
 (.block 1
 (.seq
 (.reg [
 ⟨some 17, none, .mov (.t 15)⟩,
 ⟨some 18, none, .indexAddr 1 (.t 13) (.t 15)⟩,
 ⟨some 19, none, .load false 1 (.t 18)⟩,
 ⟨some 5, none, .mov (.t 17)⟩,
 ⟨some 6, none, .mov (.t 19)⟩] [1, 3, 4, 5, 6, 13, 14, 15])
 (.seq
 (.reg [
 ⟨some 20, none, .mov (.t 5)⟩,
 ⟨some 21, none, .mov (.t 6)⟩,
 ⟨some 22, none, .bin .eql (.t 20) (.t 21)⟩] [1, 3, 4, 6, 13, 14, 15, 22])
 (.cond (.t 22)
 (.reg [
 ⟨some 23, none, .mov (.t 3)⟩,
 ⟨some 24, none, .load true 2 (.t 1)⟩,
 ⟨some 25, none, .mov (.t 4)⟩,
 ⟨some 26, none, .mov (.t 6)⟩,
 ⟨some 27, none, .call fid_impl_Graph_block false [.im, .im, .im] [(.t 24), (.t 25), (.t 26)]⟩,
 ⟨some 28, none, .buildSlice 1 [(.t 27)]⟩,
 ⟨some 29, none, .append 1 24 true (.t 23) (.t 28)⟩,
 ⟨some 3, none, .mov (.t 29)⟩] [1, 3, 4, 13, 14, 15])
 (.skip)))))
 (.reg [
 ⟨some 30, none, .bin .add (.t 15) (.v (.i .i64 1))⟩,
 ⟨some 15, none, .mov (.t 30)⟩] [1, 3, 4, 13, 14, 15])))))))
 (.seq
 (.reg [
 ⟨some 31, none, .mov (.t 3)⟩,
 ⟨some 2, none, .mov (.t 31)⟩] [2])
 (.ret)))))
theorem get_impl_BlocksOf : prog.funcs[fid_impl_BlocksOf]? = some f55 := func55
theorem ok_impl_BlocksOf : okFn prog f55 32 [] [(2, none)] mc_impl_BlocksOf = true := by kernel_rfl
def mc_impl_compareEdges : MCode :=
 .seq
 (.reg [
 ⟨some 2, none, .box 2 (.t 0)⟩,
 ⟨some 3, none, .box 2 (.t 1)⟩,
 ⟨some 4, none, .mov (.v (.i .i64 0))⟩] [2, 3])
 (.seq
 (.draw [0, 1, 0, 4, 15, 0, 32, 0, 128, 511, 1023, 2047, 4095] [
 ⟨some 5, none, .fieldAddr 0 (.t 2)⟩,
 ⟨some 6, none, .load false 1 (.t 5)⟩,
 ⟨some 7, none, .fieldAddr 0 (.t 3)⟩,
 ⟨some 8, none, .load false 1 (.t 7)⟩,
 ⟨some 9, none, .call fid_cmp_Compare_int false [.im, .im] [(.t 6), (.t 8)]⟩,
 ⟨some 10, none, .fieldAddr 1 (.t 2)⟩,
 ⟨some 11, none, .load false 1 (.t 10)⟩,
 ⟨some 12, none, .fieldAddr 1 (.t 3)⟩,
 ⟨some 13, none, .load false 1 (.t 12)⟩,
 ⟨some 14, none, .call fid_cmp_Compare_int false [.im, .im] [(.t 11), (.t 13)]⟩,
 ⟨some 15, none, .buildSlice 1 [(.t 9), (.t 14)]⟩,
 ⟨some 16, none, .call fid_cmp_Or_int false [.im] [(.t 15)]⟩,
 ⟨some 4, none, .mov (.t 16)⟩] [4])
 (.ret))
theorem get_impl_compareEdges : prog.funcs[fid_impl_compareEdges]? = some f64 := func64
theorem ok_impl_compareEdges : okFn prog f64 17 [] [(4, none)] mc_impl_compareEdges = true := by kernel_rfl
def mc_impl_isNode : MCode :=
 .seq
 (.reg [
 ⟨some 2, none, .mov (.v (.b false))⟩] [0])
 (.seq
 (.reg [
 ⟨some 3, none, .mov (.t 0)⟩,
 ⟨some 4, none, .bin .geq (.t 3) (.v (.i .i64 0))⟩,
 ⟨some 5, none, .mov (.t 4)⟩,
 ⟨some 6, (some (5, true)), .mov (.t 0)⟩,
 ⟨some 7, (some (5, true)), .bin .lss (.t 6) (.v (.i .i64 16))⟩,
 ⟨some 8, none, .pick (.t 5) (.t 7) (.v (.b false))⟩,
 ⟨some 2, none, .mov (.t 8)⟩] [2])
 (.ret))
theorem get_impl_isNode : prog.funcs[fid_impl_isNode]? = some f65 := func65
theorem ok_impl_isNode : okFn prog f65 9 [] [(2, none)] mc_impl_isNode = true := by kernel_rfl
def mc_slices_ContainsFunc_int_int : MCode :=
 .seq
 (.reg [
 ⟨some 4, none, .mov (.v (.b false))⟩] [0, 1])
 (.seq
 (.reg [
 ⟨some 5, none, .mov (.t 0)⟩,
 ⟨some 6, none, .mov (.t 1)⟩,
 ⟨some 7, none, .call fid_slices_IndexFunc_int_int false [.im, .fn] [(.t 5), (.t 6)]⟩,
 ⟨some 8, none, .bin .geq (.t 7) (.v (.i .i64 0))⟩,
 ⟨some 4, none, .mov (.t 8)⟩] [4])
 (.ret))
theorem get_slices_ContainsFunc_int_int : prog.funcs[fid_slices_ContainsFunc_int_int]? = some f67 := func67
theorem ok_slices_ContainsFunc_int_int : okFn prog f67 9 [] [(4, none)] mc_slices_ContainsFunc_int_int = true := by kernel_rfl
def mc_impl_ChainEdges_1 : MCode :=
 .seq
 (.reg [
 ⟨some 2, none, .mov (.v (.b false))⟩] [0])
 (.seq
 (.reg [
 ⟨some 3, none, .mov (.t 0)⟩,
 ⟨some 4, none, .call fid_impl_isNode false [.im] [(.t 3)]⟩,
 ⟨some 5, none, .un .not (.t 4)⟩,
 ⟨some 2, none, .mov (.t 5)⟩] [2])
 (.ret))
theorem get_impl_ChainEdges_1 : prog.funcs[fid_impl_ChainEdges_1]? = some f68 := func68
theorem ok_impl_ChainEdges_1 : okFn prog f68 6 [] [(2, none)] mc_impl_ChainEdges_1 = true := by kernel_rfl
def mc_impl_steps : MCode :=
 .seq
 (.reg [
 ⟨some 2, none, .mov (.v (.nl 2))⟩,
 ⟨some 3, none, .mov (.v (.b false))⟩] [0])
 (.seq
 (.reg [
 ⟨some 8, none, .buildSlice 2 []⟩,
 ⟨some 4, none, .mov (.t 8)⟩] [0, 4])
 (.seq
 (.seq
 (.reg [
 ⟨some 5, none, .mov (.v (.i .i64 1))⟩] [0, 4, 5])
 (.block 0
 (.loop [0, 4, 5]
 (.seq
 (.seq
 (.reg [
 ⟨some 9, none, .mov (.t 5)⟩,
 ⟨some 10, none, .mov (.t 0)⟩,
 ⟨some 11, none, .len (.t 10)⟩,
 ⟨some 12, none, .bin .lss (.t 9) (.t 11)⟩] [0, 4, 5, 12])
 (.cond (.t 12)
 (.skip)
 (.exit 0)))
 (.seq
 (.block 1
 (.seq
 (.draw [0, 0, 2, 7, 15, 0, 0, 96, 224, 511, 1023, 2047, 2047, 0, 12287, 32767] [
 ⟨some 16, none, .mov (.t 0)⟩,
 ⟨some 17, none, .mov (.t 5)⟩,
 ⟨some 18, none, .bin .sub (.t 17) (.v (.i .i64 1))⟩,
 ⟨some 19, none, .indexAddr 1 (.t 16) (.t 18)⟩,
 ⟨some 20, none, .load false 1 (.t 19)⟩,
 ⟨some 21, none, .mov (.t 0)⟩,
 ⟨some 22, none, .mov (.t 5)⟩,
 ⟨some 23, none, .indexAddr 1 (.t 21) (.t 22)⟩,
 ⟨some 24, none, .load false 1 (.t 23)⟩,
 ⟨some 25, none, .call fid_impl_EdgeOf false [.im, .im] [(.t 20), (.t 24)]⟩,
 ⟨some 15, none, .mov (.t 25)⟩,
 ⟨some 26, none, .extract (.t 15) 0⟩,
 ⟨some 27, none, .extract (.t 15) 1⟩,
 ⟨some 6, none, .alloc [.i .i64 0, .i .i64 0]⟩,
 ⟨none, none, .store 2 (.t 6) (.t 26)⟩,
 ⟨some 7, none, .mov (.t 27)⟩] [0, 4, 5, 6, 7])
 (.seq
 (.seq
 (.reg [
 ⟨some 28, none, .mov (.t 7)⟩,
 ⟨some 29, none, .un .not (.t 28)⟩] [0, 4, 5, 6, 29])
 (.cond (.t 29)
 (.seq
 (.reg [
 ⟨some 2, none, .mov (.v (.nl 2))⟩,
 ⟨some 3, none, .mov (.v (.b false))⟩] [2, 3])
 (.ret))
 (.skip)))
 (.reg [
 ⟨some 30, none, .mov (.t 4)⟩,
 ⟨some 31, none, .load true 2 (.t 6)⟩,
 ⟨some 32, none, .buildSlice 2 [(.t 31)]⟩,
 ⟨some 33, none, .append 2 16 true (.t 30) (.t 32)⟩,
 ⟨some 4, none, .mov (.t 33)⟩] [0, 4, 5]))))
 (.reg [
 ⟨some 13, none, .mov (.t 5)⟩,
 ⟨some 14, none, .bin .add (.t 13) (.v (.i .i64 1))⟩,
 ⟨some 5, none, .mov (.t 14)⟩] [0, 4, 5]))))))
 (.seq
 (.reg [
 ⟨some 34, none, .mov (.t 4)⟩,
 ⟨some 2, none, .mov (.t 34)⟩,
 ⟨some 3, none, .mov (.v (.b true))⟩] [2, 3])
 (.ret))))
theorem get_impl_steps : prog.funcs[fid_impl_steps]? = some f69 := func69
theorem ok_impl_steps : okFn prog f69 35 [] [(2, none), (3, none)] mc_impl_steps = true := by kernel_rfl
def mc_impl_Graph_isBridge : MCode :=
 .seq
 (.reg [
 ⟨some 2, none, .box 2 (.t 0)⟩,
 ⟨some 3, none, .box 2 (.t 1)⟩,
 ⟨some 4, none, .mov (.v (.b false))⟩] [2, 3])
 (.seq
 (.draw [0, 0, 3, 0, 8, 0, 32, 127, 255, 511] [
 ⟨some 5, none, .load true 2 (.t 2)⟩,
 ⟨some 6, none, .load true 2 (.t 3)⟩,
 ⟨some 7, none, .call fid_impl_Graph_cut false [.im, .im] [(.t 5), (.t 6)]⟩,
 ⟨some 8, none, .fieldAddr 0 (.t 3)⟩,
 ⟨some 9, none, .load false 1 (.t 8)⟩,
 ⟨some 10, none, .fieldAddr 1 (.t 3)⟩,
 ⟨some 11, none, .load false 1 (.t 10)⟩,
 ⟨some 12, none, .call fid_impl_Graph_connected false [.im, .im, .im] [(.t 7), (.t 9), (.t 11)]⟩,
 ⟨some 13, none, .un .not (.t 12)⟩,
 ⟨some 4, none, .mov (.t 13)⟩] [4])
 (.ret))
theorem get_impl_Graph_isBridge : prog.funcs[fid_impl_Graph_isBridge]? = some f70 := func70
theorem ok_impl_Graph_isBridge : okFn prog f70 14 [] [(4, none)] mc_impl_Graph_isBridge = true := by kernel_rfl
def mc_impl_Graph_forest : MCode :=
 .seq
 (.reg [
 ⟨some 1, none, .box 2 (.t 0)⟩,
 ⟨some 2, none, .mov (.v (.nl 2))⟩] [1])
 (.seq
 (.reg [
 ⟨some 6, none, .fieldAddr 0 (.t 1)⟩,
 ⟨some 7, none, .load false 1 (.t 6)⟩,
 ⟨some 8, none, .build [.i .i64 0, .nl 2] [(0, 1, (.t 7))]⟩,
 ⟨some 3, none, .alloc [.i .i64 0, .nl 2]⟩,
 ⟨none, none, .store 2 (.t 3) (.t 8)⟩] [1, 3])
 (.seq
 (.seq
 (.reg [
 ⟨some 9, none, .fieldAddr 1 (.t 1)⟩,
 ⟨some 10, none, .load false 1 (.t 9)⟩,
 ⟨some 11, none, .len (.t 10)⟩,
 ⟨some 12, none, .mov (.v (.i .i64 0))⟩] [3, 10, 11, 12])
 (.block 0
 (.loop [3, 10, 11, 12]
 (.seq
 (.reg [
 ⟨some 13, none, .bin .lss (.t 12) (.t 11)⟩] [3, 10, 11, 12, 13])
 (.seq
 (.cond (.t 13)
 (.skip)
 (.exit 0))
 (.seq
 (.block 1
 (.seq
 (.reg [
 ⟨some 14, none, .indexAddr 2 (.t 10) (.t 12)⟩,
 ⟨some 15, none, .load true 2 (.t 14)⟩,
 ⟨some 5, none, .alloc [.i .i64 0, .i .i64 0]⟩,
 ⟨none, none, .store 2 (.t 5) (.t 15)⟩] [3, 5, 10, 11, 12])
 (.seq
 (.reg [
 ⟨some 16, none, .load true 2 (.t 3)⟩,
 ⟨some 17, none, .fieldAddr 0 (.t 5)⟩,
 ⟨some 18, none, .load false 1 (.t 17)⟩,
 ⟨some 19, none, .fieldAddr 1 (.t 5)⟩,
 ⟨some 20, none, .load false 1 (.t 19)⟩,
 ⟨some 21, none, .call fid_impl_Graph_connected false [.im, .im, .im] [(.t 16), (.t 18), (.t 20)]⟩,
 ⟨some 22, none, .un .not (.t 21)⟩] [3, 5, 10, 11, 12, 22])
 (.cond (.t 22)
 (.reg [
 ⟨some 23, none, .fieldAddr 1 (.t 3)⟩,
 ⟨some 24, none, .load false 1 (.t 23)⟩,
 ⟨some 25, none, .load true 2 (.t 5)⟩,
 ⟨some 26, none, .buildSlice 2 [(.t 25)]⟩,
 ⟨some 27, none, .append 2 16 true (.t 24) (.t 26)⟩,
 ⟨some 28, none, .fieldAddr 1 (.t 3)⟩,
 ⟨none, none, .store 1 (.t 28) (.t 27)⟩] [3, 10, 11, 12])
 (.skip)))))
 (.reg [
 ⟨some 29, none, .bin .add (.t 12) (.v (.i .i64 1))⟩,
 ⟨some 12, none, .mov (.t 29)⟩] [3, 10, 11, 12])))))))
 (.seq
 (.reg [
 ⟨some 30, none, .fieldAddr 1 (.t 3)⟩,
 ⟨some 31, none, .load false 1 (.t 30)⟩,
 ⟨some 2, none, .mov (.t 31)⟩] [2])
 (.ret))))
theorem get_impl_Graph_forest : prog.funcs[fid_impl_Graph_forest]? = some f81 := func81
theorem ok_impl_Graph_forest : okFn prog f81 32 [] [(2, none)] mc_impl_Graph_forest = true := by kernel_rfl
def mc_impl_Graph_without : MCode :=
 .seq
 (.reg [
 ⟨some 2, none, .box 2 (.t 0)⟩,
 ⟨some 4, none, .alloc [.i .i64 0, .nl 2]⟩] [1, 2, 4])
 (.seq
 (.draw [0, 1, 0, 4, 12, 0, 60, 127, 255] [
 ⟨some 5, none, .fieldAddr 0 (.t 2)⟩,
 ⟨some 6, none, .load false 1 (.t 5)⟩,
 ⟨some 7, none, .fieldAddr 1 (.t 2)⟩,
 ⟨some 8, none, .load false 1 (.t 7)⟩,
 ⟨some 9, none, .call fid_slices_Clone_impl_Edge_impl_Edge false [.im] [(.t 8)]⟩,
 ⟨some 10, none, .mov (.t 1)⟩,
 ⟨some 11, none, .call fid_slices_DeleteFunc_impl_Edge_impl_Edge false [.co, .fn] [(.t 9), (.t 10)]⟩,
 ⟨some 12, none, .build [.i .i64 0, .nl 2] [(0, 1, (.t 6)), (1, 1, (.t 11))]⟩,
 ⟨none, none, .store 2 (.t 4) (.t 12)⟩] [4])
 (.ret))
theorem get_impl_Graph_without : prog.funcs[fid_impl_Graph_without]? = some f82 := func82
theorem ok_impl_Graph_without : okFn prog f82 13 [] [(4, some (true, 2))] mc_impl_Graph_without = true := by kernel_rfl
def mc_slices_Contains_impl_Edge_impl_Edge : MCode :=
 .seq
 (.reg [
 ⟨some 3, none, .box 2 (.t 1)⟩,
 ⟨some 4, none, .mov (.v (.b false))⟩] [0, 3])
 (.seq
 (.reg [
 ⟨some 5, none, .mov (.t 0)⟩,
 ⟨some 6, none, .load true 2 (.t 3)⟩,
 ⟨some 7, none, .call fid_slices_Index_impl_Edge_impl_Edge false [.im, .im] [(.t 5), (.t 6)]⟩,
 ⟨some 8, none, .bin .geq (.t 7) (.v (.i .i64 0))⟩,
 ⟨some 4, none, .mov (.t 8)⟩] [4])
 (.ret))
theorem get_slices_Contains_impl_Edge_impl_Edge : prog.funcs[fid_slices_Contains_impl_Edge_impl_Edge]? = some f84 := func84
theorem ok_slices_Contains_impl_Edge_impl_Edge : okFn prog f84 9 [] [(4, none)] mc_slices_Contains_impl_Edge_impl_Edge = true := by kernel_rfl
def mc_slices_Equal_impl_Edge_impl_Edge : MCode :=
 .seq
 (.reg [
 ⟨some 4, none, .mov (.v (.b false))⟩] [0, 1])
 (.seq
 (.seq
 (.reg [
 ⟨some 6, none, .mov (.t 0)⟩,
 ⟨some 7, none, .len (.t 6)⟩,
 ⟨some 8, none, .mov (.t 1)⟩,
 ⟨some 9, none, .len (.t 8)⟩,
 ⟨some 10, none, .bin .neq (.t 7) (.t 9)⟩] [0, 1, 10])
 (.cond (.t 10)
 (.seq
 (.reg [
 ⟨some 4, none, .mov (.v (.b false))⟩] [4])
 (.ret))
 (.skip)))
 (.seq
 (.seq
 (.reg [
 ⟨some 11, none, .mov (.t 0)⟩,
 ⟨some 12, none, .len (.t 11)⟩,
 ⟨some 13, none, .mov (.v (.i .i64 0))⟩] [0, 1, 12, 13])
 (.block 0
 (.loop [0, 1, 12, 13]
 (.seq
 (.reg [
 ⟨some 14, none, .bin .lss (.t 13) (.t 12)⟩] [0, 1, 12, 13, 14])
 (.seq
 (.cond (.t 14)
 (.skip)
 (.exit 0))
 (.seq
 (.block 1
 (.seq
 (.reg [
 ⟨some 15, none, .mov (.t 13)⟩,
 ⟨some 5, none, .mov (.t 15)⟩] [0, 1, 5, 12, 13])
 (.seq
 (.draw [0, 0, 3, 7, 0, 0, 48, 112, 255] [
 ⟨some 16, none, .mov (.t 0)⟩,
 ⟨some 17, none, .mov (.t 5)⟩,
 ⟨some 18, none, .indexAddr 2 (.t 16) (.t 17)⟩,
 ⟨some 19, none, .load true 2 (.t 18)⟩,
 ⟨some 20, none, .mov (.t 1)⟩,
 ⟨some 21, none, .mov (.t 5)⟩,
 ⟨some 22, none, .indexAddr 2 (.t 20) (.t 21)⟩,
 ⟨some 23, none, .load true 2 (.t 22)⟩,
 ⟨some 24, none, .eqAgg true [true, true] (.t 19) (.t 23)⟩] [0, 1, 12, 13, 24])
 (.cond (.t 24)
 (.seq
 (.reg [
 ⟨some 4, none, .mov (.v (.b false))⟩] [4])
 (.ret))
 (.skip)))))
 (.reg [
 ⟨some 25, none, .bin .add (.t 13) (.v (.i .i64 1))⟩,
 ⟨some 13, none, .mov (.t 25)⟩] [0, 1, 12, 13])))))))
 (.seq
 (.reg [
 ⟨some 4, none, .mov (.v (.b true))⟩] [4])
 (.ret))))
theorem get_slices_Equal_impl_Edge_impl_Edge : prog.funcs[fid_slices_Equal_impl_Edge_impl_Edge]? = some f92 := func92
theorem ok_slices_Equal_impl_Edge_impl_Edge : okFn prog f92 26 [] [(4, none)] mc_slices_Equal_impl_Edge_impl_Edge = true := by kernel_rfl
def mc_impl_Graph_edgesBy : MCode :=
 .seq
 (.reg [
 ⟨some 2, none, .box 2 (.t 0)⟩,
 ⟨some 3, none, .box 1 (.t 1)⟩,
 ⟨some 4, none, .mov (.v (.nl 2))⟩] [2, 3])
 (.seq
 (.reg [
 ⟨some 5, none, .load true 2 (.t 2)⟩,
 ⟨some 6, none, .mkfn fid_impl_Graph_edgesBy_1 [] [(.t 3)]⟩,
 ⟨some 7, none, .call fid_impl_Graph_without false [.im, .fn] [(.t 5), (.t 6)]⟩,
 ⟨some 8, none, .field false 1 1 (.t 7)⟩,
 ⟨some 4, none, .mov (.t 8)⟩] [4])
 (.ret))
theorem get_impl_Graph_edgesBy : prog.funcs[fid_impl_Graph_edgesBy]? = some f94 := func94
theorem ok_impl_Graph_edgesBy : okFn prog f94 9 [] [(4, none)] mc_impl_Graph_edgesBy = true := by kernel_rfl
def mc_impl_Graph_parts : MCode :=
 .seq
 (.reg [
 ⟨some 1, none, .box 2 (.t 0)⟩,
 ⟨some 2, none, .mov (.v (.nl 1))⟩] [1])
 (.seq
 (.reg [
 ⟨some 8, none, .buildSlice 1 []⟩,
 ⟨some 3, none, .mov (.t 8)⟩] [1, 3])
 (.seq
 (.seq
 (.reg [
 ⟨some 9, none, .fieldAddr 0 (.t 1)⟩,
 ⟨some 10, none, .load false 1 (.t 9)⟩,
 ⟨some 11, none, .mov (.v (.i .i64 0))⟩] [1, 3, 10, 11])
 (.block 0
 (.loop [1, 3, 10, 11]
 (.seq
 (.reg [
 ⟨some 12, none, .bin .lss (.t 11) (.t 10)⟩] [1, 3, 10, 11, 12])
 (.seq
 (.cond (.t 12)
 (.skip)
 (.exit 0))
 (.seq
 (.block 1
 (.seq
 (.reg [
 ⟨some 13, none, .mov (.t 11)⟩,
 ⟨some 4, none, .mov (.t 13)⟩] [1, 3, 4, 10, 11])
 (.reg [
 ⟨some 14, none, .mov (.t 3)⟩,
 ⟨some 15, none, .mov (.t 4)⟩,
 ⟨some 16, none, .buildSlice 1 [(.t 15)]⟩,
 ⟨some 17, none, .append 1 8 true (.t 14) (.t 16)⟩,
 ⟨some 3, none, .mov (.t 17)⟩] [1, 3, 10, 11])))
 (.reg [
 ⟨some 18, none, .bin .add (.t 11) (.v (.i .i64 1))⟩,
 ⟨some 11, none, .mov (.t 18)⟩] [1, 3, 10, 11])))))))
 (.seq
 (.seq
 (.reg [
 ⟨some 19, none, .fieldAddr 0 (.t 1)⟩,
 ⟨some 20, none, .load false 1 (.t 19)⟩,
 ⟨some 21, none, .mov (.v (.i .i64 0))⟩] [1, 3, 20, 21])
 (.block 2
 (.loop [1, 3, 20, 21]
 (.seq
 (.reg [
 ⟨some 22, none, .bin .lss (.t 21) (.t 20)⟩] [1, 3, 20, 21, 22])
 (.seq
 (.cond (.t 22)
 (.skip)
 (.exit 2))
 (.seq
 (.block 3
 (.seq
 (.reg [
 ⟨some 23, none, .fieldAddr 1 (.t 1)⟩,
 ⟨some 24, none, .load false 1 (.t 23)⟩,
 ⟨some 25, none, .len (.t 24)⟩,
 ⟨some 26, none, .mov (.v (.i .i64 0))⟩] [1, 3, 20, 21, 24, 25, 26])
 (.block 4
 (.loop [1, 3, 20, 21, 24, 25, 26]
 (.seq
 (.reg [
 ⟨some 27, none, .bin .lss (.t 26) (.t 25)⟩] [1, 3, 20, 21, 24, 25, 26, 27])
 (.seq
 (.cond (.t 27)
 (.skip)
 (.exit 4))
 (.seq
 (.block 5
 (.seq
 (.reg [
 ⟨some 28, none, .indexAddr 2 (.t 24) (.t 26)⟩,
 ⟨some 29, none, .load true 2 (.t 28)⟩,
 ⟨some 6, none, .alloc [.i .i64 0, .i .i64 0]⟩,
 ⟨none, none, .store 2 (.t 6) (.t 29)⟩] [1, 3, 6, 20, 21, 24, 25, 26])
 (.seq
 (.draw [0, 0, 2, 7, 15, 0, 0, 64, 224, 480, 1023, 2047] [
 ⟨some 30, none, .mov (.t 3)⟩,
 ⟨some 31, none, .fieldAddr 0 (.t 6)⟩,
 ⟨some 32, none, .load false 1 (.t 31)⟩,
 ⟨some 33, none, .indexAddr 1 (.t 30) (.t 32)⟩,
 ⟨some 34, none, .load false 1 (.t 33)⟩,
 ⟨some 35, none, .mov (.t 3)⟩,
 ⟨some 36, none, .fieldAddr 1 (.t 6)⟩,
 ⟨some 37, none, .load false 1 (.t 36)⟩,
 ⟨some 38, none, .indexAddr 1 (.t 35) (.t 37)⟩,
 ⟨some 39, none, .load false 1 (.t 38)⟩,
 ⟨some 40, none, .minmax false (.t 34) (.t 39)⟩,
 ⟨some 7, none, .mov (.t 40)⟩] [1, 3, 6, 7, 20, 21, 24, 25, 26])
 (.draw [0, 0, 2, 0, 0, 16, 0, 0, 71, 327, 1023, 2047] [
 ⟨some 41, none, .mov (.t 3)⟩,
 ⟨some 42, none, .fieldAddr 0 (.t 6)⟩,
 ⟨some 43, none, .load false 1 (.t 42)⟩,
 ⟨some 44, none, .mov (.t 3)⟩,
 ⟨some 45, none, .fieldAddr 1 (.t 6)⟩,
 ⟨some 46, none, .load false 1 (.t 45)⟩,
 ⟨some 47, none, .mov (.t 7)⟩,
 ⟨some 48, none, .mov (.t 7)⟩,
 ⟨some 49, none, .indexAddr 1 (.t 41) (.t 43)⟩,
 ⟨none, none, .store 1 (.t 49) (.t 47)⟩,
 ⟨some 50, none, .indexAddr 1 (.t 44) (.t 46)⟩,
 ⟨none, none, .store 1 (.t 50) (.t 48)⟩] [1, 3, 20, 21, 24, 25, 26]))))
 (.reg [
 ⟨some 51, none, .bin .add (.t 26) (.v (.i .i64 1))⟩,
 ⟨some 26, none, .mov (.t 51)⟩] [1, 3, 20, 21, 24, 25, 26]))))))))
 (.reg [
 ⟨some 52, none, .bin .add (.t 21) (.v (.i .i64 1))⟩,
 ⟨some 21, none, .mov (.t 52)⟩] [1, 3, 20, 21])))))))
 (.seq
 (.reg [
 ⟨some 53, none, .mov (.t 3)⟩,
 ⟨some 2, none, .mov (.t 53)⟩] [2])
 (.ret)))))
theorem get_impl_Graph_parts : prog.funcs[fid_impl_Graph_parts]? = some f95 := func95
theorem ok_impl_Graph_parts : okFn prog f95 54 [] [(2, none)] mc_impl_Graph_parts = true := by kernel_rfl
def mc_impl_PartCount : MCode :=
 .seq
 (.reg [
 ⟨some 1, none, .box 2 (.t 0)⟩,
 ⟨some 2, none, .mov (.v (.i .i64 0))⟩] [1])
 (.seq
 (.reg [
 ⟨some 3, none, .mov (.v (.i .i64 0))⟩] [1, 3])
 (.seq
 (.seq
 (.reg [
 ⟨some 6, none, .load true 2 (.t 1)⟩,
 ⟨some 7, none, .call fid_impl_PartsOf false [.im] [(.t 6)]⟩,
 ⟨some 8, none, .len (.t 7)⟩,
 ⟨some 9, none, .mov (.v (.i .i64 0))⟩] [3, 7, 8, 9])
 (.block 0
 (.loop [3, 7, 8, 9]
 (.seq
 (.reg [
 ⟨some 10, none, .bin .lss (.t 9) (.t 8)⟩] [3, 7, 8, 9, 10])
 (.seq
 (.cond (.t 10)
 (.skip)
 (.exit 0))
 (.seq
 (.block 1
 (.seq
 (.reg [
 ⟨some 11, none, .mov (.t 9)⟩,
 ⟨some 12, none, .indexAddr 1 (.t 7) (.t 9)⟩,
 ⟨some 13, none, .load false 1 (.t 12)⟩,
 ⟨some 4, none, .mov (.t 11)⟩,
 ⟨some 5, none, .mov (.t 13)⟩] [3, 4, 5, 7, 8, 9])
 (.seq
 (.reg [
 ⟨some 14, none, .mov (.t 4)⟩,
 ⟨some 15, none, .mov (.t 5)⟩,
 ⟨some 16, none, .bin .eql (.t 14) (.t 15)⟩] [3, 7, 8, 9, 16])
 (.cond (.t 16)
 (.reg [
 ⟨some 17, none, .mov (.t 3)⟩,
 ⟨some 18, none, .bin .add (.t 17) (.v (.i .i64 1))⟩,
 ⟨some 3, none, .mov (.t 18)⟩] [3, 7, 8, 9])
 (.skip)))))
 (.reg [
 ⟨some 19, none, .bin .add (.t 9) (.v (.i .i64 1))⟩,
 ⟨some 9, none, .mov (.t 19)⟩] [3, 7, 8, 9])))))))
 (.seq
 (.reg [
 ⟨some 20, none, .mov (.t 3)⟩,
 ⟨some 2, none, .mov (.t 20)⟩] [2])
 (.ret))))
theorem get_impl_PartCount : prog.funcs[fid_impl_PartCount]? = some f98 := func98
theorem ok_impl_PartCount : okFn prog f98 21 [] [(2, none)] mc_impl_PartCount = true := by kernel_rfl
def mc_impl_CutNodesOf : MCode :=
 .seq
 (.reg [
 ⟨some 1, none, .box 2 (.t 0)⟩,
 ⟨some 2, none, .mov (.v (.nl 1))⟩] [1])
 (.seq
 (.seq
 (.reg [
 ⟨some 3, none, .load true 2 (.t 1)⟩,
 ⟨some 4, none, .call fid_impl_GraphValid false [.im] [(.t 3)]⟩,
 ⟨some 5, none, .un .not (.t 4)⟩] [1, 5])
 (.cond (.t 5)
 (.seq
 (.reg [
 ⟨some 2, none, .mov (.v (.nl 1))⟩] [2])
 (.ret))
 (.skip)))
 (.seq
 (.reg [
 ⟨some 6, none, .load true 2 (.t 1)⟩,
 ⟨some 7, none, .load true 2 (.t 1)⟩,
 ⟨some 8, none, .mkfn fid_impl_Graph_isCutNode [(.t 7)] []⟩,
 ⟨some 9, none, .call fid_impl_Graph_nodesBy false [.im, .fn] [(.t 6), (.t 8)]⟩,
 ⟨some 2, none, .mov (.t 9)⟩] [2])
 (.ret)))
theorem get_impl_CutNodesOf : prog.funcs[fid_impl_CutNodesOf]? = some f99 := func99
theorem ok_impl_CutNodesOf : okFn prog f99 10 [] [(2, none)] mc_impl_CutNodesOf = true := by kernel_rfl
def mc_impl_Graph_flow : MCode :=
 .seq
 (.reg [
 ⟨some 3, none, .box 2 (.t 0)⟩,
 ⟨some 6, none, .alloc zs256⟩,
 ⟨some 7, none, .mov (.v (.i .i64 0))⟩] [1, 2, 3, 6])
 (.seq
 (.reg [
 ⟨some 17, none, .build zs256 []⟩,
 ⟨some 8, none, .alloc zs256⟩,
 ⟨none, none, .store 256 (.t 8) (.t 17)⟩,
 ⟨some 9, none, .mov (.v (.i .i64 0))⟩] [1, 2, 3, 6, 8, 9])
 (.block 0
 (.loop [1, 2, 3, 6, 8, 9]
 (.block 1
 (.seq
 (.reg [
 ⟨some 19, none, .load true 2 (.t 3)⟩,
 ⟨some 20, none, .mov (.t 1)⟩,
 ⟨some 21, none, .mkfn fid_impl_Graph_flow_1 [] [(.t 8)]⟩,
 ⟨some 22, none, .call fid_impl_Graph_reach false [.im, .im, .fn] [(.t 19), (.t 20), (.t 21)]⟩,
 ⟨some 18, none, .mov (.t 22)⟩,
 ⟨some 23, none, .extract (.t 18) 0⟩,
 ⟨some 24, none, .extract (.t 18) 1⟩,
 ⟨some 10, none, .mov (.t 23)⟩,
 ⟨some 11, none, .mov (.t 24)⟩] [1, 2, 3, 6, 8, 9, 11])
 (.seq
 (.reg [
 ⟨some 26, none, .mov (.t 11)⟩,
 ⟨some 27, none, .mov (.t 1)⟩,
 ⟨some 28, none, .mov (.t 2)⟩,
 ⟨some 29, none, .call fid_impl_way false [.im, .im, .im] [(.t 26), (.t 27), (.t 28)]⟩,
 ⟨some 25, none, .mov (.t 29)⟩,
 ⟨some 30, none, .extract (.t 25) 0⟩,
 ⟨some 31, none, .extract (.t 25) 1⟩,
 ⟨some 12, none, .mov (.t 30)⟩,
 ⟨some 13, none, .mov (.t 31)⟩] [1, 2, 3, 6, 8, 9, 12, 13])
 (.seq
 (.seq
 (.reg [
 ⟨some 32, none, .mov (.t 13)⟩,
 ⟨some 33, none, .un .not (.t 32)⟩] [1, 2, 3, 6, 8, 9, 12, 33])
 (.cond (.t 33)
 (.seq
 (.reg [
 ⟨some 34, none, .load true 256 (.t 8)⟩,
 ⟨some 35, none, .mov (.t 9)⟩,
 ⟨none, none, .store 256 (.t 6) (.t 34)⟩,
 ⟨some 7, none, .mov (.t 35)⟩] [6, 7])
 (.ret))
 (.skip)))
 (.seq
 (.reg [
 ⟨some 36, none, .mov (.t 9)⟩,
 ⟨some 37, none, .bin .add (.t 36) (.v (.i .i64 1))⟩,
 ⟨some 9, none, .mov (.t 37)⟩] [1, 2, 3, 6, 8, 9, 12])
 (.seq
 (.reg [
 ⟨some 14, none, .mov (.v (.i .i64 1))⟩] [1, 2, 3, 6, 8, 9, 12, 14])
 (.block 2
 (.loop [1, 2, 3, 6, 8, 9, 12, 14]
 (.seq
 (.seq
 (.reg [
 ⟨some 38, none, .mov (.t 14)⟩,
 ⟨some 39, none, .mov (.t 12)⟩,
 ⟨some 40, none, .len (.t 39)⟩,
 ⟨some 41, none, .bin .lss (.t 38) (.t 40)⟩] [1, 2, 3, 6, 8, 9, 12, 14, 41])
 (.cond (.t 41)
 (.skip)
 (.exit 2)))
 (.seq
 (.block 3
 (.seq
 (.draw [0, 0, 2, 7, 15, 0, 0, 96, 224, 31, 1023] [
 ⟨some 44, none, .mov (.t 12)⟩,
 ⟨some 45, none, .mov (.t 14)⟩,
 ⟨some 46, none, .bin .sub (.t 45) (.v (.i .i64 1))⟩,
 ⟨some 47, none, .indexAddr 1 (.t 44) (.t 46)⟩,
 ⟨some 48, none, .load false 1 (.t 47)⟩,
 ⟨some 49, none, .mov (.t 12)⟩,
 ⟨some 50, none, .mov (.t 14)⟩,
 ⟨some 51, none, .indexAddr 1 (.t 49) (.t 50)⟩,
 ⟨some 52, none, .load false 1 (.t 51)⟩,
 ⟨some 15, none, .mov (.t 48)⟩,
 ⟨some 16, none, .mov (.t 52)⟩] [1, 2, 3, 6, 8, 9, 12, 14, 15, 16])
 (.seq
 (.reg [
 ⟨some 53, none, .mov (.t 16)⟩,
 ⟨some 54, none, .mov (.t 15)⟩,
 ⟨some 55, none, .arrAddr 16 16 (.t 8) (.t 53)⟩,
 ⟨some 56, none, .arrAddr 16 1 (.t 55) (.t 54)⟩,
 ⟨some 57, none, .load false 1 (.t 56)⟩] [1, 2, 3, 6, 8, 9, 12, 14, 15, 16, 57])
 (.cond (.t 57)
 (.reg [
 ⟨some 58, none, .mov (.t 16)⟩,
 ⟨some 59, none, .mov (.t 15)⟩,
 ⟨some 60, none, .arrAddr 16 16 (.t 8) (.t 58)⟩,
 ⟨some 61, none, .arrAddr 16 1 (.t 60) (.t 59)⟩,
 ⟨none, none, .store 1 (.t 61) (.v (.b false))⟩] [1, 2, 3, 6, 8, 9, 12, 14])
 (.reg [
 ⟨some 62, none, .mov (.t 15)⟩,
 ⟨some 63, none, .mov (.t 16)⟩,
 ⟨some 64, none, .arrAddr 16 16 (.t 8) (.t 62)⟩,
 ⟨some 65, none, .arrAddr 16 1 (.t 64) (.t 63)⟩,
 ⟨none, none, .store 1 (.t 65) (.v (.b true))⟩] [1, 2, 3, 6, 8, 9, 12, 14])))))
 (.reg [
 ⟨some 42, none, .mov (.t 14)⟩,
 ⟨some 43, none, .bin .add (.t 42) (.v (.i .i64 1))⟩,
 ⟨some 14, none, .mov (.t 43)⟩] [1, 2, 3, 6, 8, 9, 12, 14]))))))))))))))
theorem get_impl_Graph_flow : prog.funcs[fid_impl_Graph_flow]? = some f102 := func102
theorem ok_impl_Graph_flow : okFn prog f102 66 [] [(6, some (true, 256)), (7, none)] mc_impl_Graph_flow = true := by kernel_rfl
def mc_impl_Graph_blocks : MCode :=
 .seq
 (.reg [
 ⟨some 1, none, .box 2 (.t 0)⟩,
 ⟨some 2, none, .mov (.v (.nl 1))⟩] [1])
 (.seq
 (.reg [
 ⟨some 16, none, .buildSlice 1 []⟩,
 ⟨some 3, none, .mov (.t 16)⟩] [1, 3])
 (.seq
 (.seq
 (.reg [
 ⟨some 17, none, .fieldAddr 1 (.t 1)⟩,
 ⟨some 18, none, .load false 1 (.t 17)⟩,
 ⟨some 19, none, .len (.t 18)⟩,
 ⟨some 20, none, .mov (.v (.i .i64 0))⟩] [1, 3, 19, 20])
 (.block 0
 (.loop [1, 3, 19, 20]
 (.seq
 (.reg [
 ⟨some 21, none, .bin .lss (.t 20) (.t 19)⟩] [1, 3, 19, 20, 21])
 (.seq
 (.cond (.t 21)
 (.skip)
 (.exit 0))
 (.seq
 (.block 1
 (.seq
 (.reg [
 ⟨some 22, none, .mov (.t 20)⟩,
 ⟨some 4, none, .mov (.t 22)⟩] [1, 3, 4, 19, 20])
 (.reg [
 ⟨some 23, none, .mov (.t 3)⟩,
 ⟨some 24, none, .mov (.t 4)⟩,
 ⟨some 25, none, .buildSlice 1 [(.t 24)]⟩,
 ⟨some 26, none, .append 1 8 true (.t 23) (.t 25)⟩,
 ⟨some 3, none, .mov (.t 26)⟩] [1, 3, 19, 20])))
 (.reg [
 ⟨some 27, none, .bin .add (.t 20) (.v (.i .i64 1))⟩,
 ⟨some 20, none, .mov (.t 27)⟩] [1, 3, 19, 20])))))))
 (.seq
 (.seq
 (.reg [
 ⟨some 28, none, .fieldAddr 1 (.t 1)⟩,
 ⟨some 29, none, .load false 1 (.t 28)⟩,
 ⟨some 30, none, .len (.t 29)⟩,
 ⟨some 31, none, .mov (.v (.i .i64 0))⟩] [1, 3, 29, 30, 31])
 (.block 2
 (.loop [1, 3, 29, 30, 31]
 (.seq
 (.reg [
 ⟨some 32, none, .bin .lss (.t 31) (.t 30)⟩] [1, 3, 29, 30, 31, 32])
 (.seq
 (.cond (.t 32)
 (.skip)
 (.exit 2))
 (.seq
 (.block 3
 (.seq
 (.reg [
 ⟨some 33, none, .mov (.t 31)⟩,
 ⟨some 34, none, .indexAddr 2 (.t 29) (.t 31)⟩,
 ⟨some 35, none, .load true 2 (.t 34)⟩,
 ⟨some 6, none, .alloc [.i .i64 0, .i .i64 0]⟩,
 ⟨some 5, none, .mov (.t 33)⟩,
 ⟨none, none, .store 2 (.t 6) (.t 35)⟩] [1, 3, 5, 6, 29, 30, 31])
 (.seq
 (.reg [
 ⟨some 36, none, .fieldAddr 1 (.t 1)⟩,
 ⟨some 37, none, .load false 1 (.t 36)⟩,
 ⟨some 38, none, .mov (.t 5)⟩,
 ⟨some 39, none, .slice 2 (.t 37) none (some (.t 38))⟩,
 ⟨some 40, none, .len (.t 39)⟩,
 ⟨some 41, none, .mov (.v (.i .i64 0))⟩] [1, 3, 5, 6, 29, 30, 31, 39, 40, 41])
 (.block 4
 (.loop [1, 3, 5, 6, 29, 30, 31, 39, 40, 41]
 (.seq
 (.reg [
 ⟨some 42, none, .bin .lss (.t 41) (.t 40)⟩] [1, 3, 5, 6, 29, 30, 31, 39, 40, 41, 42])
 (.seq
 (.cond (.t 42)
 (.skip)
 (.exit 4))
 (.seq
 (.block 5
 (.seq
 (.reg [
 ⟨some 43, none, .mov (.t 41)⟩,
 ⟨some 44, none, .indexAddr 2 (.t 39) (.t 41)⟩,
 ⟨some 45, none, .load true 2 (.t 44)⟩,
 ⟨some 8, none, .alloc [.i .i64 0, .i .i64 0]⟩,
 ⟨some 7, none, .mov (.t 43)⟩,
 ⟨none, none, .store 2 (.t 8) (.t 45)⟩] [1, 3, 5, 6, 7, 8, 29, 30, 31, 39, 40, 41])
 (.seq
 (.reg [
 ⟨some 47, none, .load true 2 (.t 6)⟩,
 ⟨some 48, none, .load true 2 (.t 8)⟩,
 ⟨some 49, none, .call fid_impl_common false [.im, .im] [(.t 47), (.t 48)]⟩,
 ⟨some 46, none, .mov (.t 49)⟩,
 ⟨some 50, none, .extract (.t 46) 0⟩,
 ⟨some 51, none, .extract (.t 46) 1⟩,
 ⟨some 52, none, .extract (.t 46) 2⟩,
 ⟨some 53, none, .extract (.t 46) 3⟩,
 ⟨some 9, none, .mov (.t 50)⟩,
 ⟨some 10, none, .mov (.t 51)⟩,
 ⟨some 11, none, .mov (.t 52)⟩,
 ⟨some 12, none, .mov (.t 53)⟩] [1, 3, 5, 6, 7, 9, 10, 11, 12, 29, 30, 31, 39, 40, 41])
 (.seq
 (.seq
 (.draw [0, 1, 3, 7, 7, 31, 63, 7, 7, 391, 903, 2047, 4095, 8191, 16383, 16383, 65535, 16383, 16383, 524287, 1048575, 2097151] [
 ⟨some 54, none, .mov (.t 12)⟩,
 ⟨some 55, none, .un .not (.t 54)⟩,
 ⟨some 56, none, .mov (.t 55)⟩,
 ⟨some 57, (some (56, false)), .mov (.t 3)⟩,
 ⟨some 58, (some (56, false)), .mov (.t 5)⟩,
 ⟨some 59, (some (56, false)), .indexAddr 1 (.t 57) (.t 58)⟩,
 ⟨some 60, (some (56, false)), .load false 1 (.t 59)⟩,
 ⟨some 61, (some (56, false)), .mov (.t 3)⟩,
 ⟨some 62, (some (56, false)), .mov (.t 7)⟩,
 ⟨some 63, (some (56, false)), .indexAddr 1 (.t 61) (.t 62)⟩,
 ⟨some 64, (some (56, false)), .load false 1 (.t 63)⟩,
 ⟨some 65, (some (56, false)), .bin .eql (.t 60) (.t 64)⟩,
 ⟨some 66, none, .pick (.t 56) (.v (.b true)) (.t 65)⟩,
 ⟨some 67, none, .mov (.t 66)⟩,
 ⟨some 68, (some (67, false)), .load true 2 (.t 1)⟩,
 ⟨some 69, (some (67, false)), .mov (.t 9)⟩,
 ⟨some 70, (some (67, false)), .call fid_impl_Graph_cutNode false [.im, .im] [(.t 68), (.t 69)]⟩,
 ⟨some 71, (some (67, false)), .mov (.t 10)⟩,
 ⟨some 72, (some (67, false)), .mov (.t 11)⟩,
 ⟨some 73, (some (67, false)), .call fid_impl_Graph_connected false [.im, .im, .im] [(.t 70), (.t 71), (.t 72)]⟩,
 ⟨some 74, (some (67, false)), .un .not (.t 73)⟩,
 ⟨some 75, none, .pick (.t 67) (.v (.b true)) (.t 74)⟩] [1, 3, 5, 6, 7, 29, 30, 31, 39, 40, 41, 75])
 (.cond (.t 75)
 (.exit 5)
 (.skip)))
 (.seq
 (.draw [0, 0, 3, 7, 0, 0, 48, 112, 255, 0, 0, 1536, 3584, 0, 0, 24576, 57344, 130560, 511, 524287] [
 ⟨some 76, none, .mov (.t 3)⟩,
 ⟨some 77, none, .mov (.t 5)⟩,
 ⟨some 78, none, .indexAddr 1 (.t 76) (.t 77)⟩,
 ⟨some 79, none, .load false 1 (.t 78)⟩,
 ⟨some 80, none, .mov (.t 3)⟩,
 ⟨some 81, none, .mov (.t 7)⟩,
 ⟨some 82, none, .indexAddr 1 (.t 80) (.t 81)⟩,
 ⟨some 83, none, .load false 1 (.t 82)⟩,
 ⟨some 84, none, .minmax false (.t 79) (.t 83)⟩,
 ⟨some 85, none, .mov (.t 3)⟩,
 ⟨some 86, none, .mov (.t 5)⟩,
 ⟨some 87, none, .indexAddr 1 (.t 85) (.t 86)⟩,
 ⟨some 88, none, .load false 1 (.t 87)⟩,
 ⟨some 89, none, .mov (.t 3)⟩,
 ⟨some 90, none, .mov (.t 7)⟩,
 ⟨some 91, none, .indexAddr 1 (.t 89) (.t 90)⟩,
 ⟨some 92, none, .load false 1 (.t 91)⟩,
 ⟨some 93, none, .minmax true (.t 88) (.t 92)⟩,
 ⟨some 13, none, .mov (.t 84)⟩,
 ⟨some 14, none, .mov (.t 93)⟩] [1, 3, 5, 6, 13, 14, 29, 30, 31, 39, 40, 41])
 (.seq
 (.reg [
 ⟨some 94, none, .mov (.t 3)⟩,
 ⟨some 95, none, .len (.t 94)⟩,
 ⟨some 96, none, .mov (.v (.i .i64 0))⟩] [1, 3, 5, 6, 13, 14, 29, 30, 31, 39, 40, 41, 95, 96])
 (.block 6
 (.loop [1, 3, 5, 6, 13, 14, 29, 30, 31, 39, 40, 41, 95, 96]
 (.seq
 (.reg [
 ⟨some 97, none, .bin .lss (.t 96) (.t 95)⟩] [1, 3, 5, 6, 13, 14, 29, 30, 31, 39, 40, 41, 95, 96, 97])
 (.seq
 (.cond (.t 97)
 (.skip)
 (.exit 6))
 (.seq
 (.block 7
 (.seq
 (.reg [
 ⟨some 98, none, .mov (.t 96)⟩,
 ⟨some 15, none, .mov (.t 98)⟩] [1, 3, 5, 6, 13, 14, 15, 29, 30, 31, 39, 40, 41, 95, 96])
 (.seq
 (.reg [
 ⟨some 99, none, .mov (.t 3)⟩,
 ⟨some 100, none, .mov (.t 15)⟩,
 ⟨some 101, none, .indexAddr 1 (.t 99) (.t 100)⟩,
 ⟨some 102, none, .load false 1 (.t 101)⟩,
 ⟨some 103, none, .mov (.t 14)⟩,
 ⟨some 104, none, .bin .eql (.t 102) (.t 103)⟩] [1, 3, 5, 6, 13, 14, 15, 29, 30, 31, 39, 40, 41, 95, 96, 104])
 (.cond (.t 104)
 (.reg [
 ⟨some 105, none, .mov (.t 3)⟩,
 ⟨some 106, none, .mov (.t 15)⟩,
 ⟨some 107, none, .mov (.t 13)⟩,
 ⟨some 108, none, .indexAddr 1 (.t 105) (.t 106)⟩,
 ⟨none, none, .store 1 (.t 108) (.t 107)⟩] [1, 3, 5, 6, 13, 14, 29, 30, 31, 39, 40, 41, 95, 96])
 (.skip)))))
 (.reg [
 ⟨some 109, none, .bin .add (.t 96) (.v (.i .i64 1))⟩,
 ⟨some 96, none, .mov (.t 109)⟩] [1, 3, 5, 6, 13, 14, 29, 30, 31, 39, 40, 41, 95, 96]))))))))))))
 (.reg [
 ⟨some 110, none, .bin .add (.t 41) (.v (.i .i64 1))⟩,
 ⟨some 41, none, .mov (.t 110)⟩] [1, 3, 5, 6, 29, 30, 31, 39, 40, 41])))))))))
 (.reg [
 ⟨some 111, none, .bin .add (.t 31) (.v (.i .i64 1))⟩,
 ⟨some 31, none, .mov (.t 111)⟩] [1, 3, 29, 30, 31])))))))
 (.seq
 (.reg [
 ⟨some 112, none, .mov (.t 3)⟩,
 ⟨some 2, none, .mov (.t 112)⟩] [2])
 (.ret)))))
theorem get_impl_Graph_blocks : prog.funcs[fid_impl_Graph_blocks]? = some f103 := func103
theorem ok_impl_Graph_blocks : okFn prog f103 113 [] [(2, none)] mc_impl_Graph_blocks = true := by kernel_rfl
def mc_impl_Graph_block : MCode :=
 .seq
 (.reg [
 ⟨some 3, none, .box 2 (.t 0)⟩,
 ⟨some 6, none, .mov (.v (.nl 2))⟩] [1, 2, 3])
 (.seq
 (.reg [
 ⟨some 10, none, .buildSlice 2 []⟩,
 ⟨some 7, none, .mov (.t 10)⟩] [1, 2, 3, 7])
 (.seq
 (.seq
 (.reg [
 ⟨some 11, none, .fieldAddr 1 (.t 3)⟩,
 ⟨some 12, none, .load false 1 (.t 11)⟩,
 ⟨some 13, none, .len (.t 12)⟩,
 ⟨some 14, none, .mov (.v (.i .i64 0))⟩] [1, 2, 7, 12, 13, 14])
 (.block 0
 (.loop [1, 2, 7, 12, 13, 14]
 (.seq
 (.reg [
 ⟨some 15, none, .bin .lss (.t 14) (.t 13)⟩] [1, 2, 7, 12, 13, 14, 15])
 (.seq
 (.cond (.t 15)
 (.skip)
 (.exit 0))
 (.seq
 (.block 1
 (.seq
 (.reg [
 ⟨some 16, none, .mov (.t 14)⟩,
 ⟨some 17, none, .indexAddr 2 (.t 12) (.t 14)⟩,
 ⟨some 18, none, .load true 2 (.t 17)⟩,
 ⟨some 9, none, .alloc [.i .i64 0, .i .i64 0]⟩,
 ⟨some 8, none, .mov (.t 16)⟩,
 ⟨none, none, .store 2 (.t 9) (.t 18)⟩] [1, 2, 7, 8, 9, 12, 13, 14])
 (.seq
 (.reg [
 ⟨some 19, none, .mov (.t 1)⟩,
 ⟨some 20, none, .mov (.t 8)⟩,
 ⟨some 21, none, .indexAddr 1 (.t 19) (.t 20)⟩,
 ⟨some 22, none, .load false 1 (.t 21)⟩,
 ⟨some 23, none, .mov (.t 2)⟩,
 ⟨some 24, none, .bin .eql (.t 22) (.t 23)⟩] [1, 2, 7, 9, 12, 13, 14, 24])
 (.cond (.t 24)
 (.reg [
 ⟨some 25, none, .mov (.t 7)⟩,
 ⟨some 26, none, .load true 2 (.t 9)⟩,
 ⟨some 27, none, .buildSlice 2 [(.t 26)]⟩,
 ⟨some 28, none, .append 2 16 true (.t 25) (.t 27)⟩,
 ⟨some 7, none, .mov (.t 28)⟩] [1, 2, 7, 12, 13, 14])
 (.skip)))))
 (.reg [
 ⟨some 29, none, .bin .add (.t 14) (.v (.i .i64 1))⟩,
 ⟨some 14, none, .mov (.t 29)⟩] [1, 2, 7, 12, 13, 14])))))))
 (.seq
 (.reg [
 ⟨some 30, none, .mov (.t 7)⟩,
 ⟨some 6, none, .mov (.t 30)⟩] [6])
 (.ret))))
theorem get_impl_Graph_block : prog.funcs[fid_impl_Graph_block]? = some f104 := func104
theorem ok_impl_Graph_block : okFn prog f104 31 [] [(6, none)] mc_impl_Graph_block = true := by kernel_rfl
def mc_impl_Graph_neighbors : MCode :=
 .seq
 (.reg [
 ⟨some 2, none, .box 2 (.t 0)⟩,
 ⟨some 4, none, .mov (.v (.nl 1))⟩] [1, 2])
 (.seq
 (.reg [
 ⟨some 8, none, .buildSlice 1 []⟩,
 ⟨some 5, none, .mov (.t 8)⟩] [1, 2, 5])
 (.seq
 (.seq
 (.reg [
 ⟨some 9, none, .fieldAddr 1 (.t 2)⟩,
 ⟨some 10, none, .load false 1 (.t 9)⟩,
 ⟨some 11, none, .len (.t 10)⟩,
 ⟨some 12, none, .mov (.v (.i .i64 0))⟩] [1, 5, 10, 11, 12])
 (.block 0
 (.loop [1, 5, 10, 11, 12]
 (.seq
 (.reg [
 ⟨some 13, none, .bin .lss (.t 12) (.t 11)⟩] [1, 5, 10, 11, 12, 13])
 (.seq
 (.cond (.t 13)
 (.skip)
 (.exit 0))
 (.seq
 (.block 1
 (.seq
 (.reg [
 ⟨some 14, none, .indexAddr 2 (.t 10) (.t 12)⟩,
 ⟨some 15, none, .load true 2 (.t 14)⟩,
 ⟨some 7, none, .alloc [.i .i64 0, .i .i64 0]⟩,
 ⟨none, none, .store 2 (.t 7) (.t 15)⟩] [1, 5, 7, 10, 11, 12])
 (.seq
 (.reg [
 ⟨some 16, none, .mov (.t 1)⟩] [1, 5, 7, 10, 11, 12, 16])
 (.block 2
 (.seq
 (.reg [
 ⟨some 18, none, .fieldAddr 0 (.t 7)⟩,
 ⟨some 19, none, .load false 1 (.t 18)⟩,
 ⟨some 20, none, .bin .eql (.t 16) (.t 19)⟩,
 ⟨some 17, none, .mov (.t 20)⟩] [1, 5, 7, 10, 11, 12, 16, 17])
 (.cond (.t 17)
 (.reg [
 ⟨some 21, none, .mov (.t 5)⟩,
 ⟨some 22, none, .fieldAddr 1 (.t 7)⟩,
 ⟨some 23, none, .load false 1 (.t 22)⟩,
 ⟨some 24, none, .buildSlice 1 [(.t 23)]⟩,
 ⟨some 25, none, .append 1 8 true (.t 21) (.t 24)⟩,
 ⟨some 5, none, .mov (.t 25)⟩] [1, 5, 10, 11, 12])
 (.seq
 (.reg [
 ⟨some 27, none, .fieldAddr 1 (.t 7)⟩,
 ⟨some 28, none, .load false 1 (.t 27)⟩,
 ⟨some 29, none, .bin .eql (.t 16) (.t 28)⟩,
 ⟨some 26, none, .mov (.t 29)⟩] [1, 5, 7, 10, 11, 12, 26])
 (.cond (.t 26)
 (.reg [
 ⟨some 30, none, .mov (.t 5)⟩,
 ⟨some 31, none, .fieldAddr 0 (.t 7)⟩,
 ⟨some 32, none, .load false 1 (.t 31)⟩,
 ⟨some 33, none, .buildSlice 1 [(.t 32)]⟩,
 ⟨some 34, none, .append 1 8 true (.t 30) (.t 33)⟩,
 ⟨some 5, none, .mov (.t 34)⟩] [1, 5, 10, 11, 12])
 (.skip)))))))))
 (.reg [
 ⟨some 35, none, .bin .add (.t 12) (.v (.i .i64 1))⟩,
 ⟨some 12, none, .mov (.t 35)⟩] [1, 5, 10, 11, 12])))))))
 (.seq
 (.reg [
 ⟨some 36, none, .mov (.t 5)⟩,
 ⟨some 37, none, .call fid_slices_Sort_int_int false [.im] [(.t 36)]⟩] [5])
 (.seq
 (.reg [
 ⟨some 38, none, .mov (.t 5)⟩,
 ⟨some 4, none, .mov (.t 38)⟩] [4])
 (.ret)))))
theorem get_impl_Graph_neighbors : prog.funcs[fid_impl_Graph_neighbors]? = some f108 := func108
theorem ok_impl_Graph_neighbors : okFn prog f108 39 [] [(4, none)] mc_impl_Graph_neighbors = true := by kernel_rfl
def mc_cmp_Or_int : MCode :=
 .seq
 (.reg [
 ⟨some 2, none, .mov (.v (.i .i64 0))⟩] [0])
 (.seq
 (.reg [
 ⟨some 3, none, .mov (.v (.i .i64 0))⟩] [0, 3])
 (.seq
 (.seq
 (.reg [
 ⟨some 6, none, .mov (.t 0)⟩,
 ⟨some 7, none, .len (.t 6)⟩,
 ⟨some 8, none, .mov (.v (.i .i64 0))⟩] [3, 6, 7, 8])
 (.block 0
 (.loop [3, 6, 7, 8]
 (.seq
 (.reg [
 ⟨some 9, none, .bin .lss (.t 8) (.t 7)⟩] [3, 6, 7, 8, 9])
 (.seq
 (.cond (.t 9)
 (.skip)
 (.exit 0))
 (.seq
 (.block 1
 (.seq
 (.reg [
 ⟨some 10, none, .indexAddr 1 (.t 6) (.t 8)⟩,
 ⟨some 11, none, .load false 1 (.t 10)⟩,
 ⟨some 5, none, .mov (.t 11)⟩] [3, 5, 6, 7, 8])
 (.seq
 (.reg [
 ⟨some 12, none, .mov (.t 5)⟩,
 ⟨some 13, none, .mov (.t 3)⟩,
 ⟨some 14, none, .bin .neq (.t 12) (.t 13)⟩] [3, 5, 6, 7, 8, 14])
 (.cond (.t 14)
 (.seq
 (.reg [
 ⟨some 15, none, .mov (.t 5)⟩,
 ⟨some 2, none, .mov (.t 15)⟩] [2])
 (.ret))
 (.skip)))))
 (.reg [
 ⟨some 16, none, .bin .add (.t 8) (.v (.i .i64 1))⟩,
 ⟨some 8, none, .mov (.t 16)⟩] [3, 6, 7, 8])))))))
 (.seq
 (.reg [
 ⟨some 17, none, .mov (.t 3)⟩,
 ⟨some 2, none, .mov (.t 17)⟩] [2])
 (.ret))))
theorem get_cmp_Or_int : prog.funcs[fid_cmp_Or_int]? = some f112 := func112
theorem ok_cmp_Or_int : okFn prog f112 18 [] [(2, none)] mc_cmp_Or_int = true := by kernel_rfl
def mc_cmp_Compare_int : MCode :=
 .seq
 (.reg [
 ⟨some 4, none, .mov (.v (.i .i64 0))⟩] [0, 1])
 (.seq
 (.reg [
 ⟨some 7, none, .mov (.t 0)⟩,
 ⟨some 8, none, .call fid_cmp_isNaN_int false [.im] [(.t 7)]⟩,
 ⟨some 5, none, .mov (.t 8)⟩] [0, 1, 5])
 (.seq
 (.reg [
 ⟨some 9, none, .mov (.t 1)⟩,
 ⟨some 10, none, .call fid_cmp_isNaN_int false [.im] [(.t 9)]⟩,
 ⟨some 6, none, .mov (.t 10)⟩] [0, 1, 5, 6])
 (.seq
 (.seq
 (.reg [
 ⟨some 11, none, .mov (.t 5)⟩] [0, 1, 6, 11])
 (.cond (.t 11)
 (.seq
 (.seq
 (.reg [
 ⟨some 12, none, .mov (.t 6)⟩] [12])
 (.cond (.t 12)
 (.seq
 (.reg [
 ⟨some 4, none, .mov (.v (.i .i64 0))⟩] [4])
 (.ret))
 (.skip)))
 (.seq
 (.reg [
 ⟨some 4, none, .mov (.v (.i .i64 (-1)))⟩] [4])
 (.ret)))
 (.skip)))
 (.seq
 (.seq
 (.reg [
 ⟨some 13, none, .mov (.t 6)⟩] [0, 1, 13])
 (.cond (.t 13)
 (.seq
 (.reg [
 ⟨some 4, none, .mov (.v (.i .i64 1))⟩] [4])
 (.ret))
 (.skip)))
 (.seq
 (.seq
 (.reg [
 ⟨some 14, none, .mov (.t 0)⟩,
 ⟨some 15, none, .mov (.t 1)⟩,
 ⟨some 16, none, .bin .lss (.t 14) (.t 15)⟩] [0, 1, 16])
 (.cond (.t 16)
 (.seq
 (.reg [
 ⟨some 4, none, .mov (.v (.i .i64 (-1)))⟩] [4])
 (.ret))
 (.skip)))
 (.seq
 (.seq
 (.reg [
 ⟨some 17, none, .mov (.t 0)⟩,
 ⟨some 18, none, .mov (.t 1)⟩,
 ⟨some 19, none, .bin .gtr (.t 17) (.t 18)⟩] [19])
 (.cond (.t 19)
 (.seq
 (.reg [
 ⟨some 4, none, .mov (.v (.i .i64 1))⟩] [4])
 (.ret))
 (.skip)))
 (.seq
 (.reg [
 ⟨some 4, none, .mov (.v (.i .i64 0))⟩] [4])
 (.ret))))))))
theorem get_cmp_Compare_int : prog.funcs[fid_cmp_Compare_int]? = some f113 := func113
theorem ok_cmp_Compare_int : okFn prog f113 20 [] [(4, none)] mc_cmp_Compare_int = true := by kernel_rfl
def mc_slices_IndexFunc_int_int : MCode :=
 .seq
 (.reg [
 ⟨some 4, none, .mov (.v (.i .i64 0))⟩] [0, 1])
 (.seq
 (.seq
 (.reg [
 ⟨some 6, none, .mov (.t 0)⟩,
 ⟨some 7, none, .len (.t 6)⟩,
 ⟨some 8, none, .mov (.v (.i .i64 0))⟩] [0, 1, 7, 8])
 (.block 0
 (.loop [0, 1, 7, 8]
 (.seq
 (.reg [
 ⟨some 9, none, .bin .lss (.t 8) (.t 7)⟩] [0, 1, 7, 8, 9])
 (.seq
 (.cond (.t 9)
 (.skip)
 (.exit 0))
 (.seq
 (.block 1
 (.seq
 (.reg [
 ⟨some 10, none, .mov (.t 8)⟩,
 ⟨some 5, none, .mov (.t 10)⟩] [0, 1, 5, 7, 8])
 (.seq
 (.reg [
 ⟨some 11, none, .mov (.t 1)⟩,
 ⟨some 12, none, .mov (.t 0)⟩,
 ⟨some 13, none, .mov (.t 5)⟩,
 ⟨some 14, none, .indexAddr 1 (.t 12) (.t 13)⟩,
 ⟨some 15, none, .load false 1 (.t 14)⟩,
 ⟨some 16, none, .callv (.t 11) [(.t 15)]⟩] [0, 1, 5, 7, 8, 16])
 (.cond (.t 16)
 (.seq
 (.reg [
 ⟨some 17, none, .mov (.t 5)⟩,
 ⟨some 4, none, .mov (.t 17)⟩] [4])
 (.ret))
 (.skip)))))
 (.reg [
 ⟨some 18, none, .bin .add (.t 8) (.v (.i .i64 1))⟩,
 ⟨some 8, none, .mov (.t 18)⟩] [0, 1, 7, 8])))))))
 (.seq
 (.reg [
 ⟨some 4, none, .mov (.v (.i .i64 (-1)))⟩] [4])
 (.ret)))
theorem get_slices_IndexFunc_int_int : prog.funcs[fid_slices_IndexFunc_int_int]? = some f114 := func114
theorem ok_slices_IndexFunc_int_int : okFn prog f114 19 [] [(4, none)] mc_slices_IndexFunc_int_int = true := by kernel_rfl
def mc_impl_Graph_cut : MCode :=
 .seq
 (.reg [
 ⟨some 2, none, .box 2 (.t 0)⟩,
 ⟨some 3, none, .box 2 (.t 1)⟩,
 ⟨some 4, none, .alloc [.i .i64 0, .nl 2]⟩] [2, 3, 4])
 (.seq
 (.reg [
 ⟨some 5, none, .load true 2 (.t 2)⟩,
 ⟨some 6, none, .mkfn fid_impl_Graph_cut_1 [] [(.t 3)]⟩,
 ⟨some 7, none, .call fid_impl_Graph_without false [.im, .fn] [(.t 5), (.t 6)]⟩,
 ⟨none, none, .store 2 (.t 4) (.t 7)⟩] [4])
 (.ret))
theorem get_impl_Graph_cut : prog.funcs[fid_impl_Graph_cut]? = some f115 := func115
theorem ok_impl_Graph_cut : okFn prog f115 8 [] [(4, some (true, 2))] mc_impl_Graph_cut = true := by kernel_rfl
def mc_impl_Graph_connected : MCode :=
 .seq
 (.reg [
 ⟨some 3, none, .box 2 (.t 0)⟩,
 ⟨some 6, none, .mov (.v (.b false))⟩] [1, 2, 3])
 (.seq
 (.reg [
 ⟨some 8, none, .load true 2 (.t 3)⟩,
 ⟨some 9, none, .call fid_impl_Graph_parts false [.im] [(.t 8)]⟩,
 ⟨some 7, none, .mov (.t 9)⟩] [1, 2, 7])
 (.seq
 (.draw [0, 0, 3, 7, 0, 0, 48, 112, 255, 511] [
 ⟨some 10, none, .mov (.t 7)⟩,
 ⟨some 11, none, .mov (.t 1)⟩,
 ⟨some 12, none, .indexAddr 1 (.t 10) (.t 11)⟩,
 ⟨some 13, none, .load false 1 (.t 12)⟩,
 ⟨some 14, none, .mov (.t 7)⟩,
 ⟨some 15, none, .mov (.t 2)⟩,
 ⟨some 16, none, .indexAddr 1 (.t 14) (.t 15)⟩,
 ⟨some 17, none, .load false 1 (.t 16)⟩,
 ⟨some 18, none, .bin .eql (.t 13) (.t 17)⟩,
 ⟨some 6, none, .mov (.t 18)⟩] [6])
 (.ret)))
theorem get_impl_Graph_connected : prog.funcs[fid_impl_Graph_connected]? = some f116 := func116
theorem ok_impl_Graph_connected : okFn prog f116 19 [] [(6, none)] mc_impl_Graph_connected = true := by kernel_rfl
def mc_slices_DeleteFunc_impl_Edge_impl_Edge : MCode :=
 .seq
 (.reg [
 ⟨some 4, none, .mov (.v (.nl 2))⟩] [0, 1])
 (.seq
 (.reg [
 ⟨some 8, none, .mov (.t 0)⟩,
 ⟨some 9, none, .mov (.t 1)⟩,
 ⟨some 10, none, .call fid_slices_IndexFunc_impl_Edge_impl_Edge false [.im, .fn] [(.t 8), (.t 9)]⟩,
 ⟨some 5, none, .mov (.t 10)⟩] [0, 1, 5])
 (.seq
 (.seq
 (.reg [
 ⟨some 11, none, .mov (.t 5)⟩,
 ⟨some 12, none, .bin .eql (.t 11) (.v (.i .i64 (-1)))⟩] [0, 1, 5, 12])
 (.cond (.t 12)
 (.seq
 (.reg [
 ⟨some 13, none, .mov (.t 0)⟩,
 ⟨some 4, none, .mov (.t 13)⟩] [4])
 (.ret))
 (.skip)))
 (.seq
 (.seq
 (.reg [
 ⟨some 14, none, .mov (.t 5)⟩,
 ⟨some 15, none, .bin .add (.t 14) (.v (.i .i64 1))⟩,
 ⟨some 6, none, .mov (.t 15)⟩] [0, 1, 5, 6])
 (.block 0
 (.loop [0, 1, 5, 6]
 (.seq
 (.seq
 (.reg [
 ⟨some 16, none, .mov (.t 6)⟩,
 ⟨some 17, none, .mov (.t 0)⟩,
 ⟨some 18, none, .len (.t 17)⟩,
 ⟨some 19, none, .bin .lss (.t 16) (.t 18)⟩] [0, 1, 5, 6, 19])
 (.cond (.t 19)
 (.skip)
 (.exit 0)))
 (.seq
 (.block 1
 (.seq
 (.reg [
 ⟨some 22, none, .mov (.t 0)⟩,
 ⟨some 23, none, .mov (.t 6)⟩,
 ⟨some 24, none, .indexAddr 2 (.t 22) (.t 23)⟩,
 ⟨some 25, none, .load true 2 (.t 24)⟩,
 ⟨some 7, none, .alloc [.i .i64 0, .i .i64 0]⟩,
 ⟨none, none, .store 2 (.t 7) (.t 25)⟩] [0, 1, 5, 6, 7])
 (.seq
 (.reg [
 ⟨some 26, none, .mov (.t 1)⟩,
 ⟨some 27, none, .load true 2 (.t 7)⟩,
 ⟨some 28, none, .callv (.t 26) [(.t 27)]⟩,
 ⟨some 29, none, .un .not (.t 28)⟩] [0, 1, 5, 6, 7, 29])
 (.cond (.t 29)
 (.seq
 (.reg [
 ⟨some 30, none, .mov (.t 0)⟩,
 ⟨some 31, none, .mov (.t 5)⟩,
 ⟨some 32, none, .load true 2 (.t 7)⟩,
 ⟨some 33, none, .indexAddr 2 (.t 30) (.t 31)⟩,
 ⟨none, none, .store 2 (.t 33) (.t 32)⟩] [0, 1, 5, 6])
 (.reg [
 ⟨some 34, none, .mov (.t 5)⟩,
 ⟨some 35, none, .bin .add (.t 34) (.v (.i .i64 1))⟩,
 ⟨some 5, none, .mov (.t 35)⟩] [0, 1, 5, 6]))
 (.skip)))))
 (.reg [
 ⟨some 20, none, .mov (.t 6)⟩,
 ⟨some 21, none, .bin .add (.t 20) (.v (.i .i64 1))⟩,
 ⟨some 6, none, .mov (.t 21)⟩] [0, 1, 5, 6]))))))
 (.seq
 (.reg [
 ⟨some 36, none, .mov (.t 0)⟩,
 ⟨some 37, none, .mov (.t 5)⟩,
 ⟨some 38, none, .slice 2 (.t 36) (some (.t 37)) none⟩,
 ⟨none, none, .clear 2 [.i .i64 0, .i .i64 0] (.t 38)⟩] [0, 5])
 (.seq
 (.reg [
 ⟨some 39, none, .mov (.t 0)⟩,
 ⟨some 40, none, .mov (.t 5)⟩,
 ⟨some 41, none, .slice 2 (.t 39) none (some (.t 40))⟩,
 ⟨some 4, none, .mov (.t 41)⟩] [4])
 (.ret))))))
theorem get_slices_DeleteFunc_impl_Edge_impl_Edge : prog.funcs[fid_slices_DeleteFunc_impl_Edge_impl_Edge]? = some f120 := func120
theorem ok_slices_DeleteFunc_impl_Edge_impl_Edge : okFn prog f120 42 [] [(4, none)] mc_slices_DeleteFunc_impl_Edge_impl_Edge = true := by kernel_rfl
def mc_slices_Clone_impl_Edge_impl_Edge : MCode :=
 .seq
 (.reg [
 ⟨some 2, none, .mov (.v (.nl 2))⟩] [0])
 (.seq
 (.seq
 (.reg [
 ⟨some 3, none, .mov (.t 0)⟩,
 ⟨some 4, none, .nilq false (.t 3)⟩] [0, 4])
 (.cond (.t 4)
 (.seq
 (.reg [
 ⟨some 2, none, .mov (.v (.nl 2))⟩] [2])
 (.ret))
 (.skip)))
 (.seq
 (.reg [
 ⟨some 5, none, .buildSlice 2 []⟩,
 ⟨some 6, none, .mov (.t 0)⟩,
 ⟨some 7, none, .append 2 16 false (.t 5) (.t 6)⟩,
 ⟨some 2, none, .mov (.t 7)⟩] [2])
 (.ret)))
theorem get_slices_Clone_impl_Edge_impl_Edge : prog.funcs[fid_slices_Clone_impl_Edge_impl_Edge]? = some f121 := func121
theorem ok_slices_Clone_impl_Edge_impl_Edge : okFn prog f121 8 [] [(2, none)] mc_slices_Clone_impl_Edge_impl_Edge = true := by kernel_rfl
def mc_slices_Index_impl_Edge_impl_Edge : MCode :=
 .seq
 (.reg [
 ⟨some 3, none, .box 2 (.t 1)⟩,
 ⟨some 4, none, .mov (.v (.i .i64 0))⟩] [0, 3])
 (.seq
 (.seq
 (.reg [
 ⟨some 6, none, .mov (.t 0)⟩,
 ⟨some 7, none, .len (.t 6)⟩,
 ⟨some 8, none, .mov (.v (.i .i64 0))⟩] [0, 3, 7, 8])
 (.block 0
 (.loop [0, 3, 7, 8]
 (.seq
 (.reg [
 ⟨some 9, none, .bin .lss (.t 8) (.t 7)⟩] [0, 3, 7, 8, 9])
 (.seq
 (.cond (.t 9)
 (.skip)
 (.exit 0))
 (.seq
 (.block 1
 (.seq
 (.reg [
 ⟨some 10, none, .mov (.t 8)⟩,
 ⟨some 5, none, .mov (.t 10)⟩] [0, 3, 5, 7, 8])
 (.seq
 (.draw [0, 0, 0, 6, 14, 31] [
 ⟨some 11, none, .load true 2 (.t 3)⟩,
 ⟨some 12, none, .mov (.t 0)⟩,
 ⟨some 13, none, .mov (.t 5)⟩,
 ⟨some 14, none, .indexAddr 2 (.t 12) (.t 13)⟩,
 ⟨some 15, none, .load true 2 (.t 14)⟩,
 ⟨some 16, none, .eqAgg false [true, true] (.t 11) (.t 15)⟩] [0, 3, 5, 7, 8, 16])
 (.cond (.t 16)
 (.seq
 (.reg [
 ⟨some 17, none, .mov (.t 5)⟩,
 ⟨some 4, none, .mov (.t 17)⟩] [4])
 (.ret))
 (.skip)))))
 (.reg [
 ⟨some 18, none, .bin .add (.t 8) (.v (.i .i64 1))⟩,
 ⟨some 8, none, .mov (.t 18)⟩] [0, 3, 7, 8])))))))
 (.seq
 (.reg [
 ⟨some 4, none, .mov (.v (.i .i64 (-1)))⟩] [4])
 (.ret)))
theorem get_slices_Index_impl_Edge_impl_Edge : prog.funcs[fid_slices_Index_impl_Edge_impl_Edge]? = some f122 := func122
theorem ok_slices_Index_impl_Edge_impl_Edge : okFn prog f122 19 [] [(4, none)] mc_slices_Index_impl_Edge_impl_Edge = true := by kernel_rfl
def mc_math_bits_Len : MCode :=
 .seq
 (.reg [
 ⟨some 2, none, .mov (.v (.i .i64 0))⟩] [0])
 (.seq
 (.cond (.v (.b false))
 (.seq
 (.reg [
 ⟨some 3, none, .mov (.t 0)⟩,
 ⟨some 4, none, .conv .u32 (.t 3)⟩,
 ⟨some 5, none, .call fid_math_bits_Len32 false [.im] [(.t 4)]⟩,
 ⟨some 2, none, .mov (.t 5)⟩] [2])
 (.ret))
 (.skip))
 (.seq
 (.reg [
 ⟨some 6, none, .mov (.t 0)⟩,
 ⟨some 7, none, .call fid_math_bits_Len64 false [.im] [(.t 6)]⟩,
 ⟨some 2, none, .mov (.t 7)⟩] [2])
 (.ret)))
theorem get_math_bits_Len : prog.funcs[fid_math_bits_Len]? = some f129 := func129
theorem ok_math_bits_Len : okFn prog f129 8 [] [(2, none)] mc_math_bits_Len = true := by kernel_rfl
def mc_impl_Graph_edgesBy_1 : MCode :=
 .seq
 (.reg [
 ⟨some 2, none, .box 2 (.t 0)⟩,
 ⟨some 3, none, .mov (.v (.b false))⟩] [1, 2])
 (.seq
 (.reg [
 ⟨some 4, none, .load false 1 (.t 1)⟩,
 ⟨some 5, none, .load true 2 (.t 2)⟩,
 ⟨some 6, none, .callv (.t 4) [(.t 5)]⟩,
 ⟨some 7, none, .un .not (.t 6)⟩,
 ⟨some 3, none, .mov (.t 7)⟩] [3])
 (.ret))
theorem get_impl_Graph_edgesBy_1 : prog.funcs[fid_impl_Graph_edgesBy_1]? = some f130 := func130
theorem ok_impl_Graph_edgesBy_1 : okFn prog f130 8 [] [(3, none)] mc_impl_Graph_edgesBy_1 = true := by kernel_rfl
def mc_impl_Graph_nodesBy : MCode :=
 .seq
 (.reg [
 ⟨some 2, none, .box 2 (.t 0)⟩,
 ⟨some 4, none, .mov (.v (.nl 1))⟩] [1, 2])
 (.seq
 (.reg [
 ⟨some 7, none, .buildSlice 1 []⟩,
 ⟨some 5, none, .mov (.t 7)⟩] [1, 2, 5])
 (.seq
 (.seq
 (.reg [
 ⟨some 8, none, .fieldAddr 0 (.t 2)⟩,
 ⟨some 9, none, .load false 1 (.t 8)⟩,
 ⟨some 10, none, .mov (.v (.i .i64 0))⟩] [1, 5, 9, 10])
 (.block 0
 (.loop [1, 5, 9, 10]
 (.seq
 (.reg [
 ⟨some 11, none, .bin .lss (.t 10) (.t 9)⟩] [1, 5, 9, 10, 11])
 (.seq
 (.cond (.t 11)
 (.skip)
 (.exit 0))
 (.seq
 (.block 1
 (.seq
 (.reg [
 ⟨some 12, none, .mov (.t 10)⟩,
 ⟨some 6, none, .mov (.t 12)⟩] [1, 5, 6, 9, 10])
 (.seq
 (.reg [
 ⟨some 13, none, .mov (.t 1)⟩,
 ⟨some 14, none, .mov (.t 6)⟩,
 ⟨some 15, none, .callv (.t 13) [(.t 14)]⟩] [1, 5, 6, 9, 10, 15])
 (.cond (.t 15)
 (.reg [
 ⟨some 16, none, .mov (.t 5)⟩,
 ⟨some 17, none, .mov (.t 6)⟩,
 ⟨some 18, none, .buildSlice 1 [(.t 17)]⟩,
 ⟨some 19, none, .append 1 8 true (.t 16) (.t 18)⟩,
 ⟨some 5, none, .mov (.t 19)⟩] [1, 5, 9, 10])
 (.skip)))))
 (.reg [
 ⟨some 20, none, .bin .add (.t 10) (.v (.i .i64 1))⟩,
 ⟨some 10, none, .mov (.t 20)⟩] [1, 5, 9, 10])))))))
 (.seq
 (.reg [
 ⟨some 21, none, .mov (.t 5)⟩,
 ⟨some 4, none, .mov (.t 21)⟩] [4])
 (.ret))))
theorem get_impl_Graph_nodesBy : prog.funcs[fid_impl_Graph_nodesBy]? = some f132 := func132
theorem ok_impl_Graph_nodesBy : okFn prog f132 22 [] [(4, none)] mc_impl_Graph_nodesBy = true := by kernel_rfl
def mc_impl_Graph_isCutNode : MCode :=
 .seq
 (.reg [
 ⟨some 2, none, .box 2 (.t 0)⟩,
 ⟨some 4, none, .mov (.v (.b false))⟩] [1, 2])
 (.seq
 (.draw [0, 0, 3, 7, 0, 0, 63, 0, 0, 511, 1023] [
 ⟨some 7, none, .load true 2 (.t 2)⟩,
 ⟨some 8, none, .mov (.t 1)⟩,
 ⟨some 9, none, .call fid_impl_Graph_cutNode false [.im, .im] [(.t 7), (.t 8)]⟩,
 ⟨some 10, none, .call fid_impl_Graph_parts false [.im] [(.t 9)]⟩,
 ⟨some 11, none, .load true 2 (.t 2)⟩,
 ⟨some 12, none, .mov (.t 1)⟩,
 ⟨some 13, none, .call fid_impl_Graph_neighbors false [.im, .im] [(.t 11), (.t 12)]⟩,
 ⟨some 5, none, .alloc [.nl 1]⟩,
 ⟨some 6, none, .alloc [.nl 1]⟩,
 ⟨none, none, .store 1 (.t 5) (.t 10)⟩,
 ⟨none, none, .store 1 (.t 6) (.t 13)⟩] [5, 6])
 (.seq
 (.reg [
 ⟨some 14, none, .load false 1 (.t 6)⟩,
 ⟨some 15, none, .mkfn fid_impl_Graph_isCutNode_1 [] [(.t 5), (.t 6)]⟩,
 ⟨some 16, none, .call fid_slices_ContainsFunc_int_int false [.im, .fn] [(.t 14), (.t 15)]⟩,
 ⟨some 4, none, .mov (.t 16)⟩] [4])
 (.ret)))
theorem get_impl_Graph_isCutNode : prog.funcs[fid_impl_Graph_isCutNode]? = some f133 := func133
theorem ok_impl_Graph_isCutNode : okFn prog f133 17 [] [(4, none)] mc_impl_Graph_isCutNode = true := by kernel_rfl
def mc_impl_Graph_reach : MCode :=
 .seq
 (.reg [
 ⟨some 3, none, .box 2 (.t 0)⟩,
 ⟨some 6, none, .mov (.v (.nl 1))⟩,
 ⟨some 7, none, .mov (.v (.nl 1))⟩] [1, 2, 3])
 (.seq
 (.reg [
 ⟨some 13, none, .buildSlice 1 [(.v (.i .i64 (-1)))]⟩,
 ⟨some 14, none, .fieldAddr 0 (.t 3)⟩,
 ⟨some 15, none, .load false 1 (.t 14)⟩,
 ⟨some 16, none, .call fid_slices_Repeat_int_int false [.im, .im] [(.t 13), (.t 15)]⟩,
 ⟨some 8, none, .mov (.t 16)⟩] [1, 2, 3, 8])
 (.seq
 (.reg [
 ⟨some 17, none, .mov (.t 1)⟩,
 ⟨some 18, none, .buildSlice 1 [(.t 17)]⟩,
 ⟨some 9, none, .mov (.t 18)⟩] [1, 2, 3, 8, 9])
 (.seq
 (.reg [
 ⟨some 19, none, .mov (.t 8)⟩,
 ⟨some 20, none, .mov (.t 1)⟩,
 ⟨some 21, none, .mov (.t 1)⟩,
 ⟨some 22, none, .indexAddr 1 (.t 19) (.t 20)⟩,
 ⟨none, none, .store 1 (.t 22) (.t 21)⟩] [2, 3, 8, 9])
 (.seq
 (.seq
 (.reg [
 ⟨some 10, none, .mov (.v (.i .i64 0))⟩] [2, 3, 8, 9, 10])
 (.block 0
 (.loop [2, 3, 8, 9, 10]
 (.seq
 (.seq
 (.reg [
 ⟨some 23, none, .mov (.t 10)⟩,
 ⟨some 24, none, .mov (.t 9)⟩,
 ⟨some 25, none, .len (.t 24)⟩,
 ⟨some 26, none, .bin .lss (.t 23) (.t 25)⟩] [2, 3, 8, 9, 10, 26])
 (.cond (.t 26)
 (.skip)
 (.exit 0)))
 (.seq
 (.block 1
 (.seq
 (.draw [0, 0, 0, 6, 14, 31, 63, 0] [
 ⟨some 29, none, .load true 2 (.t 3)⟩,
 ⟨some 30, none, .mov (.t 9)⟩,
 ⟨some 31, none, .mov (.t 10)⟩,
 ⟨some 32, none, .indexAddr 1 (.t 30) (.t 31)⟩,
 ⟨some 33, none, .load false 1 (.t 32)⟩,
 ⟨some 34, none, .call fid_impl_Graph_neighbors false [.im, .im] [(.t 29), (.t 33)]⟩,
 ⟨some 35, none, .len (.t 34)⟩,
 ⟨some 36, none, .mov (.v (.i .i64 0))⟩] [2, 3, 8, 9, 10, 34, 35, 36])
 (.block 2
 (.loop [2, 3, 8, 9, 10, 34, 35, 36]
 (.seq
 (.reg [
 ⟨some 37, none, .bin .lss (.t 36) (.t 35)⟩] [2, 3, 8, 9, 10, 34, 35, 36, 37])
 (.seq
 (.cond (.t 37)
 (.skip)
 (.exit 2))
 (.seq
 (.block 3
 (.seq
 (.reg [
 ⟨some 38, none, .indexAddr 1 (.t 34) (.t 36)⟩,
 ⟨some 39, none, .load false 1 (.t 38)⟩,
 ⟨some 12, none, .mov (.t 39)⟩] [2, 3, 8, 9, 10, 12, 34, 35, 36])
 (.seq
 (.reg [
 ⟨some 40, none, .mov (.t 8)⟩,
 ⟨some 41, none, .mov (.t 12)⟩,
 ⟨some 42, none, .indexAddr 1 (.t 40) (.t 41)⟩,
 ⟨some 43, none, .load false 1 (.t 42)⟩,
 ⟨some 44, none, .bin .lss (.t 43) (.v (.i .i64 0))⟩,
 ⟨some 45, none, .mov (.t 44)⟩,
 ⟨some 46, (some (45, true)), .mov (.t 2)⟩,
 ⟨some 47, (some (45, true)), .mov (.t 9)⟩,
 ⟨some 48, (some (45, true)), .mov (.t 10)⟩,
 ⟨some 49, (some (45, true)), .indexAddr 1 (.t 47) (.t 48)⟩,
 ⟨some 50, (some (45, true)), .load false 1 (.t 49)⟩,
 ⟨some 51, (some (45, true)), .mov (.t 12)⟩,
 ⟨some 52, (some (45, true)), .callv (.t 46) [(.t 50), (.t 51)]⟩,
 ⟨some 53, none, .pick (.t 45) (.t 52) (.v (.b false))⟩] [2, 3, 8, 9, 10, 12, 34, 35, 36, 53])
 (.cond (.t 53)
 (.seq
 (.reg [
 ⟨some 54, none, .mov (.t 8)⟩,
 ⟨some 55, none, .mov (.t 12)⟩,
 ⟨some 56, none, .mov (.t 9)⟩,
 ⟨some 57, none, .mov (.t 10)⟩,
 ⟨some 58, none, .indexAddr 1 (.t 56) (.t 57)⟩,
 ⟨some 59, none, .load false 1 (.t 58)⟩,
 ⟨some 60, none, .indexAddr 1 (.t 54) (.t 55)⟩,
 ⟨none, none, .store 1 (.t 60) (.t 59)⟩] [2, 3, 8, 9, 10, 12, 34, 35, 36])
 (.reg [
 ⟨some 61, none, .mov (.t 9)⟩,
 ⟨some 62, none, .mov (.t 12)⟩,
 ⟨some 63, none, .buildSlice 1 [(.t 62)]⟩,
 ⟨some 64, none, .append 1 8 true (.t 61) (.t 63)⟩,
 ⟨some 9, none, .mov (.t 64)⟩] [2, 3, 8, 9, 10, 34, 35, 36]))
 (.skip)))))
 (.reg [
 ⟨some 65, none, .bin .add (.t 36) (.v (.i .i64 1))⟩,
 ⟨some 36, none, .mov (.t 65)⟩] [2, 3, 8, 9, 10, 34, 35, 36]))))))))
 (.reg [
 ⟨some 27, none, .mov (.t 10)⟩,
 ⟨some 28, none, .bin .add (.t 27) (.v (.i .i64 1))⟩,
 ⟨some 10, none, .mov (.t 28)⟩] [2, 3, 8, 9, 10]))))))
 (.seq
 (.reg [
 ⟨some 66, none, .mov (.t 9)⟩,
 ⟨some 67, none, .mov (.t 8)⟩,
 ⟨some 6, none, .mov (.t 66)⟩,
 ⟨some 7, none, .mov (.t 67)⟩] [6, 7])
 (.ret))))))
theorem get_impl_Graph_reach : prog.funcs[fid_impl_Graph_reach]? = some f136 := func136
theorem ok_impl_Graph_reach : okFn prog f136 68 [] [(6, none), (7, none)] mc_impl_Graph_reach = true := by kernel_rfl
def mc_impl_Graph_flow_1 : MCode :=
 .seq
 (.reg [
 ⟨some 5, none, .mov (.v (.b false))⟩] [0, 1, 2])
 (.seq
 (.reg [
 ⟨some 6, none, .mov (.t 0)⟩,
 ⟨some 7, none, .mov (.t 1)⟩,
 ⟨some 8, none, .arrAddr 16 16 (.t 2) (.t 6)⟩,
 ⟨some 9, none, .arrAddr 16 1 (.t 8) (.t 7)⟩,
 ⟨some 10, none, .load false 1 (.t 9)⟩,
 ⟨some 11, none, .un .not (.t 10)⟩,
 ⟨some 5, none, .mov (.t 11)⟩] [5])
 (.ret))
theorem get_impl_Graph_flow_1 : prog.funcs[fid_impl_Graph_flow_1]? = some f137 := func137
theorem ok_impl_Graph_flow_1 : okFn prog f137 12 [] [(5, none)] mc_impl_Graph_flow_1 = true := by kernel_rfl
def mc_impl_way : MCode :=
 .seq
 (.reg [
 ⟨some 6, none, .mov (.v (.nl 1))⟩,
 ⟨some 7, none, .mov (.v (.b false))⟩] [0, 1, 2])
 (.seq
 (.seq
 (.reg [
 ⟨some 9, none, .mov (.t 0)⟩,
 ⟨some 10, none, .mov (.t 2)⟩,
 ⟨some 11, none, .indexAddr 1 (.t 9) (.t 10)⟩,
 ⟨some 12, none, .load false 1 (.t 11)⟩,
 ⟨some 13, none, .bin .lss (.t 12) (.v (.i .i64 0))⟩] [0, 1, 2, 13])
 (.cond (.t 13)
 (.seq
 (.reg [
 ⟨some 6, none, .mov (.v (.nl 1))⟩,
 ⟨some 7, none, .mov (.v (.b false))⟩] [6, 7])
 (.ret))
 (.skip)))
 (.seq
 (.reg [
 ⟨some 14, none, .mov (.t 2)⟩,
 ⟨some 15, none, .buildSlice 1 [(.t 14)]⟩,
 ⟨some 8, none, .mov (.t 15)⟩] [0, 1, 2, 8])
 (.seq
 (.block 0
 (.loop [0, 1, 2, 8]
 (.seq
 (.seq
 (.reg [
 ⟨some 16, none, .mov (.t 2)⟩,
 ⟨some 17, none, .mov (.t 1)⟩,
 ⟨some 18, none, .bin .neq (.t 16) (.t 17)⟩] [0, 1, 2, 8, 18])
 (.cond (.t 18)
 (.skip)
 (.exit 0)))
 (.block 1
 (.seq
 (.reg [
 ⟨some 19, none, .mov (.t 0)⟩,
 ⟨some 20, none, .mov (.t 2)⟩,
 ⟨some 21, none, .indexAddr 1 (.t 19) (.t 20)⟩,
 ⟨some 22, none, .load false 1 (.t 21)⟩,
 ⟨some 2, none, .mov (.t 22)⟩] [0, 1, 2, 8])
 (.reg [
 ⟨some 23, none, .mov (.t 8)⟩,
 ⟨some 24, none, .mov (.t 2)⟩,
 ⟨some 25, none, .buildSlice 1 [(.t 24)]⟩,
 ⟨some 26, none, .append 1 8 true (.t 23) (.t 25)⟩,
 ⟨some 8, none, .mov (.t 26)⟩] [0, 1, 2, 8]))))))
 (.seq
 (.reg [
 ⟨some 27, none, .mov (.t 8)⟩,
 ⟨some 28, none, .call fid_slices_Reverse_int_int false [.io] [(.t 27)]⟩] [8])
 (.seq
 (.reg [
 ⟨some 29, none, .mov (.t 8)⟩,
 ⟨some 6, none, .mov (.t 29)⟩,
 ⟨some 7, none, .mov (.v (.b true))⟩] [6, 7])
 (.ret))))))
theorem get_impl_way : prog.funcs[fid_impl_way]? = some f138 := func138
theorem ok_impl_way : okFn prog f138 30 [] [(6, none), (7, none)] mc_impl_way = true := by kernel_rfl
def mc_impl_common : MCode :=
 .seq
 (.reg [
 ⟨some 2, none, .box 2 (.t 0)⟩,
 ⟨some 3, none, .box 2 (.t 1)⟩,
 ⟨some 4, none, .mov (.v (.i .i64 0))⟩,
 ⟨some 5, none, .mov (.v (.i .i64 0))⟩,
 ⟨some 6, none, .mov (.v (.i .i64 0))⟩,
 ⟨some 7, none, .mov (.v (.b false))⟩] [2, 3])
 (.seq
 (.block 0
 (.seq
 (.reg [
 ⟨some 9, none, .fieldAddr 0 (.t 2)⟩,
 ⟨some 10, none, .load false 1 (.t 9)⟩,
 ⟨some 11, none, .fieldAddr 0 (.t 3)⟩,
 ⟨some 12, none, .load false 1 (.t 11)⟩,
 ⟨some 13, none, .bin .eql (.t 10) (.t 12)⟩,
 ⟨some 8, none, .mov (.t 13)⟩] [2, 3, 8])
 (.cond (.t 8)
 (.seq
 (.draw [0, 1, 0, 4, 0, 16, 3, 79, 255, 511] [
 ⟨some 14, none, .fieldAddr 0 (.t 2)⟩,
 ⟨some 15, none, .load false 1 (.t 14)⟩,
 ⟨some 16, none, .fieldAddr 1 (.t 2)⟩,
 ⟨some 17, none, .load false 1 (.t 16)⟩,
 ⟨some 18, none, .fieldAddr 1 (.t 3)⟩,
 ⟨some 19, none, .load false 1 (.t 18)⟩,
 ⟨some 4, none, .mov (.t 15)⟩,
 ⟨some 5, none, .mov (.t 17)⟩,
 ⟨some 6, none, .mov (.t 19)⟩,
 ⟨some 7, none, .mov (.v (.b true))⟩] [4, 5, 6, 7])
 (.ret))
 (.seq
 (.reg [
 ⟨some 21, none, .fieldAddr 0 (.t 2)⟩,
 ⟨some 22, none, .load false 1 (.t 21)⟩,
 ⟨some 23, none, .fieldAddr 1 (.t 3)⟩,
 ⟨some 24, none, .load false 1 (.t 23)⟩,
 ⟨some 25, none, .bin .eql (.t 22) (.t 24)⟩,
 ⟨some 20, none, .mov (.t 25)⟩] [2, 3, 20])
 (.cond (.t 20)
 (.seq
 (.draw [0, 1, 0, 4, 0, 16, 3, 79, 255, 511] [
 ⟨some 26, none, .fieldAddr 0 (.t 2)⟩,
 ⟨some 27, none, .load false 1 (.t 26)⟩,
 ⟨some 28, none, .fieldAddr 1 (.t 2)⟩,
 ⟨some 29, none, .load false 1 (.t 28)⟩,
 ⟨some 30, none, .fieldAddr 0 (.t 3)⟩,
 ⟨some 31, none, .load false 1 (.t 30)⟩,
 ⟨some 4, none, .mov (.t 27)⟩,
 ⟨some 5, none, .mov (.t 29)⟩,
 ⟨some 6, none, .mov (.t 31)⟩,
 ⟨some 7, none, .mov (.v (.b true))⟩] [4, 5, 6, 7])
 (.ret))
 (.seq
 (.reg [
 ⟨some 33, none, .fieldAddr 1 (.t 2)⟩,
 ⟨some 34, none, .load false 1 (.t 33)⟩,
 ⟨some 35, none, .fieldAddr 0 (.t 3)⟩,
 ⟨some 36, none, .load false 1 (.t 35)⟩,
 ⟨some 37, none, .bin .eql (.t 34) (.t 36)⟩,
 ⟨some 32, none, .mov (.t 37)⟩] [2, 3, 32])
 (.cond (.t 32)
 (.seq
 (.draw [0, 1, 0, 4, 0, 16, 3, 79, 255, 511] [
 ⟨some 38, none, .fieldAddr 1 (.t 2)⟩,
 ⟨some 39, none, .load false 1 (.t 38)⟩,
 ⟨some 40, none, .fieldAddr 0 (.t 2)⟩,
 ⟨some 41, none, .load false 1 (.t 40)⟩,
 ⟨some 42, none, .fieldAddr 1 (.t 3)⟩,
 ⟨some 43, none, .load false 1 (.t 42)⟩,
 ⟨some 4, none, .mov (.t 39)⟩,
 ⟨some 5, none, .mov (.t 41)⟩,
 ⟨some 6, none, .mov (.t 43)⟩,
 ⟨some 7, none, .mov (.v (.b true))⟩] [4, 5, 6, 7])
 (.ret))
 (.seq
 (.reg [
 ⟨some 45, none, .fieldAddr 1 (.t 2)⟩,
 ⟨some 46, none, .load false 1 (.t 45)⟩,
 ⟨some 47, none, .fieldAddr 1 (.t 3)⟩,
 ⟨some 48, none, .load false 1 (.t 47)⟩,
 ⟨some 49, none, .bin .eql (.t 46) (.t 48)⟩,
 ⟨some 44, none, .mov (.t 49)⟩] [2, 3, 44])
 (.cond (.t 44)
 (.seq
 (.draw [0, 1, 0, 4, 0, 16, 3, 79, 255, 511] [
 ⟨some 50, none, .fieldAddr 1 (.t 2)⟩,
 ⟨some 51, none, .load false 1 (.t 50)⟩,
 ⟨some 52, none, .fieldAddr 0 (.t 2)⟩,
 ⟨some 53, none, .load false 1 (.t 52)⟩,
 ⟨some 54, none, .fieldAddr 0 (.t 3)⟩,
 ⟨some 55, none, .load false 1 (.t 54)⟩,
 ⟨some 4, none, .mov (.t 51)⟩,
 ⟨some 5, none, .mov (.t 53)⟩,
 ⟨some 6, none, .mov (.t 55)⟩,
 ⟨some 7, none, .mov (.v (.b true))⟩] [4, 5, 6, 7])
 (.ret))
 (.skip))))))))))
 (.seq
 (.reg [
 ⟨some 4, none, .mov (.v (.i .i64 0))⟩,
 ⟨some 5, none, .mov (.v (.i .i64 0))⟩,
 ⟨some 6, none, .mov (.v (.i .i64 0))⟩,
 ⟨some 7, none, .mov (.v (.b false))⟩] [4, 5, 6, 7])
 (.ret)))
theorem get_impl_common : prog.funcs[fid_impl_common]? = some f139 := func139
theorem ok_impl_common : okFn prog f139 56 [] [(4, none), (5, none), (6, none), (7, none)] mc_impl_common = true := by kernel_rfl
def mc_impl_Graph_cutNode : MCode :=
 .seq
 (.reg [
 ⟨some 2, none, .box 2 (.t 0)⟩,
 ⟨some 3, none, .box 1 (.t 1)⟩,
 ⟨some 4, none, .alloc [.i .i64 0, .nl 2]⟩] [2, 3, 4])
 (.seq
 (.reg [
 ⟨some 5, none, .load true 2 (.t 2)⟩,
 ⟨some 6, none, .mkfn fid_impl_Graph_cutNode_1 [] [(.t 3)]⟩,
 ⟨some 7, none, .call fid_impl_Graph_without false [.im, .fn] [(.t 5), (.t 6)]⟩,
 ⟨none, none, .store 2 (.t 4) (.t 7)⟩] [4])
 (.ret))
theorem get_impl_Graph_cutNode : prog.funcs[fid_impl_Graph_cutNode]? = some f140 := func140
theorem ok_impl_Graph_cutNode : okFn prog f140 8 [] [(4, some (true, 2))] mc_impl_Graph_cutNode = true := by kernel_rfl
def mc_slices_Sort_int_int : MCode :=
 .seq
 (.reg [
 ⟨some 3, none, .mov (.t 0)⟩,
 ⟨some 4, none, .len (.t 3)⟩,
 ⟨some 2, none, .mov (.t 4)⟩] [0, 2])
 (.reg [
 ⟨some 5, none, .mov (.t 0)⟩,
 ⟨some 6, none, .mov (.t 2)⟩,
 ⟨some 7, none, .mov (.t 2)⟩,
 ⟨some 8, none, .conv .u64 (.t 7)⟩,
 ⟨some 9, none, .call fid_math_bits_Len false [.im] [(.t 8)]⟩,
 ⟨some 10, none, .call fid_slices_pdqsortOrdered_int false [.im, .im, .im, .im] [(.t 5), (.v (.i .i64 0)), (.t 6), (.t 9)]⟩] [])
theorem get_slices_Sort_int_int : prog.funcs[fid_slices_Sort_int_int]? = some f143 := func143
theorem ok_slices_Sort_int_int : okFn prog f143 11 [] [] mc_slices_Sort_int_int = true := by kernel_rfl
def mc_cmp_isNaN_int : MCode :=
 .seq
 (.reg [
 ⟨some 2, none, .mov (.v (.b false))⟩] [0])
 (.seq
 (.reg [
 ⟨some 3, none, .mov (.t 0)⟩,
 ⟨some 4, none, .mov (.t 0)⟩,
 ⟨some 5, none, .bin .neq (.t 3) (.t 4)⟩,
 ⟨some 2, none, .mov (.t 5)⟩] [2])
 (.ret))
theorem get_cmp_isNaN_int : prog.funcs[fid_cmp_isNaN_int]? = some f144 := func144
theorem ok_cmp_isNaN_int : okFn prog f144 6 [] [(2, none)] mc_cmp_isNaN_int = true := by kernel_rfl
def mc_impl_Graph_cut_1 : MCode :=
 .seq
 (.reg [
 ⟨some 2, none, .box 2 (.t 0)⟩,
 ⟨some 3, none, .mov (.v (.b false))⟩] [1, 2])
 (.seq
 (.reg [
 ⟨some 4, none, .load true 2 (.t 2)⟩,
 ⟨some 5, none, .load true 2 (.t 1)⟩,
 ⟨some 6, none, .eqAgg false [true, true] (.t 4) (.t 5)⟩,
 ⟨some 3, none, .mov (.t 6)⟩] [3])
 (.ret))
theorem get_impl_Graph_cut_1 : prog.funcs[fid_impl_Graph_cut_1]? = some f145 := func145
theorem ok_impl_Graph_cut_1 : okFn prog f145 7 [] [(3, none)] mc_impl_Graph_cut_1 = true := by kernel_rfl
def mc_slices_IndexFunc_impl_Edge_impl_Edge : MCode :=
 .seq
 (.reg [
 ⟨some 4, none, .mov (.v (.i .i64 0))⟩] [0, 1])
 (.seq
 (.seq
 (.reg [
 ⟨some 6, none, .mov (.t 0)⟩,
 ⟨some 7, none, .len (.t 6)⟩,
 ⟨some 8, none, .mov (.v (.i .i64 0))⟩] [0, 1, 7, 8])
 (.block 0
 (.loop [0, 1, 7, 8]
 (.seq
 (.reg [
 ⟨some 9, none, .bin .lss (.t 8) (.t 7)⟩] [0, 1, 7, 8, 9])
 (.seq
 (.cond (.t 9)
 (.skip)
 (.exit 0))
 (.seq
 (.block 1
 (.seq
 (.reg [
 ⟨some 10, none, .mov (.t 8)⟩,
 ⟨some 5, none, .mov (.t 10)⟩] [0, 1, 5, 7, 8])
 (.seq
 (.reg [
 ⟨some 11, none, .mov (.t 1)⟩,
 ⟨some 12, none, .mov (.t 0)⟩,
 ⟨some 13, none, .mov (.t 5)⟩,
 ⟨some 14, none, .indexAddr 2 (.t 12) (.t 13)⟩,
 ⟨some 15, none, .load true 2 (.t 14)⟩,
 ⟨some 16, none, .callv (.t 11) [(.t 15)]⟩] [0, 1, 5, 7, 8, 16])
 (.cond (.t 16)
 (.seq
 (.reg [
 ⟨some 17, none, .mov (.t 5)⟩,
 ⟨some 4, none, .mov (.t 17)⟩] [4])
 (.ret))
 (.skip)))))
 (.reg [
 ⟨some 18, none, .bin .add (.t 8) (.v (.i .i64 1))⟩,
 ⟨some 8, none, .mov (.t 18)⟩] [0, 1, 7, 8])))))))
 (.seq
 (.reg [
 ⟨some 4, none, .mov (.v (.i .i64 (-1)))⟩] [4])
 (.ret)))
theorem get_slices_IndexFunc_impl_Edge_impl_Edge : prog.funcs[fid_slices_IndexFunc_impl_Edge_impl_Edge]? = some f147 := func147
theorem ok_slices_IndexFunc_impl_Edge_impl_Edge : okFn prog f147 19 [] [(4, none)] mc_slices_IndexFunc_impl_Edge_impl_Edge = true := by kernel_rfl
def mc_math_bits_Len64 : MCode :=
 .seq
 (.reg [
 ⟨some 2, none, .mov (.v (.i .i64 0))⟩] [0, 2])
 (.seq
 (.seq
 (.reg [
 ⟨some 3, none, .mov (.t 0)⟩,
 ⟨some 4, none, .bin .geq (.t 3) (.v (.i .u64 4294967296))⟩] [0, 2, 4])
 (.cond (.t 4)
 (.seq
 (.reg [
 ⟨some 5, none, .mov (.t 0)⟩,
 ⟨some 6, none, .bin .shr (.t 5) (.v (.i .u64 32))⟩,
 ⟨some 0, none, .mov (.t 6)⟩] [0])
 (.reg [
 ⟨some 2, none, .mov (.v (.i .i64 32))⟩] [0, 2]))
 (.skip)))
 (.seq
 (.seq
 (.reg [
 ⟨some 7, none, .mov (.t 0)⟩,
 ⟨some 8, none, .bin .geq (.t 7) (.v (.i .u64 65536))⟩] [0, 2, 8])
 (.cond (.t 8)
 (.seq
 (.reg [
 ⟨some 9, none, .mov (.t 0)⟩,
 ⟨some 10, none, .bin .shr (.t 9) (.v (.i .u64 16))⟩,
 ⟨some 0, none, .mov (.t 10)⟩] [0, 2])
 (.reg [
 ⟨some 11, none, .mov (.t 2)⟩,
 ⟨some 12, none, .bin .add (.t 11) (.v (.i .i64 16))⟩,
 ⟨some 2, none, .mov (.t 12)⟩] [0, 2]))
 (.skip)))
 (.seq
 (.seq
 (.reg [
 ⟨some 13, none, .mov (.t 0)⟩,
 ⟨some 14, none, .bin .geq (.t 13) (.v (.i .u64 256))⟩] [0, 2, 14])
 (.cond (.t 14)
 (.seq
 (.reg [
 ⟨some 15, none, .mov (.t 0)⟩,
 ⟨some 16, none, .bin .shr (.t 15) (.v (.i .u64 8))⟩,
 ⟨some 0, none, .mov (.t 16)⟩] [0, 2])
 (.reg [
 ⟨some 17, none, .mov (.t 2)⟩,
 ⟨some 18, none, .bin .add (.t 17) (.v (.i .i64 8))⟩,
 ⟨some 2, none, .mov (.t 18)⟩] [0, 2]))
 (.skip)))
 (.seq
 (.reg [
 ⟨some 19, none, .mov (.t 2)⟩,
 ⟨some 20, none, .mov (.t 0)⟩,
 ⟨some 21, none, .conv .u8 (.t 20)⟩,
 ⟨some 22, none, .strIdx [0, 1, 2, 2, 3, 3, 3, 3, 4, 4, 4, 4, 4, 4, 4, 4, 5, 5, 5, 5, 5, 5, 5, 5, 5, 5, 5, 5, 5, 5, 5, 5, 6, 6, 6, 6, 6, 6, 6, 6, 6, 6, 6, 6, 6, 6, 6, 6, 6, 6, 6, 6, 6, 6, 6, 6, 6, 6, 6, 6, 6, 6, 6, 6, 7, 7, 7, 7, 7, 7, 7, 7, 7, 7, 7, 7, 7, 7, 7, 7, 7, 7, 7, 7, 7, 7, 7, 7, 7, 7, 7, 7, 7, 7, 7, 7, 7, 7, 7, 7, 7, 7, 7, 7, 7, 7, 7, 7, 7, 7, 7, 7, 7, 7, 7, 7, 7, 7, 7, 7, 7, 7, 7, 7, 7, 7, 7, 7, 8, 8, 8, 8, 8, 8, 8, 8, 8, 8, 8, 8, 8, 8, 8, 8, 8, 8, 8, 8, 8, 8, 8, 8, 8, 8, 8, 8, 8, 8, 8, 8, 8, 8, 8, 8, 8, 8, 8, 8, 8, 8, 8, 8, 8, 8, 8, 8, 8, 8, 8, 8, 8, 8, 8, 8, 8, 8, 8, 8, 8, 8, 8, 8, 8, 8, 8, 8, 8, 8, 8, 8, 8, 8, 8, 8, 8, 8, 8, 8, 8, 8, 8, 8, 8, 8, 8, 8, 8, 8, 8, 8, 8, 8, 8, 8, 8, 8, 8, 8, 8, 8, 8, 8, 8, 8, 8, 8, 8, 8, 8, 8, 8, 8, 8, 8, 8, 8, 8, 8, 8, 8, 8, 8, 8, 8, 8, 8] (.t 21)⟩,
 ⟨some 23, none, .conv .i64 (.t 22)⟩,
 ⟨some 24, none, .bin .add (.t 19) (.t 23)⟩,
 ⟨some 2, none, .mov (.t 24)⟩] [2])
 (.ret)))))
theorem get_math_bits_Len64 : prog.funcs[fid_math_bits_Len64]? = some f157 := func157
theorem ok_math_bits_Len64 : okFn prog f157 25 [] [(2, none)] mc_math_bits_Len64 = true := by kernel_rfl
def mc_impl_Graph_isCutNode_1 : MCode :=
 .seq
 (.reg [
 ⟨some 4, none, .mov (.v (.b false))⟩] [0, 1, 2])
 (.seq
 (.draw [0, 0, 3, 7, 0, 0, 32, 96, 240, 496, 1023, 2047] [
 ⟨some 5, none, .load false 1 (.t 1)⟩,
 ⟨some 6, none, .mov (.t 0)⟩,
 ⟨some 7, none, .indexAddr 1 (.t 5) (.t 6)⟩,
 ⟨some 8, none, .load false 1 (.t 7)⟩,
 ⟨some 9, none, .load false 1 (.t 1)⟩,
 ⟨some 10, none, .load false 1 (.t 2)⟩,
 ⟨some 11, none, .indexAddr 1 (.t 10) (.v (.i .i64 0))⟩,
 ⟨some 12, none, .load false 1 (.t 11)⟩,
 ⟨some 13, none, .indexAddr 1 (.t 9) (.t 12)⟩,
 ⟨some 14, none, .load false 1 (.t 13)⟩,
 ⟨some 15, none, .bin .neq (.t 8) (.t 14)⟩,
 ⟨some 4, none, .mov (.t 15)⟩] [4])
 (.ret))
theorem get_impl_Graph_isCutNode_1 : prog.funcs[fid_impl_Graph_isCutNode_1]? = some f158 := func158
theorem ok_impl_Graph_isCutNode_1 : okFn prog f158 16 [] [(4, none)] mc_impl_Graph_isCutNode_1 = true := by kernel_rfl
def mc_slices_Repeat_int_int : MCode :=
 .seq
 (.reg [
 ⟨some 4, none, .mov (.v (.nl 1))⟩] [0, 1])
 (.seq
 (.seq
 (.reg [
 ⟨some 9, none, .mov (.t 1)⟩,
 ⟨some 10, none, .bin .lss (.t 9) (.v (.i .i64 0))⟩] [0, 1, 10])
 (.cond (.t 10)
 (.reg [
 ⟨some 11, none, .dead⟩,
 ⟨none, none, .dead⟩] [0, 1])
 (.skip)))
 (.seq
 (.reg [
 ⟨some 13, none, .mov (.t 0)⟩,
 ⟨some 14, none, .len (.t 13)⟩,
 ⟨some 15, none, .conv .u64 (.t 14)⟩,
 ⟨some 16, none, .mov (.t 1)⟩,
 ⟨some 17, none, .conv .u64 (.t 16)⟩,
 ⟨some 18, none, .call fid_math_bits_Mul false [.im, .im] [(.t 15), (.t 17)]⟩,
 ⟨some 12, none, .mov (.t 18)⟩,
 ⟨some 19, none, .extract (.t 12) 0⟩,
 ⟨some 20, none, .extract (.t 12) 1⟩,
 ⟨some 5, none, .mov (.t 19)⟩,
 ⟨some 6, none, .mov (.t 20)⟩] [0, 5, 6])
 (.seq
 (.seq
 (.reg [
 ⟨some 21, none, .mov (.t 5)⟩,
 ⟨some 22, none, .bin .gtr (.t 21) (.v (.i .u64 0))⟩,
 ⟨some 23, none, .mov (.t 22)⟩,
 ⟨some 24, (some (23, false)), .mov (.t 6)⟩,
 ⟨some 25, (some (23, false)), .bin .gtr (.t 24) (.v (.i .u64 9223372036854775807))⟩,
 ⟨some 26, none, .pick (.t 23) (.v (.b true)) (.t 25)⟩] [0, 6, 26])
 (.cond (.t 26)
 (.reg [
 ⟨some 27, none, .dead⟩,
 ⟨none, none, .dead⟩] [0, 6])
 (.skip)))
 (.seq
 (.reg [
 ⟨some 28, none, .mov (.t 6)⟩,
 ⟨some 29, none, .conv .i64 (.t 28)⟩,
 ⟨some 30, none, .makeSlice 1 8 [.i .i64 0] (.t 29) (.t 29)⟩,
 ⟨some 7, none, .mov (.t 30)⟩] [0, 7])
 (.seq
 (.reg [
 ⟨some 31, none, .mov (.t 7)⟩,
 ⟨some 32, none, .mov (.t 0)⟩,
 ⟨some 33, none, .copy 1 (.t 31) (.t 32)⟩,
 ⟨some 8, none, .mov (.t 33)⟩] [7, 8])
 (.seq
 (.block 0
 (.loop [7, 8]
 (.seq
 (.seq
 (.reg [
 ⟨some 34, none, .mov (.t 8)⟩,
 ⟨some 35, none, .mov (.t 7)⟩,
 ⟨some 36, none, .len (.t 35)⟩,
 ⟨some 37, none, .bin .lss (.t 34) (.t 36)⟩] [7, 8, 37])
 (.cond (.t 37)
 (.skip)
 (.exit 0)))
 (.block 1
 (.draw [0, 0, 0, 6, 0, 0, 48, 126, 255, 511] [
 ⟨some 38, none, .mov (.t 8)⟩,
 ⟨some 39, none, .mov (.t 7)⟩,
 ⟨some 40, none, .mov (.t 8)⟩,
 ⟨some 41, none, .slice 1 (.t 39) (some (.t 40)) none⟩,
 ⟨some 42, none, .mov (.t 7)⟩,
 ⟨some 43, none, .mov (.t 8)⟩,
 ⟨some 44, none, .slice 1 (.t 42) none (some (.t 43))⟩,
 ⟨some 45, none, .copy 1 (.t 41) (.t 44)⟩,
 ⟨some 46, none, .bin .add (.t 38) (.t 45)⟩,
 ⟨some 8, none, .mov (.t 46)⟩] [7, 8])))))
 (.seq
 (.reg [
 ⟨some 47, none, .mov (.t 7)⟩,
 ⟨some 4, none, .mov (.t 47)⟩] [4])
 (.ret))))))))
theorem get_slices_Repeat_int_int : prog.funcs[fid_slices_Repeat_int_int]? = some f160 := func160
theorem ok_slices_Repeat_int_int : okFn prog f160 48 [] [(4, none)] mc_slices_Repeat_int_int = true := by kernel_rfl
def mc_slices_Reverse_int_int : MCode :=
 .seq
 (.reg [
 ⟨some 4, none, .mov (.t 0)⟩,
 ⟨some 5, none, .len (.t 4)⟩,
 ⟨some 6, none, .bin .sub (.t 5) (.v (.i .i64 1))⟩,
 ⟨some 2, none, .mov (.v (.i .i64 0))⟩,
 ⟨some 3, none, .mov (.t 6)⟩] [0, 2, 3])
 (.block 0
 (.loop [0, 2, 3]
 (.seq
 (.seq
 (.reg [
 ⟨some 7, none, .mov (.t 2)⟩,
 ⟨some 8, none, .mov (.t 3)⟩,
 ⟨some 9, none, .bin .lss (.t 7) (.t 8)⟩] [0, 2, 3, 9])
 (.cond (.t 9)
 (.skip)
 (.exit 0)))
 (.seq
 (.block 1
 (.draw [0, 0, 0, 0, 0, 0, 48, 112, 0, 0, 768, 1792, 4083, 8179, 16383, 32767] [
 ⟨some 14, none, .mov (.t 0)⟩,
 ⟨some 15, none, .mov (.t 2)⟩,
 ⟨some 16, none, .mov (.t 0)⟩,
 ⟨some 17, none, .mov (.t 3)⟩,
 ⟨some 18, none, .mov (.t 0)⟩,
 ⟨some 19, none, .mov (.t 3)⟩,
 ⟨some 20, none, .indexAddr 1 (.t 18) (.t 19)⟩,
 ⟨some 21, none, .load false 1 (.t 20)⟩,
 ⟨some 22, none, .mov (.t 0)⟩,
 ⟨some 23, none, .mov (.t 2)⟩,
 ⟨some 24, none, .indexAddr 1 (.t 22) (.t 23)⟩,
 ⟨some 25, none, .load false 1 (.t 24)⟩,
 ⟨some 26, none, .indexAddr 1 (.t 14) (.t 15)⟩,
 ⟨none, none, .store 1 (.t 26) (.t 21)⟩,
 ⟨some 27, none, .indexAddr 1 (.t 16) (.t 17)⟩,
 ⟨none, none, .store 1 (.t 27) (.t 25)⟩] [0, 2, 3]))
 (.reg [
 ⟨some 10, none, .mov (.t 2)⟩,
 ⟨some 11, none, .bin .add (.t 10) (.v (.i .i64 1))⟩,
 ⟨some 12, none, .mov (.t 3)⟩,
 ⟨some 13, none, .bin .sub (.t 12) (.v (.i .i64 1))⟩,
 ⟨some 2, none, .mov (.t 11)⟩,
 ⟨some 3, none, .mov (.t 13)⟩] [0, 2, 3])))))
theorem get_slices_Reverse_int_int : prog.funcs[fid_slices_Reverse_int_int]? = some f161 := func161
theorem ok_slices_Reverse_int_int : okFn prog f161 28 [0] [] mc_slices_Reverse_int_int = true := by kernel_rfl
def mc_impl_Graph_cutNode_1 : MCode :=
 .seq
 (.reg [
 ⟨some 2, none, .box 2 (.t 0)⟩,
 ⟨some 3, none, .mov (.v (.b false))⟩] [1, 2])
 (.seq
 (.reg [
 ⟨some 4, none, .fieldAddr 0 (.t 2)⟩,
 ⟨some 5, none, .load false 1 (.t 4)⟩,
 ⟨some 6, none, .load false 1 (.t 1)⟩,
 ⟨some 7, none, .bin .eql (.t 5) (.t 6)⟩,
 ⟨some 8, none, .mov (.t 7)⟩,
 ⟨some 9, (some (8, false)), .fieldAddr 1 (.t 2)⟩,
 ⟨some 10, (some (8, false)), .load false 1 (.t 9)⟩,
 ⟨some 11, (some (8, false)), .load false 1 (.t 1)⟩,
 ⟨some 12, (some (8, false)), .bin .eql (.t 10) (.t 11)⟩,
 ⟨some 13, none, .pick (.t 8) (.v (.b true)) (.t 12)⟩,
 ⟨some 3, none, .mov (.t 13)⟩] [3])
 (.ret))
theorem get_impl_Graph_cutNode_1 : prog.funcs[fid_impl_Graph_cutNode_1]? = some f162 := func162
theorem ok_impl_Graph_cutNode_1 : okFn prog f162 14 [] [(3, none)] mc_impl_Graph_cutNode_1 = true := by kernel_rfl
def mc_slices_pdqsortOrdered_int : MCode :=
 .seq
 (.reg [
 ⟨some 8, none, .mov (.v (.b true))⟩] [0, 1, 2, 3, 8])
 (.seq
 (.reg [
 ⟨some 9, none, .mov (.v (.b true))⟩] [0, 1, 2, 3, 8, 9])
 (.block 0
 (.loop [0, 1, 2, 3, 8, 9]
 (.block 1
 (.seq
 (.reg [
 ⟨some 19, none, .mov (.t 2)⟩,
 ⟨some 20, none, .mov (.t 1)⟩,
 ⟨some 21, none, .bin .sub (.t 19) (.t 20)⟩,
 ⟨some 10, none, .mov (.t 21)⟩] [0, 1, 2, 3, 8, 9, 10])
 (.seq
 (.seq
 (.reg [
 ⟨some 22, none, .mov (.t 10)⟩,
 ⟨some 23, none, .bin .leq (.t 22) (.v (.i .i64 12))⟩] [0, 1, 2, 3, 8, 9, 10, 23])
 (.cond (.t 23)
 (.seq
 (.reg [
 ⟨some 24, none, .mov (.t 0)⟩,
 ⟨some 25, none, .mov (.t 1)⟩,
 ⟨some 26, none, .mov (.t 2)⟩,
 ⟨some 27, none, .call fid_slices_insertionSortOrdered_int false [.im, .im, .im] [(.t 24), (.t 25), (.t 26)]⟩] [])
 (.ret))
 (.skip)))
 (.seq
 (.seq
 (.reg [
 ⟨some 28, none, .mov (.t 3)⟩,
 ⟨some 29, none, .bin .eql (.t 28) (.v (.i .i64 0))⟩] [0, 1, 2, 3, 8, 9, 10, 29])
 (.cond (.t 29)
 (.seq
 (.reg [
 ⟨some 30, none, .mov (.t 0)⟩,
 ⟨some 31, none, .mov (.t 1)⟩,
 ⟨some 32, none, .mov (.t 2)⟩,
 ⟨some 33, none, .call fid_slices_heapSortOrdered_int false [.im, .im, .im] [(.t 30), (.t 31), (.t 32)]⟩] [])
 (.ret))
 (.skip)))
 (.seq
 (.seq
 (.reg [
 ⟨some 34, none, .mov (.t 8)⟩,
 ⟨some 35, none, .un .not (.t 34)⟩] [0, 1, 2, 3, 8, 9, 10, 35])
 (.cond (.t 35)
 (.seq
 (.reg [
 ⟨some 36, none, .mov (.t 0)⟩,
 ⟨some 37, none, .mov (.t 1)⟩,
 ⟨some 38, none, .mov (.t 2)⟩,
 ⟨some 39, none, .call fid_slices_breakPatternsOrdered_int false [.im, .im, .im] [(.t 36), (.t 37), (.t 38)]⟩] [0, 1, 2, 3, 8, 9, 10])
 (.reg [
 ⟨some 40, none, .mov (.t 3)⟩,
 ⟨some 41, none, .bin .sub (.t 40) (.v (.i .i64 1))⟩,
 ⟨some 3, none, .mov (.t 41)⟩] [0, 1, 2, 3, 8, 9, 10]))
 (.skip)))
 (.seq
 (.reg [
 ⟨some 43, none, .mov (.t 0)⟩,
 ⟨some 44, none, .mov (.t 1)⟩,
 ⟨some 45, none, .mov (.t 2)⟩,
 ⟨some 46, none, .call fid_slices_choosePivotOrdered_int false [.im, .im, .im] [(.t 43), (.t 44), (.t 45)]⟩,
 ⟨some 42, none, .mov (.t 46)⟩,
 ⟨some 47, none, .extract (.t 42) 0⟩,
 ⟨some 48, none, .extract (.t 42) 1⟩,
 ⟨some 11, none, .mov (.t 47)⟩,
 ⟨some 12, none, .mov (.t 48)⟩] [0, 1, 2, 3, 8, 9, 10, 11, 12])
 (.seq
 (.seq
 (.reg [
 ⟨some 49, none, .mov (.t 12)⟩,
 ⟨some 50, none, .bin .eql (.t 49) (.v (.i .i64 2))⟩] [0, 1, 2, 3, 8, 9, 10, 11, 12, 50])
 (.cond (.t 50)
 (.seq
 (.reg [
 ⟨some 51, none, .mov (.t 0)⟩,
 ⟨some 52, none, .mov (.t 1)⟩,
 ⟨some 53, none, .mov (.t 2)⟩,
 ⟨some 54, none, .call fid_slices_reverseRangeOrdered_int false [.im, .im, .im] [(.t 51), (.t 52), (.t 53)]⟩] [0, 1, 2, 3, 8, 9, 10, 11])
 (.seq
 (.reg [
 ⟨some 55, none, .mov (.t 2)⟩,
 ⟨some 56, none, .bin .sub (.t 55) (.v (.i .i64 1))⟩,
 ⟨some 57, none, .mov (.t 11)⟩,
 ⟨some 58, none, .mov (.t 1)⟩,
 ⟨some 59, none, .bin .sub (.t 57) (.t 58)⟩,
 ⟨some 60, none, .bin .sub (.t 56) (.t 59)⟩,
 ⟨some 11, none, .mov (.t 60)⟩] [0, 1, 2, 3, 8, 9, 10, 11])
 (.reg [
 ⟨some 12, none, .mov (.v (.i .i64 1))⟩] [0, 1, 2, 3, 8, 9, 10, 11, 12])))
 (.skip)))
 (.seq
 (.seq
 (.reg [
 ⟨some 61, none, .mov (.t 8)⟩,
 ⟨some 62, none, .mov (.t 61)⟩,
 ⟨some 63, (some (62, true)), .mov (.t 9)⟩,
 ⟨some 64, none, .pick (.t 62) (.t 63) (.v (.b false))⟩,
 ⟨some 65, none, .mov (.t 64)⟩,
 ⟨some 66, (some (65, true)), .mov (.t 12)⟩,
 ⟨some 67, (some (65, true)), .bin .eql (.t 66) (.v (.i .i64 1))⟩,
 ⟨some 68, none, .pick (.t 65) (.t 67) (.v (.b false))⟩] [0, 1, 2, 3, 8, 9, 10, 11, 68])
 (.cond (.t 68)
 (.seq
 (.reg [
 ⟨some 69, none, .mov (.t 0)⟩,
 ⟨some 70, none, .mov (.t 1)⟩,
 ⟨some 71, none, .mov (.t 2)⟩,
 ⟨some 72, none, .call fid_slices_partialInsertionSortOrdered_int false [.im, .im, .im] [(.t 69), (.t 70), (.t 71)]⟩] [0, 1, 2, 3, 8, 9, 10, 11, 72])
 (.cond (.t 72)
 (.ret)
 (.skip)))
 (.skip)))
 (.seq
 (.seq
 (.draw [0, 1, 3, 7, 7, 23, 63, 127, 7, 7, 775, 1799, 4095, 8191, 16383] [
 ⟨some 73, none, .mov (.t 1)⟩,
 ⟨some 74, none, .bin .gtr (.t 73) (.v (.i .i64 0))⟩,
 ⟨some 75, none, .mov (.t 74)⟩,
 ⟨some 76, (some (75, true)), .mov (.t 0)⟩,
 ⟨some 77, (some (75, true)), .mov (.t 1)⟩,
 ⟨some 78, (some (75, true)), .bin .sub (.t 77) (.v (.i .i64 1))⟩,
 ⟨some 79, (some (75, true)), .indexAddr 1 (.t 76) (.t 78)⟩,
 ⟨some 80, (some (75, true)), .load false 1 (.t 79)⟩,
 ⟨some 81, (some (75, true)), .mov (.t 0)⟩,
 ⟨some 82, (some (75, true)), .mov (.t 11)⟩,
 ⟨some 83, (some (75, true)), .indexAddr 1 (.t 81) (.t 82)⟩,
 ⟨some 84, (some (75, true)), .load false 1 (.t 83)⟩,
 ⟨some 85, (some (75, true)), .call fid_cmp_Less_int false [.im, .im] [(.t 80), (.t 84)]⟩,
 ⟨some 86, (some (75, true)), .un .not (.t 85)⟩,
 ⟨some 87, none, .pick (.t 75) (.t 86) (.v (.b false))⟩] [0, 1, 2, 3, 8, 9, 10, 11, 87])
 (.cond (.t 87)
 (.seq
 (.reg [
 ⟨some 88, none, .mov (.t 0)⟩,
 ⟨some 89, none, .mov (.t 1)⟩,
 ⟨some 90, none, .mov (.t 2)⟩,
 ⟨some 91, none, .mov (.t 11)⟩,
 ⟨some 92, none, .call fid_slices_partitionEqualOrdered_int false [.im, .im, .im, .im] [(.t 88), (.t 89), (.t 90), (.t 91)]⟩,
 ⟨some 13, none, .mov (.t 92)⟩] [0, 2, 3, 8, 9, 13])
 (.seq
 (.reg [
 ⟨some 93, none, .mov (.t 13)⟩,
 ⟨some 1, none, .mov (.t 93)⟩] [0, 1, 2, 3, 8, 9])
 (.exit 1)))
 (.skip)))
 (.seq
 (.reg [
 ⟨some 95, none, .mov (.t 0)⟩,
 ⟨some 96, none, .mov (.t 1)⟩,
 ⟨some 97, none, .mov (.t 2)⟩,
 ⟨some 98, none, .mov (.t 11)⟩,
 ⟨some 99, none, .call fid_slices_partitionOrdered_int false [.im, .im, .im, .im] [(.t 95), (.t 96), (.t 97), (.t 98)]⟩,
 ⟨some 94, none, .mov (.t 99)⟩,
 ⟨some 100, none, .extract (.t 94) 0⟩,
 ⟨some 101, none, .extract (.t 94) 1⟩,
 ⟨some 14, none, .mov (.t 100)⟩,
 ⟨some 15, none, .mov (.t 101)⟩] [0, 1, 2, 3, 10, 14, 15])
 (.seq
 (.reg [
 ⟨some 102, none, .mov (.t 15)⟩,
 ⟨some 9, none, .mov (.t 102)⟩] [0, 1, 2, 3, 9, 10, 14])
 (.seq
 (.reg [
 ⟨some 103, none, .mov (.t 14)⟩,
 ⟨some 104, none, .mov (.t 1)⟩,
 ⟨some 105, none, .bin .sub (.t 103) (.t 104)⟩,
 ⟨some 106, none, .mov (.t 2)⟩,
 ⟨some 107, none, .mov (.t 14)⟩,
 ⟨some 108, none, .bin .sub (.t 106) (.t 107)⟩,
 ⟨some 16, none, .mov (.t 105)⟩,
 ⟨some 17, none, .mov (.t 108)⟩] [0, 1, 2, 3, 9, 10, 14, 16, 17])
 (.seq
 (.reg [
 ⟨some 109, none, .mov (.t 10)⟩,
 ⟨some 110, none, .bin .quo (.t 109) (.v (.i .i64 8))⟩,
 ⟨some 18, none, .mov (.t 110)⟩] [0, 1, 2, 3, 9, 14, 16, 17, 18])
 (.seq
 (.reg [
 ⟨some 111, none, .mov (.t 16)⟩,
 ⟨some 112, none, .mov (.t 17)⟩,
 ⟨some 113, none, .bin .lss (.t 111) (.t 112)⟩] [0, 1, 2, 3, 9, 14, 16, 17, 18, 113])
 (.cond (.t 113)
 (.seq
 (.reg [
 ⟨some 114, none, .mov (.t 16)⟩,
 ⟨some 115, none, .mov (.t 18)⟩,
 ⟨some 116, none, .bin .geq (.t 114) (.t 115)⟩,
 ⟨some 8, none, .mov (.t 116)⟩] [0, 1, 2, 3, 8, 9, 14])
 (.seq
 (.reg [
 ⟨some 117, none, .mov (.t 0)⟩,
 ⟨some 118, none, .mov (.t 1)⟩,
 ⟨some 119, none, .mov (.t 14)⟩,
 ⟨some 120, none, .mov (.t 3)⟩,
 ⟨some 121, none, .call fid_slices_pdqsortOrdered_int false [.im, .im, .im, .im] [(.t 117), (.t 118), (.t 119), (.t 120)]⟩] [0, 2, 3, 8, 9, 14])
 (.reg [
 ⟨some 122, none, .mov (.t 14)⟩,
 ⟨some 123, none, .bin .add (.t 122) (.v (.i .i64 1))⟩,
 ⟨some 1, none, .mov (.t 123)⟩] [0, 1, 2, 3, 8, 9])))
 (.seq
 (.reg [
 ⟨some 124, none, .mov (.t 17)⟩,
 ⟨some 125, none, .mov (.t 18)⟩,
 ⟨some 126, none, .bin .geq (.t 124) (.t 125)⟩,
 ⟨some 8, none, .mov (.t 126)⟩] [0, 1, 2, 3, 8, 9, 14])
 (.seq
 (.reg [
 ⟨some 127, none, .mov (.t 0)⟩,
 ⟨some 128, none, .mov (.t 14)⟩,
 ⟨some 129, none, .bin .add (.t 128) (.v (.i .i64 1))⟩,
 ⟨some 130, none, .mov (.t 2)⟩,
 ⟨some 131, none, .mov (.t 3)⟩,
 ⟨some 132, none, .call fid_slices_pdqsortOrdered_int false [.im, .im, .im, .im] [(.t 127), (.t 129), (.t 130), (.t 131)]⟩] [0, 1, 3, 8, 9, 14])
 (.reg [
 ⟨some 133, none, .mov (.t 14)⟩,
 ⟨some 2, none, .mov (.t 133)⟩] [0, 1, 2, 3, 8, 9])))))))))))))))))))))
theorem get_slices_pdqsortOrdered_int : prog.funcs[fid_slices_pdqsortOrdered_int]? = some f165 := func165
theorem ok_slices_pdqsortOrdered_int : okFn prog f165 134 [] [] mc_slices_pdqsortOrdered_int = true := by kernel_rfl
def mc_math_bits_Mul : MCode :=
 .seq
 (.reg [
 ⟨some 4, none, .mov (.v (.i .u64 0))⟩,
 ⟨some 5, none, .mov (.v (.i .u64 0))⟩] [0, 1])
 (.seq
 (.cond (.v (.b false))
 (.seq
 (.reg [
 ⟨some 11, none, .mov (.t 0)⟩,
 ⟨some 12, none, .conv .u32 (.t 11)⟩,
 ⟨some 13, none, .mov (.t 1)⟩,
 ⟨some 14, none, .conv .u32 (.t 13)⟩,
 ⟨some 15, none, .call fid_math_bits_Mul32 false [.im, .im] [(.t 12), (.t 14)]⟩,
 ⟨some 10, none, .mov (.t 15)⟩,
 ⟨some 16, none, .extract (.t 10) 0⟩,
 ⟨some 17, none, .extract (.t 10) 1⟩,
 ⟨some 6, none, .mov (.t 16)⟩,
 ⟨some 7, none, .mov (.t 17)⟩] [6, 7])
 (.seq
 (.reg [
 ⟨some 18, none, .mov (.t 6)⟩,
 ⟨some 19, none, .conv .u64 (.t 18)⟩,
 ⟨some 20, none, .mov (.t 7)⟩,
 ⟨some 21, none, .conv .u64 (.t 20)⟩,
 ⟨some 4, none, .mov (.t 19)⟩,
 ⟨some 5, none, .mov (.t 21)⟩] [4, 5])
 (.ret)))
 (.skip))
 (.seq
 (.reg [
 ⟨some 23, none, .mov (.t 0)⟩,
 ⟨some 24, none, .mov (.t 1)⟩,
 ⟨some 25, none, .call fid_math_bits_Mul64 false [.im, .im] [(.t 23), (.t 24)]⟩,
 ⟨some 22, none, .mov (.t 25)⟩,
 ⟨some 26, none, .extract (.t 22) 0⟩,
 ⟨some 27, none, .extract (.t 22) 1⟩,
 ⟨some 8, none, .mov (.t 26)⟩,
 ⟨some 9, none, .mov (.t 27)⟩] [8, 9])
 (.seq
 (.reg [
 ⟨some 28, none, .mov (.t 8)⟩,
 ⟨some 29, none, .mov (.t 9)⟩,
 ⟨some 4, none, .mov (.t 28)⟩,
 ⟨some 5, none, .mov (.t 29)⟩] [4, 5])
 (.ret))))
theorem get_math_bits_Mul : prog.funcs[fid_math_bits_Mul]? = some f171 := func171
theorem ok_math_bits_Mul : okFn prog f171 30 [] [(4, none), (5, none)] mc_math_bits_Mul = true := by kernel_rfl
def mc_slices_insertionSortOrdered_int : MCode :=
 .seq
 (.reg [
 ⟨some 8, none, .mov (.t 1)⟩,
 ⟨some 9, none, .bin .add (.t 8) (.v (.i .i64 1))⟩,
 ⟨some 6, none, .mov (.t 9)⟩] [0, 1, 2, 6])
 (.block 0
 (.loop [0, 1, 2, 6]
 (.seq
 (.seq
 (.reg [
 ⟨some 10, none, .mov (.t 6)⟩,
 ⟨some 11, none, .mov (.t 2)⟩,
 ⟨some 12, none, .bin .lss (.t 10) (.t 11)⟩] [0, 1, 2, 6, 12])
 (.cond (.t 12)
 (.skip)
 (.exit 0)))
 (.seq
 (.block 1
 (.seq
 (.reg [
 ⟨some 15, none, .mov (.t 6)⟩,
 ⟨some 7, none, .mov (.t 15)⟩] [0, 1, 2, 6, 7])
 (.block 2
 (.loop [0, 1, 2, 6, 7]
 (.seq
 (.seq
 (.draw [0, 0, 3, 7, 15, 15, 63, 127, 15, 15, 527, 1807, 3855, 8191, 16383] [
 ⟨some 16, none, .mov (.t 7)⟩,
 ⟨some 17, none, .mov (.t 1)⟩,
 ⟨some 18, none, .bin .gtr (.t 16) (.t 17)⟩,
 ⟨some 19, none, .mov (.t 18)⟩,
 ⟨some 20, (some (19, true)), .mov (.t 0)⟩,
 ⟨some 21, (some (19, true)), .mov (.t 7)⟩,
 ⟨some 22, (some (19, true)), .indexAddr 1 (.t 20) (.t 21)⟩,
 ⟨some 23, (some (19, true)), .load false 1 (.t 22)⟩,
 ⟨some 24, (some (19, true)), .mov (.t 0)⟩,
 ⟨some 25, (some (19, true)), .mov (.t 7)⟩,
 ⟨some 26, (some (19, true)), .bin .sub (.t 25) (.v (.i .i64 1))⟩,
 ⟨some 27, (some (19, true)), .indexAddr 1 (.t 24) (.t 26)⟩,
 ⟨some 28, (some (19, true)), .load false 1 (.t 27)⟩,
 ⟨some 29, (some (19, true)), .call fid_cmp_Less_int false [.im, .im] [(.t 23), (.t 28)]⟩,
 ⟨some 30, none, .pick (.t 19) (.t 29) (.v (.b false))⟩] [0, 1, 2, 6, 7, 30])
 (.cond (.t 30)
 (.skip)
 (.exit 2)))
 (.seq
 (.block 3
 (.draw [0, 0, 0, 0, 8, 0, 0, 64, 224, 480, 0, 0, 3072, 7168, 16355, 32739, 65535, 131071] [
 ⟨some 33, none, .mov (.t 0)⟩,
 ⟨some 34, none, .mov (.t 7)⟩,
 ⟨some 35, none, .mov (.t 0)⟩,
 ⟨some 36, none, .mov (.t 7)⟩,
 ⟨some 37, none, .bin .sub (.t 36) (.v (.i .i64 1))⟩,
 ⟨some 38, none, .mov (.t 0)⟩,
 ⟨some 39, none, .mov (.t 7)⟩,
 ⟨some 40, none, .bin .sub (.t 39) (.v (.i .i64 1))⟩,
 ⟨some 41, none, .indexAddr 1 (.t 38) (.t 40)⟩,
 ⟨some 42, none, .load false 1 (.t 41)⟩,
 ⟨some 43, none, .mov (.t 0)⟩,
 ⟨some 44, none, .mov (.t 7)⟩,
 ⟨some 45, none, .indexAddr 1 (.t 43) (.t 44)⟩,
 ⟨some 46, none, .load false 1 (.t 45)⟩,
 ⟨some 47, none, .indexAddr 1 (.t 33) (.t 34)⟩,
 ⟨none, none, .store 1 (.t 47) (.t 42)⟩,
 ⟨some 48, none, .indexAddr 1 (.t 35) (.t 37)⟩,
 ⟨none, none, .store 1 (.t 48) (.t 46)⟩] [0, 1, 2, 6, 7]))
 (.reg [
 ⟨some 31, none, .mov (.t 7)⟩,
 ⟨some 32, none, .bin .sub (.t 31) (.v (.i .i64 1))⟩,
 ⟨some 7, none, .mov (.t 32)⟩] [0, 1, 2, 6, 7])))))))
 (.reg [
 ⟨some 13, none, .mov (.t 6)⟩,
 ⟨some 14, none, .bin .add (.t 13) (.v (.i .i64 1))⟩,
 ⟨some 6, none, .mov (.t 14)⟩] [0, 1, 2, 6])))))
theorem get_slices_insertionSortOrdered_int : prog.funcs[fid_slices_insertionSortOrdered_int]? = some f172 := func172
theorem ok_slices_insertionSortOrdered_int : okFn prog f172 49 [] [] mc_slices_insertionSortOrdered_int = true := by kernel_rfl
def mc_slices_choosePivotOrdered_int : MCode :=
 .seq
 (.reg [
 ⟨some 6, none, .mov (.v (.i .i64 0))⟩,
 ⟨some 7, none, .mov (.v (.i .i64 0))⟩] [0, 1, 2])
 (.seq
 (.reg [
 ⟨some 13, none, .mov (.t 2)⟩,
 ⟨some 14, none, .mov (.t 1)⟩,
 ⟨some 15, none, .bin .sub (.t 13) (.t 14)⟩,
 ⟨some 8, none, .mov (.t 15)⟩] [0, 1, 8])
 (.seq
 (.reg [
 ⟨some 9, none, .alloc [.i .i64 0]⟩] [0, 1, 8, 9])
 (.seq
 (.reg [
 ⟨some 16, none, .mov (.t 1)⟩,
 ⟨some 17, none, .mov (.t 8)⟩,
 ⟨some 18, none, .bin .quo (.t 17) (.v (.i .i64 4))⟩,
 ⟨some 19, none, .bin .mul (.t 18) (.v (.i .i64 1))⟩,
 ⟨some 20, none, .bin .add (.t 16) (.t 19)⟩,
 ⟨some 10, none, .mov (.t 20)⟩] [0, 1, 8, 9, 10])
 (.seq
 (.reg [
 ⟨some 21, none, .mov (.t 1)⟩,
 ⟨some 22, none, .mov (.t 8)⟩,
 ⟨some 23, none, .bin .quo (.t 22) (.v (.i .i64 4))⟩,
 ⟨some 24, none, .bin .mul (.t 23) (.v (.i .i64 2))⟩,
 ⟨some 25, none, .bin .add (.t 21) (.t 24)⟩,
 ⟨some 11, none, .mov (.t 25)⟩] [0, 1, 8, 9, 10, 11])
 (.seq
 (.reg [
 ⟨some 26, none, .mov (.t 1)⟩,
 ⟨some 27, none, .mov (.t 8)⟩,
 ⟨some 28, none, .bin .quo (.t 27) (.v (.i .i64 4))⟩,
 ⟨some 29, none, .bin .mul (.t 28) (.v (.i .i64 3))⟩,
 ⟨some 30, none, .bin .add (.t 26) (.t 29)⟩,
 ⟨some 12, none, .mov (.t 30)⟩] [0, 8, 9, 10, 11, 12])
 (.seq
 (.seq
 (.reg [
 ⟨some 31, none, .mov (.t 8)⟩,
 ⟨some 32, none, .bin .geq (.t 31) (.v (.i .i64 8))⟩] [0, 8, 9, 10, 11, 12, 32])
 (.cond (.t 32)
 (.seq
 (.seq
 (.reg [
 ⟨some 33, none, .mov (.t 8)⟩,
 ⟨some 34, none, .bin .geq (.t 33) (.v (.i .i64 50))⟩] [0, 9, 10, 11, 12, 34])
 (.cond (.t 34)
 (.seq
 (.reg [
 ⟨some 35, none, .mov (.t 0)⟩,
 ⟨some 36, none, .mov (.t 10)⟩,
 ⟨some 37, none, .call fid_slices_medianAdjacentOrdered_int false [.im, .im, .im] [(.t 35), (.t 36), (.t 9)]⟩,
 ⟨some 10, none, .mov (.t 37)⟩] [0, 9, 10, 11, 12])
 (.seq
 (.reg [
 ⟨some 38, none, .mov (.t 0)⟩,
 ⟨some 39, none, .mov (.t 11)⟩,
 ⟨some 40, none, .call fid_slices_medianAdjacentOrdered_int false [.im, .im, .im] [(.t 38), (.t 39), (.t 9)]⟩,
 ⟨some 11, none, .mov (.t 40)⟩] [0, 9, 10, 11, 12])
 (.reg [
 ⟨some 41, none, .mov (.t 0)⟩,
 ⟨some 42, none, .mov (.t 12)⟩,
 ⟨some 43, none, .call fid_slices_medianAdjacentOrdered_int false [.im, .im, .im] [(.t 41), (.t 42), (.t 9)]⟩,
 ⟨some 12, none, .mov (.t 43)⟩] [0, 9, 10, 11, 12])))
 (.skip)))
 (.reg [
 ⟨some 44, none, .mov (.t 0)⟩,
 ⟨some 45, none, .mov (.t 10)⟩,
 ⟨some 46, none, .mov (.t 11)⟩,
 ⟨some 47, none, .mov (.t 12)⟩,
 ⟨some 48, none, .call fid_slices_medianOrdered_int false [.im, .im, .im, .im, .im] [(.t 44), (.t 45), (.t 46), (.t 47), (.t 9)]⟩,
 ⟨some 11, none, .mov (.t 48)⟩] [9, 11]))
 (.skip)))
 (.seq
 (.reg [
 ⟨some 49, none, .load false 1 (.t 9)⟩] [11, 49])
 (.block 0
 (.seq
 (.reg [
 ⟨some 52, none, .bin .eql (.t 49) (.v (.i .i64 0))⟩,
 ⟨some 51, none, .mov (.t 52)⟩] [11, 49, 51])
 (.cond (.t 51)
 (.seq
 (.reg [
 ⟨some 53, none, .mov (.t 11)⟩,
 ⟨some 6, none, .mov (.t 53)⟩,
 ⟨some 7, none, .mov (.v (.i .i64 1))⟩] [6, 7])
 (.ret))
 (.seq
 (.reg [
 ⟨some 55, none, .bin .eql (.t 49) (.v (.i .i64 12))⟩,
 ⟨some 54, none, .mov (.t 55)⟩] [11, 54])
 (.cond (.t 54)
 (.seq
 (.reg [
 ⟨some 56, none, .mov (.t 11)⟩,
 ⟨some 6, none, .mov (.t 56)⟩,
 ⟨some 7, none, .mov (.v (.i .i64 2))⟩] [6, 7])
 (.ret))
 (.seq
 (.reg [
 ⟨some 50, none, .mov (.t 11)⟩,
 ⟨some 6, none, .mov (.t 50)⟩,
 ⟨some 7, none, .mov (.v (.i .i64 0))⟩] [6, 7])
 (.ret))))))))))))))
theorem get_slices_choosePivotOrdered_int : prog.funcs[fid_slices_choosePivotOrdered_int]? = some f175 := func175
theorem ok_slices_choosePivotOrdered_int : okFn prog f175 57 [] [(6, none), (7, none)] mc_slices_choosePivotOrdered_int = true := by kernel_rfl
def mc_slices_partialInsertionSortOrdered_int : MCode :=
 .seq
 (.reg [
 ⟨some 6, none, .mov (.v (.b false))⟩] [0, 1, 2])
 (.seq
 (.reg [
 ⟨some 11, none, .mov (.t 1)⟩,
 ⟨some 12, none, .bin .add (.t 11) (.v (.i .i64 1))⟩,
 ⟨some 7, none, .mov (.t 12)⟩] [0, 1, 2, 7])
 (.seq
 (.seq
 (.reg [
 ⟨some 8, none, .mov (.v (.i .i64 0))⟩] [0, 1, 2, 7, 8])
 (.block 0
 (.loop [0, 1, 2, 7, 8]
 (.seq
 (.seq
 (.reg [
 ⟨some 13, none, .mov (.t 8)⟩,
 ⟨some 14, none, .bin .lss (.t 13) (.v (.i .i64 5))⟩] [0, 1, 2, 7, 8, 14])
 (.cond (.t 14)
 (.skip)
 (.exit 0)))
 (.seq
 (.block 1
 (.seq
 (.block 2
 (.loop [0, 1, 2, 7, 8]
 (.seq
 (.seq
 (.draw [0, 0, 3, 7, 15, 15, 63, 127, 15, 15, 527, 1807, 3855, 8191, 16383, 32767] [
 ⟨some 17, none, .mov (.t 7)⟩,
 ⟨some 18, none, .mov (.t 2)⟩,
 ⟨some 19, none, .bin .lss (.t 17) (.t 18)⟩,
 ⟨some 20, none, .mov (.t 19)⟩,
 ⟨some 21, (some (20, true)), .mov (.t 0)⟩,
 ⟨some 22, (some (20, true)), .mov (.t 7)⟩,
 ⟨some 23, (some (20, true)), .indexAddr 1 (.t 21) (.t 22)⟩,
 ⟨some 24, (some (20, true)), .load false 1 (.t 23)⟩,
 ⟨some 25, (some (20, true)), .mov (.t 0)⟩,
 ⟨some 26, (some (20, true)), .mov (.t 7)⟩,
 ⟨some 27, (some (20, true)), .bin .sub (.t 26) (.v (.i .i64 1))⟩,
 ⟨some 28, (some (20, true)), .indexAddr 1 (.t 25) (.t 27)⟩,
 ⟨some 29, (some (20, true)), .load false 1 (.t 28)⟩,
 ⟨some 30, (some (20, true)), .call fid_cmp_Less_int false [.im, .im] [(.t 24), (.t 29)]⟩,
 ⟨some 31, (some (20, true)), .un .not (.t 30)⟩,
 ⟨some 32, none, .pick (.t 20) (.t 31) (.v (.b false))⟩] [0, 1, 2, 7, 8, 32])
 (.cond (.t 32)
 (.skip)
 (.exit 2)))
 (.block 3
 (.reg [
 ⟨some 33, none, .mov (.t 7)⟩,
 ⟨some 34, none, .bin .add (.t 33) (.v (.i .i64 1))⟩,
 ⟨some 7, none, .mov (.t 34)⟩] [0, 1, 2, 7, 8])))))
 (.seq
 (.seq
 (.reg [
 ⟨some 35, none, .mov (.t 7)⟩,
 ⟨some 36, none, .mov (.t 2)⟩,
 ⟨some 37, none, .bin .eql (.t 35) (.t 36)⟩] [0, 1, 2, 7, 8, 37])
 (.cond (.t 37)
 (.seq
 (.reg [
 ⟨some 6, none, .mov (.v (.b true))⟩] [6])
 (.ret))
 (.skip)))
 (.seq
 (.seq
 (.reg [
 ⟨some 38, none, .mov (.t 2)⟩,
 ⟨some 39, none, .mov (.t 1)⟩,
 ⟨some 40, none, .bin .sub (.t 38) (.t 39)⟩,
 ⟨some 41, none, .bin .lss (.t 40) (.v (.i .i64 50))⟩] [0, 1, 2, 7, 8, 41])
 (.cond (.t 41)
 (.seq
 (.reg [
 ⟨some 6, none, .mov (.v (.b false))⟩] [6])
 (.ret))
 (.skip)))
 (.seq
 (.draw [0, 0, 0, 0, 8, 0, 0, 64, 224, 480, 0, 0, 3072, 7168, 16355, 32739, 65535, 131071] [
 ⟨some 42, none, .mov (.t 0)⟩,
 ⟨some 43, none, .mov (.t 7)⟩,
 ⟨some 44, none, .mov (.t 0)⟩,
 ⟨some 45, none, .mov (.t 7)⟩,
 ⟨some 46, none, .bin .sub (.t 45) (.v (.i .i64 1))⟩,
 ⟨some 47, none, .mov (.t 0)⟩,
 ⟨some 48, none, .mov (.t 7)⟩,
 ⟨some 49, none, .bin .sub (.t 48) (.v (.i .i64 1))⟩,
 ⟨some 50, none, .indexAddr 1 (.t 47) (.t 49)⟩,
 ⟨some 51, none, .load false 1 (.t 50)⟩,
 ⟨some 52, none, .mov (.t 0)⟩,
 ⟨some 53, none, .mov (.t 7)⟩,
 ⟨some 54, none, .indexAddr 1 (.t 52) (.t 53)⟩,
 ⟨some 55, none, .load false 1 (.t 54)⟩,
 ⟨some 56, none, .indexAddr 1 (.t 42) (.t 43)⟩,
 ⟨none, none, .store 1 (.t 56) (.t 51)⟩,
 ⟨some 57, none, .indexAddr 1 (.t 44) (.t 46)⟩,
 ⟨none, none, .store 1 (.t 57) (.t 55)⟩] [0, 1, 2, 7, 8])
 (.seq
 (.seq
 (.reg [
 ⟨some 58, none, .mov (.t 7)⟩,
 ⟨some 59, none, .mov (.t 1)⟩,
 ⟨some 60, none, .bin .sub (.t 58) (.t 59)⟩,
 ⟨some 61, none, .bin .geq (.t 60) (.v (.i .i64 2))⟩] [0, 1, 2, 7, 8, 61])
 (.cond (.t 61)
 (.seq
 (.reg [
 ⟨some 62, none, .mov (.t 7)⟩,
 ⟨some 63, none, .bin .sub (.t 62) (.v (.i .i64 1))⟩,
 ⟨some 9, none, .mov (.t 63)⟩] [0, 1, 2, 7, 8, 9])
 (.block 4
 (.loop [0, 1, 2, 7, 8, 9]
 (.seq
 (.seq
 (.reg [
 ⟨some 64, none, .mov (.t 9)⟩,
 ⟨some 65, none, .bin .geq (.t 64) (.v (.i .i64 1))⟩] [0, 1, 2, 7, 8, 9, 65])
 (.cond (.t 65)
 (.skip)
 (.exit 4)))
 (.seq
 (.block 5
 (.seq
 (.seq
 (.draw [0, 0, 3, 7, 0, 0, 32, 112, 240, 511, 1023] [
 ⟨some 68, none, .mov (.t 0)⟩,
 ⟨some 69, none, .mov (.t 9)⟩,
 ⟨some 70, none, .indexAddr 1 (.t 68) (.t 69)⟩,
 ⟨some 71, none, .load false 1 (.t 70)⟩,
 ⟨some 72, none, .mov (.t 0)⟩,
 ⟨some 73, none, .mov (.t 9)⟩,
 ⟨some 74, none, .bin .sub (.t 73) (.v (.i .i64 1))⟩,
 ⟨some 75, none, .indexAddr 1 (.t 72) (.t 74)⟩,
 ⟨some 76, none, .load false 1 (.t 75)⟩,
 ⟨some 77, none, .call fid_cmp_Less_int false [.im, .im] [(.t 71), (.t 76)]⟩,
 ⟨some 78, none, .un .not (.t 77)⟩] [0, 1, 2, 7, 8, 9, 78])
 (.cond (.t 78)
 (.exit 4)
 (.skip)))
 (.draw [0, 0, 0, 0, 8, 0, 0, 64, 224, 480, 0, 0, 3072, 7168, 16355, 32739, 65535, 131071] [
 ⟨some 79, none, .mov (.t 0)⟩,
 ⟨some 80, none, .mov (.t 9)⟩,
 ⟨some 81, none, .mov (.t 0)⟩,
 ⟨some 82, none, .mov (.t 9)⟩,
 ⟨some 83, none, .bin .sub (.t 82) (.v (.i .i64 1))⟩,
 ⟨some 84, none, .mov (.t 0)⟩,
 ⟨some 85, none, .mov (.t 9)⟩,
 ⟨some 86, none, .bin .sub (.t 85) (.v (.i .i64 1))⟩,
 ⟨some 87, none, .indexAddr 1 (.t 84) (.t 86)⟩,
 ⟨some 88, none, .load false 1 (.t 87)⟩,
 ⟨some 89, none, .mov (.t 0)⟩,
 ⟨some 90, none, .mov (.t 9)⟩,
 ⟨some 91, none, .indexAddr 1 (.t 89) (.t 90)⟩,
 ⟨some 92, none, .load false 1 (.t 91)⟩,
 ⟨some 93, none, .indexAddr 1 (.t 79) (.t 80)⟩,
 ⟨none, none, .store 1 (.t 93) (.t 88)⟩,
 ⟨some 94, none, .indexAddr 1 (.t 81) (.t 83)⟩,
 ⟨none, none, .store 1 (.t 94) (.t 92)⟩] [0, 1, 2, 7, 8, 9])))
 (.reg [
 ⟨some 66, none, .mov (.t 9)⟩,
 ⟨some 67, none, .bin .sub (.t 66) (.v (.i .i64 1))⟩,
 ⟨some 9, none, .mov (.t 67)⟩] [0, 1, 2, 7, 8, 9]))))))
 (.skip)))
 (.seq
 (.reg [
 ⟨some 95, none, .mov (.t 2)⟩,
 ⟨some 96, none, .mov (.t 7)⟩,
 ⟨some 97, none, .bin .sub (.t 95) (.t 96)⟩,
 ⟨some 98, none, .bin .geq (.t 97) (.v (.i .i64 2))⟩] [0, 1, 2, 7, 8, 98])
 (.cond (.t 98)
 (.seq
 (.reg [
 ⟨some 99, none, .mov (.t 7)⟩,
 ⟨some 100, none, .bin .add (.t 99) (.v (.i .i64 1))⟩,
 ⟨some 10, none, .mov (.t 100)⟩] [0, 1, 2, 7, 8, 10])
 (.block 6
 (.loop [0, 1, 2, 7, 8, 10]
 (.seq
 (.seq
 (.reg [
 ⟨some 101, none, .mov (.t 10)⟩,
 ⟨some 102, none, .mov (.t 2)⟩,
 ⟨some 103, none, .bin .lss (.t 101) (.t 102)⟩] [0, 1, 2, 7, 8, 10, 103])
 (.cond (.t 103)
 (.skip)
 (.exit 6)))
 (.seq
 (.block 7
 (.seq
 (.seq
 (.draw [0, 0, 3, 7, 0, 0, 32, 112, 240, 511, 1023] [
 ⟨some 106, none, .mov (.t 0)⟩,
 ⟨some 107, none, .mov (.t 10)⟩,
 ⟨some 108, none, .indexAddr 1 (.t 106) (.t 107)⟩,
 ⟨some 109, none, .load false 1 (.t 108)⟩,
 ⟨some 110, none, .mov (.t 0)⟩,
 ⟨some 111, none, .mov (.t 10)⟩,
 ⟨some 112, none, .bin .sub (.t 111) (.v (.i .i64 1))⟩,
 ⟨some 113, none, .indexAddr 1 (.t 110) (.t 112)⟩,
 ⟨some 114, none, .load false 1 (.t 113)⟩,
 ⟨some 115, none, .call fid_cmp_Less_int false [.im, .im] [(.t 109), (.t 114)]⟩,
 ⟨some 116, none, .un .not (.t 115)⟩] [0, 1, 2, 7, 8, 10, 116])
 (.cond (.t 116)
 (.exit 6)
 (.skip)))
 (.draw [0, 0, 0, 0, 8, 0, 0, 64, 224, 480, 0, 0, 3072, 7168, 16355, 32739, 65535, 131071] [
 ⟨some 117, none, .mov (.t 0)⟩,
 ⟨some 118, none, .mov (.t 10)⟩,
 ⟨some 119, none, .mov (.t 0)⟩,
 ⟨some 120, none, .mov (.t 10)⟩,
 ⟨some 121, none, .bin .sub (.t 120) (.v (.i .i64 1))⟩,
 ⟨some 122, none, .mov (.t 0)⟩,
 ⟨some 123, none, .mov (.t 10)⟩,
 ⟨some 124, none, .bin .sub (.t 123) (.v (.i .i64 1))⟩,
 ⟨some 125, none, .indexAddr 1 (.t 122) (.t 124)⟩,
 ⟨some 126, none, .load false 1 (.t 125)⟩,
 ⟨some 127, none, .mov (.t 0)⟩,
 ⟨some 128, none, .mov (.t 10)⟩,
 ⟨some 129, none, .indexAddr 1 (.t 127) (.t 128)⟩,
 ⟨some 130, none, .load false 1 (.t 129)⟩,
 ⟨some 131, none, .indexAddr 1 (.t 117) (.t 118)⟩,
 ⟨none, none, .store 1 (.t 131) (.t 126)⟩,
 ⟨some 132, none, .indexAddr 1 (.t 119) (.t 121)⟩,
 ⟨none, none, .store 1 (.t 132) (.t 130)⟩] [0, 1, 2, 7, 8, 10])))
 (.reg [
 ⟨some 104, none, .mov (.t 10)⟩,
 ⟨some 105, none, .bin .add (.t 104) (.v (.i .i64 1))⟩,
 ⟨some 10, none, .mov (.t 105)⟩] [0, 1, 2, 7, 8, 10]))))))
 (.skip)))))))))
 (.reg [
 ⟨some 15, none, .mov (.t 8)⟩,
 ⟨some 16, none, .bin .add (.t 15) (.v (.i .i64 1))⟩,
 ⟨some 8, none, .mov (.t 16)⟩] [0, 1, 2, 7, 8]))))))
 (.seq
 (.reg [
 ⟨some 6, none, .mov (.v (.b false))⟩] [6])
 (.ret))))
theorem get_slices_partialInsertionSortOrdered_int : prog.funcs[fid_slices_partialInsertionSortOrdered_int]? = some f177 := func177
theorem ok_slices_partialInsertionSortOrdered_int : okFn prog f177 133 [] [(6, none)] mc_slices_partialInsertionSortOrdered_int = true := by kernel_rfl
def mc_cmp_Less_int : MCode :=
 .seq
 (.reg [
 ⟨some 4, none, .mov (.v (.b false))⟩] [0, 1])
 (.seq
 (.reg [
 ⟨some 5, none, .mov (.t 0)⟩,
 ⟨some 6, none, .call fid_cmp_isNaN_int false [.im] [(.t 5)]⟩,
 ⟨some 7, none, .mov (.t 6)⟩,
 ⟨some 8, (some (7, true)), .mov (.t 1)⟩,
 ⟨some 9, (some (7, true)), .call fid_cmp_isNaN_int false [.im] [(.t 8)]⟩,
 ⟨some 10, (some (7, true)), .un .not (.t 9)⟩,
 ⟨some 11, none, .pick (.t 7) (.t 10) (.v (.b false))⟩,
 ⟨some 12, none, .mov (.t 11)⟩,
 ⟨some 13, (some (12, false)), .mov (.t 0)⟩,
 ⟨some 14, (some (12, false)), .mov (.t 1)⟩,
 ⟨some 15, (some (12, false)), .bin .lss (.t 13) (.t 14)⟩,
 ⟨some 16, none, .pick (.t 12) (.v (.b true)) (.t 15)⟩,
 ⟨some 4, none, .mov (.t 16)⟩] [4])
 (.ret))
theorem get_cmp_Less_int : prog.funcs[fid_cmp_Less_int]? = some f178 := func178
theorem ok_cmp_Less_int : okFn prog f178 17 [] [(4, none)] mc_cmp_Less_int = true := by kernel_rfl
def mc_math_bits_Mul64 : MCode :=
 .seq
 (.reg [
 ⟨some 4, none, .mov (.v (.i .u64 0))⟩,
 ⟨some 5, none, .mov (.v (.i .u64 0))⟩] [0, 1])
 (.seq
 (.reg [
 ⟨some 14, none, .mov (.t 0)⟩,
 ⟨some 15, none, .bin .and (.t 14) (.v (.i .u64 4294967295))⟩,
 ⟨some 6, none, .mov (.t 15)⟩] [0, 1, 6])
 (.seq
 (.reg [
 ⟨some 16, none, .mov (.t 0)⟩,
 ⟨some 17, none, .bin .shr (.t 16) (.v (.i .u64 32))⟩,
 ⟨some 7, none, .mov (.t 17)⟩] [0, 1, 6, 7])
 (.seq
 (.reg [
 ⟨some 18, none, .mov (.t 1)⟩,
 ⟨some 19, none, .bin .and (.t 18) (.v (.i .u64 4294967295))⟩,
 ⟨some 8, none, .mov (.t 19)⟩] [0, 1, 6, 7, 8])
 (.seq
 (.reg [
 ⟨some 20, none, .mov (.t 1)⟩,
 ⟨some 21, none, .bin .shr (.t 20) (.v (.i .u64 32))⟩,
 ⟨some 9, none, .mov (.t 21)⟩] [0, 1, 6, 7, 8, 9])
 (.seq
 (.reg [
 ⟨some 22, none, .mov (.t 6)⟩,
 ⟨some 23, none, .mov (.t 8)⟩,
 ⟨some 24, none, .bin .mul (.t 22) (.t 23)⟩,
 ⟨some 10, none, .mov (.t 24)⟩] [0, 1, 6, 7, 8, 9, 10])
 (.seq
 (.reg [
 ⟨some 25, none, .mov (.t 7)⟩,
 ⟨some 26, none, .mov (.t 8)⟩,
 ⟨some 27, none, .bin .mul (.t 25) (.t 26)⟩,
 ⟨some 28, none, .mov (.t 10)⟩,
 ⟨some 29, none, .bin .shr (.t 28) (.v (.i .u64 32))⟩,
 ⟨some 30, none, .bin .add (.t 27) (.t 29)⟩,
 ⟨some 11, none, .mov (.t 30)⟩] [0, 1, 6, 7, 9, 11])
 (.seq
 (.reg [
 ⟨some 31, none, .mov (.t 11)⟩,
 ⟨some 32, none, .bin .and (.t 31) (.v (.i .u64 4294967295))⟩,
 ⟨some 12, none, .mov (.t 32)⟩] [0, 1, 6, 7, 9, 11, 12])
 (.seq
 (.reg [
 ⟨some 33, none, .mov (.t 11)⟩,
 ⟨some 34, none, .bin .shr (.t 33) (.v (.i .u64 32))⟩,
 ⟨some 13, none, .mov (.t 34)⟩] [0, 1, 6, 7, 9, 12, 13])
 (.seq
 (.reg [
 ⟨some 35, none, .mov (.t 12)⟩,
 ⟨some 36, none, .mov (.t 6)⟩,
 ⟨some 37, none, .mov (.t 9)⟩,
 ⟨some 38, none, .bin .mul (.t 36) (.t 37)⟩,
 ⟨some 39, none, .bin .add (.t 35) (.t 38)⟩,
 ⟨some 12, none, .mov (.t 39)⟩] [0, 1, 7, 9, 12, 13])
 (.seq
 (.reg [
 ⟨some 40, none, .mov (.t 7)⟩,
 ⟨some 41, none, .mov (.t 9)⟩,
 ⟨some 42, none, .bin .mul (.t 40) (.t 41)⟩,
 ⟨some 43, none, .mov (.t 13)⟩,
 ⟨some 44, none, .bin .add (.t 42) (.t 43)⟩,
 ⟨some 45, none, .mov (.t 12)⟩,
 ⟨some 46, none, .bin .shr (.t 45) (.v (.i .u64 32))⟩,
 ⟨some 47, none, .bin .add (.t 44) (.t 46)⟩,
 ⟨some 4, none, .mov (.t 47)⟩] [0, 1, 4])
 (.seq
 (.reg [
 ⟨some 48, none, .mov (.t 0)⟩,
 ⟨some 49, none, .mov (.t 1)⟩,
 ⟨some 50, none, .bin .mul (.t 48) (.t 49)⟩,
 ⟨some 5, none, .mov (.t 50)⟩] [4, 5])
 (.ret))))))))))))
theorem get_math_bits_Mul64 : prog.funcs[fid_math_bits_Mul64]? = some f183 := func183
theorem ok_math_bits_Mul64 : okFn prog f183 51 [] [(4, none), (5, none)] mc_math_bits_Mul64 = true := by kernel_rfl
def mc_slices_medianOrdered_int : MCode :=
 .seq
 (.reg [
 ⟨some 10, none, .mov (.v (.i .i64 0))⟩] [0, 1, 2, 3, 4])
 (.seq
 (.reg [
 ⟨some 12, none, .mov (.t 0)⟩,
 ⟨some 13, none, .mov (.t 1)⟩,
 ⟨some 14, none, .mov (.t 2)⟩,
 ⟨some 15, none, .mov (.t 4)⟩,
 ⟨some 16, none, .call fid_slices_order2Ordered_int false [.im, .im, .im, .im] [(.t 12), (.t 13), (.t 14), (.t 15)]⟩,
 ⟨some 11, none, .mov (.t 16)⟩,
 ⟨some 17, none, .extract (.t 11) 0⟩,
 ⟨some 18, none, .extract (.t 11) 1⟩,
 ⟨some 1, none, .mov (.t 17)⟩,
 ⟨some 2, none, .mov (.t 18)⟩] [0, 1, 2, 3, 4])
 (.seq
 (.reg [
 ⟨some 20, none, .mov (.t 0)⟩,
 ⟨some 21, none, .mov (.t 2)⟩,
 ⟨some 22, none, .mov (.t 3)⟩,
 ⟨some 23, none, .mov (.t 4)⟩,
 ⟨some 24, none, .call fid_slices_order2Ordered_int false [.im, .im, .im, .im] [(.t 20), (.t 21), (.t 22), (.t 23)]⟩,
 ⟨some 19, none, .mov (.t 24)⟩,
 ⟨some 25, none, .extract (.t 19) 0⟩,
 ⟨some 26, none, .extract (.t 19) 1⟩,
 ⟨some 2, none, .mov (.t 25)⟩,
 ⟨some 3, none, .mov (.t 26)⟩] [0, 1, 2, 4])
 (.seq
 (.reg [
 ⟨some 28, none, .mov (.t 0)⟩,
 ⟨some 29, none, .mov (.t 1)⟩,
 ⟨some 30, none, .mov (.t 2)⟩,
 ⟨some 31, none, .mov (.t 4)⟩,
 ⟨some 32, none, .call fid_slices_order2Ordered_int false [.im, .im, .im, .im] [(.t 28), (.t 29), (.t 30), (.t 31)]⟩,
 ⟨some 27, none, .mov (.t 32)⟩,
 ⟨some 33, none, .extract (.t 27) 0⟩,
 ⟨some 34, none, .extract (.t 27) 1⟩,
 ⟨some 1, none, .mov (.t 33)⟩,
 ⟨some 2, none, .mov (.t 34)⟩] [2])
 (.seq
 (.reg [
 ⟨some 35, none, .mov (.t 2)⟩,
 ⟨some 10, none, .mov (.t 35)⟩] [10])
 (.ret)))))
theorem get_slices_medianOrdered_int : prog.funcs[fid_slices_medianOrdered_int]? = some f186 := func186
theorem ok_slices_medianOrdered_int : okFn prog f186 36 [] [(10, none)] mc_slices_medianOrdered_int = true := by kernel_rfl
def mc_slices_order2Ordered_int : MCode :=
 .seq
 (.reg [
 ⟨some 8, none, .mov (.v (.i .i64 0))⟩,
 ⟨some 9, none, .mov (.v (.i .i64 0))⟩] [0, 1, 2, 3])
 (.seq
 (.seq
 (.draw [0, 0, 3, 7, 0, 0, 48, 112, 255] [
 ⟨some 10, none, .mov (.t 0)⟩,
 ⟨some 11, none, .mov (.t 2)⟩,
 ⟨some 12, none, .indexAddr 1 (.t 10) (.t 11)⟩,
 ⟨some 13, none, .load false 1 (.t 12)⟩,
 ⟨some 14, none, .mov (.t 0)⟩,
 ⟨some 15, none, .mov (.t 1)⟩,
 ⟨some 16, none, .indexAddr 1 (.t 14) (.t 15)⟩,
 ⟨some 17, none, .load false 1 (.t 16)⟩,
 ⟨some 18, none, .call fid_cmp_Less_int false [.im, .im] [(.t 13), (.t 17)]⟩] [1, 2, 3, 18])
 (.cond (.t 18)
 (.seq
 (.reg [
 ⟨some 19, none, .mov (.t 3)⟩,
 ⟨some 20, none, .nilCheck (.t 19)⟩,
 ⟨some 21, none, .load false 1 (.t 20)⟩,
 ⟨some 22, none, .bin .add (.t 21) (.v (.i .i64 1))⟩,
 ⟨some 23, none, .nilCheck (.t 19)⟩,
 ⟨none, none, .store 1 (.t 23) (.t 22)⟩] [1, 2])
 (.seq
 (.reg [
 ⟨some 24, none, .mov (.t 2)⟩,
 ⟨some 25, none, .mov (.t 1)⟩,
 ⟨some 8, none, .mov (.t 24)⟩,
 ⟨some 9, none, .mov (.t 25)⟩] [8, 9])
 (.ret)))
 (.skip)))
 (.seq
 (.reg [
 ⟨some 26, none, .mov (.t 1)⟩,
 ⟨some 27, none, .mov (.t 2)⟩,
 ⟨some 8, none, .mov (.t 26)⟩,
 ⟨some 9, none, .mov (.t 27)⟩] [8, 9])
 (.ret)))
theorem get_slices_order2Ordered_int : prog.funcs[fid_slices_order2Ordered_int]? = some f187 := func187
theorem ok_slices_order2Ordered_int : okFn prog f187 28 [] [(8, none), (9, none)] mc_slices_order2Ordered_int = true := by kernel_rfl

end Go.Fw
