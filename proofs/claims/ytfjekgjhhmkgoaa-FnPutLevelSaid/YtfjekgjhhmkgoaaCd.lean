/-
  The code of the program's functions and the library's, as the model's own. Printed by a program.
-/
import Derived.Test.YtfjekgjhhmkgoaaProg
import Derived.Test.YtfjekgjhhmkgoaaFxC
namespace Go.Fw
open Go.Proofs.Try
set_option maxRecDepth 100000
abbrev fid_main_main : Nat := 0
abbrev fid_gosem_cut : Nat := 1
abbrev fid_gosem_cut_init : Nat := 2
abbrev fid_laws_FnExactCutLevel : Nat := 3
abbrev fid_laws_FnPutLevel : Nat := 4
abbrev fid_laws_FnCutLevel : Nat := 5
abbrev fid_laws_FnCutAll : Nat := 6
abbrev fid_laws_FnSumLevels : Nat := 7
abbrev fid_laws_FnLevelForest : Nat := 8
abbrev fid_laws_szLeveled : Nat := 9
abbrev fid_spec_CutLevel : Nat := 10
abbrev fid_laws_toLeveled : Nat := 11
abbrev fid_laws_toEdge : Nat := 12
abbrev fid_impl_CutLevel : Nat := 13
abbrev fid_laws_eqLeveled : Nat := 14
abbrev fid_laws_markLeveled : Nat := 15
abbrev fid_laws_heldLeveled : Nat := 16
abbrev fid_spec_DrawPutLevel : Nat := 17
abbrev fid_impl_PutLevel : Nat := 18
abbrev fid_spec_PutLevel : Nat := 19
abbrev fid_laws_dyLeveled : Nat := 20
abbrev fid_impl_PutEdge : Nat := 21
abbrev fid_impl_SumLevels : Nat := 22
abbrev fid_impl_GraphSame : Nat := 23
abbrev fid_impl_LevelsValid : Nat := 24
abbrev fid_spec_DrawCutLevel : Nat := 25
abbrev fid_impl_CutEdge : Nat := 26
abbrev fid_impl_PartCount : Nat := 27
abbrev fid_spec_DrawSumLevels : Nat := 28
abbrev fid_spec_SumLevels : Nat := 29
abbrev fid_spec_LevelsValid : Nat := 30
abbrev fid_spec_DrawLevelForest : Nat := 31
abbrev fid_impl_LevelForest : Nat := 32
abbrev fid_spec_LevelForest : Nat := 33
abbrev fid_laws_dyEdges : Nat := 34
abbrev fid_laws_dyHas : Nat := 35
abbrev fid_laws_szGraph : Nat := 36
abbrev fid_laws_szIntS : Nat := 37
abbrev fid_laws_szBoolS : Nat := 38
abbrev fid_spec_l1Find : Nat := 39
abbrev fid_spec_l7Cut : Nat := 40
abbrev fid_spec_l7Level : Nat := 41
abbrev fid_laws_toGraph : Nat := 42
abbrev fid_laws_toIntS : Nat := 43
abbrev fid_laws_toBoolS : Nat := 44
abbrev fid_impl_Graph_has : Nat := 45
abbrev fid_slices_Index_impl_Edge_impl_Edge : Nat := 46
abbrev fid_impl_Graph_cut : Nat := 47
abbrev fid_slices_Delete_int_int : Nat := 48
abbrev fid_slices_Clone_int_int : Nat := 49
abbrev fid_slices_Delete_bool_bool : Nat := 50
abbrev fid_slices_Clone_bool_bool : Nat := 51
abbrev fid_p_impl_Leveled_replace : Nat := 52
abbrev fid_laws_eqGraph : Nat := 53
abbrev fid_laws_eqIntS : Nat := 54
abbrev fid_laws_eqBoolS : Nat := 55
abbrev fid_laws_markGraph : Nat := 56
abbrev fid_laws_markIntS : Nat := 57
abbrev fid_laws_markBoolS : Nat := 58
abbrev fid_laws_heldGraph : Nat := 59
abbrev fid_laws_heldIntS : Nat := 60
abbrev fid_laws_heldBoolS : Nat := 61
abbrev fid_spec_l7Draw : Nat := 62
abbrev fid_spec_l14Open : Nat := 63
abbrev fid_p_spec_l14Rd_pick : Nat := 64
abbrev fid_spec_l1Edge : Nat := 65
abbrev fid_slices_Insert_int_int : Nat := 66
abbrev fid_slices_Insert_bool_bool : Nat := 67
abbrev fid_impl_Graph_connected : Nat := 68
abbrev fid_spec_PutEdge : Nat := 69
abbrev fid_spec_l7Put : Nat := 70
abbrev fid_spec_l2Joined : Nat := 71
abbrev fid_laws_dyInts : Nat := 72
abbrev fid_impl_GraphValid : Nat := 73
abbrev fid_slices_BinarySearchFunc_impl_Edge_impl_Edge_impl_Edge : Nat := 74
abbrev fid_impl_compareEdges : Nat := 75
abbrev fid_slices_Insert_impl_Edge_impl_Edge : Nat := 76
abbrev fid_slices_Clone_impl_Edge_impl_Edge : Nat := 77
abbrev fid_slices_Equal_impl_Edge_impl_Edge : Nat := 78
abbrev fid_slices_ContainsFunc_int_int : Nat := 79
abbrev fid_impl_LevelsValid_1 : Nat := 80
abbrev fid_impl_Leveled_above : Nat := 81
abbrev fid_impl_Graph_parts : Nat := 82
abbrev fid_impl_Graph_forest : Nat := 83
abbrev fid_slices_Equal_int_int : Nat := 84
abbrev fid_impl_LevelsValid_2 : Nat := 85
abbrev fid_p_spec_l14Rd_num : Nat := 86
abbrev fid_impl_HasEdge : Nat := 87
abbrev fid_impl_PartsOf : Nat := 88
abbrev fid_spec_GraphValid : Nat := 89
abbrev fid_spec_l7At : Nat := 90
abbrev fid_spec_l6Forest : Nat := 91
abbrev fid_spec_l7Ints : Nat := 92
abbrev fid_spec_l2Labels : Nat := 93
abbrev fid_spec_l7Small : Nat := 94
abbrev fid_spec_l7Most : Nat := 95
abbrev fid_laws_szEdgeS : Nat := 96
abbrev fid_spec_l7Side : Nat := 97
abbrev fid_spec_l7Copy : Nat := 98
abbrev fid_spec_l6In : Nat := 99
abbrev fid_laws_toEdgeS : Nat := 100
abbrev fid_slices_Contains_impl_Edge_impl_Edge : Nat := 101
abbrev fid_impl_Graph_without : Nat := 102
abbrev fid_impl_Graph_cut_1 : Nat := 103
abbrev fid_p_impl_Leveled_replace_1 : Nat := 104
abbrev fid_laws_eqEdgeS : Nat := 105
abbrev fid_laws_markEdgeS : Nat := 106
abbrev fid_laws_heldEdgeS : Nat := 107
abbrev fid_spec_l7Of : Nat := 108
abbrev fid_spec_l1Draw : Nat := 109
abbrev fid_slices_overlaps_int : Nat := 110
abbrev fid_slices_rotateRight_int : Nat := 111
abbrev fid_slices_overlaps_bool : Nat := 112
abbrev fid_slices_rotateRight_bool : Nat := 113
abbrev fid_spec_l1Put : Nat := 114
abbrev fid_cmp_Or_int : Nat := 115
abbrev fid_cmp_Compare_int : Nat := 116
abbrev fid_slices_overlaps_impl_Edge : Nat := 117
abbrev fid_slices_rotateRight_impl_Edge : Nat := 118
abbrev fid_slices_IndexFunc_int_int : Nat := 119
abbrev fid_spec_l1Less : Nat := 120
abbrev fid_spec_l2Forest : Nat := 121
abbrev fid_spec_PartNodes : Nat := 122
abbrev fid_spec_l1Copy : Nat := 123
abbrev fid_slices_DeleteFunc_impl_Edge_impl_Edge : Nat := 124
abbrev fid_laws_eqEdge : Nat := 125
abbrev fid_slices_rotateLeft_int : Nat := 126
abbrev fid_slices_rotateLeft_bool : Nat := 127
abbrev fid_cmp_isNaN_int : Nat := 128
abbrev fid_slices_rotateLeft_impl_Edge : Nat := 129
abbrev fid_spec_l2Node : Nat := 130
abbrev fid_slices_IndexFunc_impl_Edge_impl_Edge : Nat := 131
abbrev fid_slices_Reverse_int_int : Nat := 132
abbrev fid_slices_Reverse_bool_bool : Nat := 133
abbrev fid_slices_Reverse_impl_Edge_impl_Edge : Nat := 134
abbrev fid_runtime_boundsError_Error : Nat := 135
abbrev fid_runtime_boundsError_RuntimeError : Nat := 136
abbrev fid_runtime_errorString_Error : Nat := 137
abbrev fid_runtime_errorString_RuntimeError : Nat := 138
abbrev fid_runtime_plainError_Error : Nat := 139
abbrev fid_runtime_plainError_RuntimeError : Nat := 140
abbrev fid_runtime_errorAddressString_Error : Nat := 141
abbrev fid_runtime_errorAddressString_RuntimeError : Nat := 142
abbrev fid_p_runtime_TypeAssertionError_Error : Nat := 143
abbrev fid_p_runtime_TypeAssertionError_RuntimeError : Nat := 144
abbrev fid_p_runtime_PanicNilError_Error : Nat := 145
abbrev fid_p_runtime_PanicNilError_RuntimeError : Nat := 146
abbrev fid_p_internal_abi_Type_Align : Nat := 147
abbrev fid_internal_runtime_maps_unhashableTypeError_Error : Nat := 148
abbrev fid_internal_runtime_maps_unhashableTypeError_RuntimeError : Nat := 149
abbrev fid_impl_Graph_hasNode : Nat := 150
abbrev fid_p_spec_l14Rd_word : Nat := 151
abbrev fid_p_impl_Leveled_graphLine : Nat := 152
abbrev fid_internal_abi_Kind_String : Nat := 153
def mc_impl_CutLevel : MCode :=
 .seq
 (.reg [
 ⟨some 2, none, .box 4 (.t 0)⟩,
 ⟨some 3, none, .box 2 (.t 1)⟩,
 ⟨some 4, none, .alloc [.i .i64 0, .nl 2, .nl 1, .nl 1]⟩,
 ⟨some 5, none, .mov (.v (.i .i64 0))⟩,
 ⟨some 6, none, .mov (.v (.b false))⟩,
 ⟨some 7, none, .mov (.v (.b false))⟩] [2, 3, 4])
 (.seq
 (.seq
 (.reg [
 ⟨some 14, none, .load true 4 (.t 2)⟩,
 ⟨some 15, none, .call fid_impl_LevelsValid false [.im] [(.t 14)]⟩,
 ⟨some 16, none, .un .not (.t 15)⟩,
 ⟨some 17, none, .mov (.t 16)⟩,
 ⟨some 18, (some (17, false)), .fieldAddr 0 (.t 2)⟩,
 ⟨some 19, (some (17, false)), .load true 2 (.t 18)⟩,
 ⟨some 20, (some (17, false)), .load true 2 (.t 3)⟩,
 ⟨some 21, (some (17, false)), .call fid_impl_Graph_has false [.im, .im] [(.t 19), (.t 20)]⟩,
 ⟨some 22, (some (17, false)), .un .not (.t 21)⟩,
 ⟨some 23, none, .pick (.t 17) (.v (.b true)) (.t 22)⟩] [2, 3, 4, 23])
 (.cond (.t 23)
 (.seq
 (.reg [
 ⟨some 24, none, .build [.i .i64 0, .nl 2, .nl 1, .nl 1] []⟩,
 ⟨none, none, .store 4 (.t 4) (.t 24)⟩,
 ⟨some 5, none, .mov (.v (.i .i64 0))⟩,
 ⟨some 6, none, .mov (.v (.b false))⟩,
 ⟨some 7, none, .mov (.v (.b false))⟩] [4, 5, 6, 7])
 (.ret))
 (.skip)))
 (.seq
 (.reg [
 ⟨some 25, none, .fieldAddr 0 (.t 2)⟩,
 ⟨some 26, none, .fieldAddr 1 (.t 25)⟩,
 ⟨some 27, none, .load false 1 (.t 26)⟩,
 ⟨some 28, none, .load true 2 (.t 3)⟩,
 ⟨some 29, none, .call fid_slices_Index_impl_Edge_impl_Edge false [.im, .im] [(.t 27), (.t 28)]⟩,
 ⟨some 8, none, .mov (.t 29)⟩] [2, 3, 4, 8])
 (.seq
 (.draw [0, 1, 0, 7, 0, 16, 63, 0, 0, 256, 1023, 0, 2048, 8191, 0, 0, 32768, 131071, 262143, 0, 1048575] [
 ⟨some 30, none, .fieldAddr 0 (.t 2)⟩,
 ⟨some 31, none, .load true 2 (.t 30)⟩,
 ⟨some 32, none, .load true 2 (.t 3)⟩,
 ⟨some 33, none, .call fid_impl_Graph_cut false [.im, .im] [(.t 31), (.t 32)]⟩,
 ⟨some 34, none, .fieldAddr 2 (.t 2)⟩,
 ⟨some 35, none, .load false 1 (.t 34)⟩,
 ⟨some 36, none, .call fid_slices_Clone_int_int false [.im] [(.t 35)]⟩,
 ⟨some 37, none, .mov (.t 8)⟩,
 ⟨some 38, none, .mov (.t 8)⟩,
 ⟨some 39, none, .bin .add (.t 38) (.v (.i .i64 1))⟩,
 ⟨some 40, none, .call fid_slices_Delete_int_int false [.co, .im, .im] [(.t 36), (.t 37), (.t 39)]⟩,
 ⟨some 41, none, .fieldAddr 3 (.t 2)⟩,
 ⟨some 42, none, .load false 1 (.t 41)⟩,
 ⟨some 43, none, .call fid_slices_Clone_bool_bool false [.im] [(.t 42)]⟩,
 ⟨some 44, none, .mov (.t 8)⟩,
 ⟨some 45, none, .mov (.t 8)⟩,
 ⟨some 46, none, .bin .add (.t 45) (.v (.i .i64 1))⟩,
 ⟨some 47, none, .call fid_slices_Delete_bool_bool false [.co, .im, .im] [(.t 43), (.t 44), (.t 46)]⟩,
 ⟨some 48, none, .build [.i .i64 0, .nl 2, .nl 1, .nl 1] [(0, 2, (.t 33)), (2, 1, (.t 40)), (3, 1, (.t 47))]⟩,
 ⟨some 9, none, .alloc [.i .i64 0, .nl 2, .nl 1, .nl 1]⟩,
 ⟨none, none, .store 4 (.t 9) (.t 48)⟩] [2, 3, 4, 8, 9])
 (.seq
 (.reg [
 ⟨some 10, none, .mov (.v (.i .i64 0))⟩,
 ⟨some 11, none, .mov (.v (.b false))⟩] [2, 3, 4, 8, 9, 10, 11])
 (.seq
 (.seq
 (.reg [
 ⟨some 49, none, .fieldAddr 3 (.t 2)⟩,
 ⟨some 50, none, .load false 1 (.t 49)⟩,
 ⟨some 51, none, .mov (.t 8)⟩,
 ⟨some 52, none, .indexAddr 1 (.t 50) (.t 51)⟩,
 ⟨some 53, none, .load false 1 (.t 52)⟩] [2, 3, 4, 8, 9, 10, 11, 53])
 (.cond (.t 53)
 (.seq
 (.reg [
 ⟨some 54, none, .fieldAddr 2 (.t 2)⟩,
 ⟨some 55, none, .load false 1 (.t 54)⟩,
 ⟨some 56, none, .mov (.t 8)⟩,
 ⟨some 57, none, .indexAddr 1 (.t 55) (.t 56)⟩,
 ⟨some 58, none, .load false 1 (.t 57)⟩,
 ⟨some 12, none, .mov (.t 58)⟩] [3, 4, 9, 10, 11, 12])
 (.block 0
 (.loop [3, 4, 9, 10, 11, 12]
 (.seq
 (.seq
 (.reg [
 ⟨some 59, none, .mov (.t 12)⟩,
 ⟨some 60, none, .bin .geq (.t 59) (.v (.i .i64 0))⟩,
 ⟨some 61, none, .mov (.t 60)⟩,
 ⟨some 62, (some (61, true)), .mov (.t 11)⟩,
 ⟨some 63, (some (61, true)), .un .not (.t 62)⟩,
 ⟨some 64, none, .pick (.t 61) (.t 63) (.v (.b false))⟩] [3, 4, 9, 10, 11, 12, 64])
 (.cond (.t 64)
 (.skip)
 (.exit 0)))
 (.seq
 (.block 1
 (.seq
 (.reg [
 ⟨some 13, none, .mov (.v (.i .i64 0))⟩] [3, 4, 9, 10, 12])
 (.seq
 (.reg [
 ⟨some 68, none, .load true 2 (.t 3)⟩,
 ⟨some 69, none, .mov (.t 12)⟩,
 ⟨some 70, none, .call fid_p_impl_Leveled_replace false [.io, .im, .im] [(.t 9), (.t 68), (.t 69)]⟩,
 ⟨some 67, none, .mov (.t 70)⟩,
 ⟨some 71, none, .extract (.t 67) 0⟩,
 ⟨some 72, none, .extract (.t 67) 1⟩,
 ⟨some 13, none, .mov (.t 71)⟩,
 ⟨some 11, none, .mov (.t 72)⟩] [3, 4, 9, 10, 11, 12, 13])
 (.reg [
 ⟨some 73, none, .mov (.t 10)⟩,
 ⟨some 74, none, .mov (.t 13)⟩,
 ⟨some 75, none, .bin .add (.t 73) (.t 74)⟩,
 ⟨some 10, none, .mov (.t 75)⟩] [3, 4, 9, 10, 11, 12]))))
 (.reg [
 ⟨some 65, none, .mov (.t 12)⟩,
 ⟨some 66, none, .bin .sub (.t 65) (.v (.i .i64 1))⟩,
 ⟨some 12, none, .mov (.t 66)⟩] [3, 4, 9, 10, 11, 12]))))))
 (.skip)))
 (.seq
 (.reg [
 ⟨some 76, none, .load true 4 (.t 9)⟩,
 ⟨some 77, none, .mov (.t 10)⟩,
 ⟨some 78, none, .mov (.t 11)⟩,
 ⟨none, none, .store 4 (.t 4) (.t 76)⟩,
 ⟨some 5, none, .mov (.t 77)⟩,
 ⟨some 6, none, .mov (.t 78)⟩,
 ⟨some 7, none, .mov (.v (.b true))⟩] [4, 5, 6, 7])
 (.ret)))))))
theorem get_impl_CutLevel : prog.funcs[fid_impl_CutLevel]? = some f13 := func13
theorem ok_impl_CutLevel : okFn prog f13 79 [] [(4, some (true, 4)), (5, none), (6, none), (7, none)] mc_impl_CutLevel = true := by kernel_rfl
def mc_impl_PutLevel : MCode :=
 .seq
 (.reg [
 ⟨some 2, none, .box 4 (.t 0)⟩,
 ⟨some 3, none, .box 2 (.t 1)⟩,
 ⟨some 4, none, .alloc [.i .i64 0, .nl 2, .nl 1, .nl 1]⟩,
 ⟨some 5, none, .mov (.v (.b false))⟩] [2, 3, 4])
 (.seq
 (.seq
 (.reg [
 ⟨some 9, none, .load true 4 (.t 2)⟩,
 ⟨some 10, none, .call fid_impl_LevelsValid false [.im] [(.t 9)]⟩,
 ⟨some 11, none, .un .not (.t 10)⟩] [2, 3, 4, 11])
 (.cond (.t 11)
 (.seq
 (.reg [
 ⟨some 12, none, .build [.i .i64 0, .nl 2, .nl 1, .nl 1] []⟩,
 ⟨none, none, .store 4 (.t 4) (.t 12)⟩,
 ⟨some 5, none, .mov (.v (.b false))⟩] [4, 5])
 (.ret))
 (.skip)))
 (.seq
 (.reg [
 ⟨some 14, none, .fieldAddr 0 (.t 2)⟩,
 ⟨some 15, none, .load true 2 (.t 14)⟩,
 ⟨some 16, none, .load true 2 (.t 3)⟩,
 ⟨some 17, none, .call fid_impl_PutEdge false [.im, .im] [(.t 15), (.t 16)]⟩,
 ⟨some 13, none, .mov (.t 17)⟩,
 ⟨some 18, none, .extract (.t 13) 0⟩,
 ⟨some 19, none, .extract (.t 13) 1⟩,
 ⟨some 6, none, .alloc [.i .i64 0, .nl 2]⟩,
 ⟨none, none, .store 2 (.t 6) (.t 18)⟩,
 ⟨some 7, none, .mov (.t 19)⟩] [2, 3, 4, 6, 7])
 (.seq
 (.seq
 (.reg [
 ⟨some 20, none, .mov (.t 7)⟩,
 ⟨some 21, none, .un .not (.t 20)⟩] [2, 3, 4, 6, 21])
 (.cond (.t 21)
 (.seq
 (.reg [
 ⟨some 22, none, .build [.i .i64 0, .nl 2, .nl 1, .nl 1] []⟩,
 ⟨none, none, .store 4 (.t 4) (.t 22)⟩,
 ⟨some 5, none, .mov (.v (.b false))⟩] [4, 5])
 (.ret))
 (.skip)))
 (.seq
 (.reg [
 ⟨some 23, none, .fieldAddr 1 (.t 6)⟩,
 ⟨some 24, none, .load false 1 (.t 23)⟩,
 ⟨some 25, none, .load true 2 (.t 3)⟩,
 ⟨some 26, none, .call fid_slices_Index_impl_Edge_impl_Edge false [.im, .im] [(.t 24), (.t 25)]⟩,
 ⟨some 8, none, .mov (.t 26)⟩] [2, 3, 4, 6, 8])
 (.seq
 (.draw [0, 0, 2, 6, 0, 0, 62, 0, 128, 510, 0, 0, 2048, 0, 8192, 0, 32768, 130046, 261118, 523262, 1048574, 2097151, 4194303, 8388607] [
 ⟨some 27, none, .load true 2 (.t 6)⟩,
 ⟨some 28, none, .fieldAddr 2 (.t 2)⟩,
 ⟨some 29, none, .load false 1 (.t 28)⟩,
 ⟨some 30, none, .call fid_slices_Clone_int_int false [.im] [(.t 29)]⟩,
 ⟨some 31, none, .mov (.t 8)⟩,
 ⟨some 32, none, .buildSlice 1 [(.v (.i .i64 0))]⟩,
 ⟨some 33, none, .call fid_slices_Insert_int_int false [.co, .im, .co] [(.t 30), (.t 31), (.t 32)]⟩,
 ⟨some 34, none, .fieldAddr 3 (.t 2)⟩,
 ⟨some 35, none, .load false 1 (.t 34)⟩,
 ⟨some 36, none, .call fid_slices_Clone_bool_bool false [.im] [(.t 35)]⟩,
 ⟨some 37, none, .mov (.t 8)⟩,
 ⟨some 38, none, .fieldAddr 0 (.t 2)⟩,
 ⟨some 39, none, .load true 2 (.t 38)⟩,
 ⟨some 40, none, .fieldAddr 0 (.t 3)⟩,
 ⟨some 41, none, .load false 1 (.t 40)⟩,
 ⟨some 42, none, .fieldAddr 1 (.t 3)⟩,
 ⟨some 43, none, .load false 1 (.t 42)⟩,
 ⟨some 44, none, .call fid_impl_Graph_connected false [.im, .im, .im] [(.t 39), (.t 41), (.t 43)]⟩,
 ⟨some 45, none, .un .not (.t 44)⟩,
 ⟨some 46, none, .buildSlice 1 [(.t 45)]⟩,
 ⟨some 47, none, .call fid_slices_Insert_bool_bool false [.co, .im, .co] [(.t 36), (.t 37), (.t 46)]⟩,
 ⟨some 48, none, .build [.i .i64 0, .nl 2, .nl 1, .nl 1] [(0, 2, (.t 27)), (2, 1, (.t 33)), (3, 1, (.t 47))]⟩,
 ⟨none, none, .store 4 (.t 4) (.t 48)⟩,
 ⟨some 5, none, .mov (.v (.b true))⟩] [4, 5])
 (.ret))))))
theorem get_impl_PutLevel : prog.funcs[fid_impl_PutLevel]? = some f18 := func18
theorem ok_impl_PutLevel : okFn prog f18 49 [] [(4, some (true, 4)), (5, none)] mc_impl_PutLevel = true := by kernel_rfl
def mc_impl_PutEdge : MCode :=
 .seq
 (.reg [
 ⟨some 2, none, .box 2 (.t 0)⟩,
 ⟨some 3, none, .box 2 (.t 1)⟩,
 ⟨some 4, none, .alloc [.i .i64 0, .nl 2]⟩,
 ⟨some 5, none, .mov (.v (.b false))⟩] [2, 3, 4])
 (.seq
 (.seq
 (.reg [
 ⟨some 9, none, .load true 2 (.t 2)⟩,
 ⟨some 10, none, .call fid_impl_GraphValid false [.im] [(.t 9)]⟩,
 ⟨some 11, none, .un .not (.t 10)⟩,
 ⟨some 12, none, .mov (.t 11)⟩,
 ⟨some 13, (some (12, false)), .load true 2 (.t 2)⟩,
 ⟨some 14, (some (12, false)), .load true 2 (.t 3)⟩,
 ⟨some 15, (some (12, false)), .call fid_impl_Graph_has false [.im, .im] [(.t 13), (.t 14)]⟩,
 ⟨some 16, none, .pick (.t 12) (.v (.b true)) (.t 15)⟩] [2, 3, 4, 16])
 (.cond (.t 16)
 (.seq
 (.reg [
 ⟨some 17, none, .build [.i .i64 0, .nl 2] []⟩,
 ⟨none, none, .store 2 (.t 4) (.t 17)⟩,
 ⟨some 5, none, .mov (.v (.b false))⟩] [4, 5])
 (.ret))
 (.skip)))
 (.seq
 (.reg [
 ⟨some 19, none, .fieldAddr 1 (.t 2)⟩,
 ⟨some 20, none, .load false 1 (.t 19)⟩,
 ⟨some 21, none, .load true 2 (.t 3)⟩,
 ⟨some 22, none, .call fid_slices_BinarySearchFunc_impl_Edge_impl_Edge_impl_Edge false [.im, .im, .fn] [(.t 20), (.t 21), (.v (.clo fid_impl_compareEdges [] []))]⟩,
 ⟨some 18, none, .mov (.t 22)⟩,
 ⟨some 23, none, .extract (.t 18) 0⟩,
 ⟨some 24, none, .extract (.t 18) 1⟩,
 ⟨some 6, none, .mov (.t 23)⟩,
 ⟨some 7, none, .mov (.t 24)⟩] [2, 3, 4, 6])
 (.seq
 (.draw [0, 1, 0, 4, 12, 0, 0, 64, 252, 511, 0, 2047] [
 ⟨some 25, none, .fieldAddr 0 (.t 2)⟩,
 ⟨some 26, none, .load false 1 (.t 25)⟩,
 ⟨some 27, none, .fieldAddr 1 (.t 2)⟩,
 ⟨some 28, none, .load false 1 (.t 27)⟩,
 ⟨some 29, none, .call fid_slices_Clone_impl_Edge_impl_Edge false [.im] [(.t 28)]⟩,
 ⟨some 30, none, .mov (.t 6)⟩,
 ⟨some 31, none, .load true 2 (.t 3)⟩,
 ⟨some 32, none, .buildSlice 2 [(.t 31)]⟩,
 ⟨some 33, none, .call fid_slices_Insert_impl_Edge_impl_Edge false [.co, .im, .co] [(.t 29), (.t 30), (.t 32)]⟩,
 ⟨some 34, none, .build [.i .i64 0, .nl 2] [(0, 1, (.t 26)), (1, 1, (.t 33))]⟩,
 ⟨some 8, none, .alloc [.i .i64 0, .nl 2]⟩,
 ⟨none, none, .store 2 (.t 8) (.t 34)⟩] [4, 8])
 (.seq
 (.seq
 (.reg [
 ⟨some 35, none, .load true 2 (.t 8)⟩,
 ⟨some 36, none, .call fid_impl_GraphValid false [.im] [(.t 35)]⟩,
 ⟨some 37, none, .un .not (.t 36)⟩] [4, 8, 37])
 (.cond (.t 37)
 (.seq
 (.reg [
 ⟨some 38, none, .build [.i .i64 0, .nl 2] []⟩,
 ⟨none, none, .store 2 (.t 4) (.t 38)⟩,
 ⟨some 5, none, .mov (.v (.b false))⟩] [4, 5])
 (.ret))
 (.skip)))
 (.seq
 (.reg [
 ⟨some 39, none, .load true 2 (.t 8)⟩,
 ⟨none, none, .store 2 (.t 4) (.t 39)⟩,
 ⟨some 5, none, .mov (.v (.b true))⟩] [4, 5])
 (.ret))))))
theorem get_impl_PutEdge : prog.funcs[fid_impl_PutEdge]? = some f21 := func21
theorem ok_impl_PutEdge : okFn prog f21 40 [] [(4, some (true, 2)), (5, none)] mc_impl_PutEdge = true := by kernel_rfl
def mc_impl_SumLevels : MCode :=
 .seq
 (.reg [
 ⟨some 1, none, .box 4 (.t 0)⟩,
 ⟨some 2, none, .mov (.v (.i .i64 0))⟩,
 ⟨some 3, none, .mov (.v (.b false))⟩] [1])
 (.seq
 (.seq
 (.reg [
 ⟨some 7, none, .load true 4 (.t 1)⟩,
 ⟨some 8, none, .call fid_impl_LevelsValid false [.im] [(.t 7)]⟩,
 ⟨some 9, none, .un .not (.t 8)⟩] [1, 9])
 (.cond (.t 9)
 (.seq
 (.reg [
 ⟨some 2, none, .mov (.v (.i .i64 0))⟩,
 ⟨some 3, none, .mov (.v (.b false))⟩] [2, 3])
 (.ret))
 (.skip)))
 (.seq
 (.reg [
 ⟨some 4, none, .mov (.v (.i .i64 0))⟩] [1, 4])
 (.seq
 (.seq
 (.reg [
 ⟨some 10, none, .fieldAddr 2 (.t 1)⟩,
 ⟨some 11, none, .load false 1 (.t 10)⟩,
 ⟨some 12, none, .len (.t 11)⟩,
 ⟨some 13, none, .mov (.v (.i .i64 0))⟩] [4, 11, 12, 13])
 (.block 0
 (.loop [4, 11, 12, 13]
 (.seq
 (.reg [
 ⟨some 14, none, .bin .lss (.t 13) (.t 12)⟩] [4, 11, 12, 13, 14])
 (.seq
 (.cond (.t 14)
 (.skip)
 (.exit 0))
 (.seq
 (.block 1
 (.seq
 (.reg [
 ⟨some 15, none, .indexAddr 1 (.t 11) (.t 13)⟩,
 ⟨some 16, none, .load false 1 (.t 15)⟩,
 ⟨some 6, none, .mov (.t 16)⟩] [4, 6, 11, 12, 13])
 (.reg [
 ⟨some 17, none, .mov (.t 4)⟩,
 ⟨some 18, none, .mov (.t 6)⟩,
 ⟨some 19, none, .bin .add (.t 17) (.t 18)⟩,
 ⟨some 4, none, .mov (.t 19)⟩] [4, 11, 12, 13])))
 (.reg [
 ⟨some 20, none, .bin .add (.t 13) (.v (.i .i64 1))⟩,
 ⟨some 13, none, .mov (.t 20)⟩] [4, 11, 12, 13])))))))
 (.seq
 (.reg [
 ⟨some 21, none, .mov (.t 4)⟩,
 ⟨some 2, none, .mov (.t 21)⟩,
 ⟨some 3, none, .mov (.v (.b true))⟩] [2, 3])
 (.ret)))))
theorem get_impl_SumLevels : prog.funcs[fid_impl_SumLevels]? = some f22 := func22
theorem ok_impl_SumLevels : okFn prog f22 22 [] [(2, none), (3, none)] mc_impl_SumLevels = true := by kernel_rfl
def mc_impl_GraphSame : MCode :=
 .seq
 (.reg [
 ⟨some 2, none, .box 2 (.t 0)⟩,
 ⟨some 3, none, .box 2 (.t 1)⟩,
 ⟨some 4, none, .mov (.v (.b false))⟩] [2, 3])
 (.seq
 (.reg [
 ⟨some 5, none, .fieldAddr 0 (.t 2)⟩,
 ⟨some 6, none, .load false 1 (.t 5)⟩,
 ⟨some 7, none, .fieldAddr 0 (.t 3)⟩,
 ⟨some 8, none, .load false 1 (.t 7)⟩,
 ⟨some 9, none, .bin .eql (.t 6) (.t 8)⟩,
 ⟨some 10, none, .mov (.t 9)⟩,
 ⟨some 11, (some (10, true)), .fieldAddr 1 (.t 2)⟩,
 ⟨some 12, (some (10, true)), .load false 1 (.t 11)⟩,
 ⟨some 13, (some (10, true)), .fieldAddr 1 (.t 3)⟩,
 ⟨some 14, (some (10, true)), .load false 1 (.t 13)⟩,
 ⟨some 15, (some (10, true)), .call fid_slices_Equal_impl_Edge_impl_Edge false [.im, .im] [(.t 12), (.t 14)]⟩,
 ⟨some 16, none, .pick (.t 10) (.t 15) (.v (.b false))⟩,
 ⟨some 4, none, .mov (.t 16)⟩] [4])
 (.ret))
theorem get_impl_GraphSame : prog.funcs[fid_impl_GraphSame]? = some f23 := func23
theorem ok_impl_GraphSame : okFn prog f23 17 [] [(4, none)] mc_impl_GraphSame = true := by kernel_rfl
def mc_impl_LevelsValid : MCode :=
 .seq
 (.reg [
 ⟨some 1, none, .box 4 (.t 0)⟩,
 ⟨some 2, none, .mov (.v (.b false))⟩] [1])
 (.seq
 (.seq
 (.reg [
 ⟨some 9, none, .fieldAddr 0 (.t 1)⟩,
 ⟨some 10, none, .load true 2 (.t 9)⟩,
 ⟨some 11, none, .call fid_impl_GraphValid false [.im] [(.t 10)]⟩,
 ⟨some 12, none, .un .not (.t 11)⟩,
 ⟨some 13, none, .mov (.t 12)⟩,
 ⟨some 14, (some (13, false)), .fieldAddr 2 (.t 1)⟩,
 ⟨some 15, (some (13, false)), .load false 1 (.t 14)⟩,
 ⟨some 16, (some (13, false)), .len (.t 15)⟩,
 ⟨some 17, (some (13, false)), .fieldAddr 0 (.t 1)⟩,
 ⟨some 18, (some (13, false)), .fieldAddr 1 (.t 17)⟩,
 ⟨some 19, (some (13, false)), .load false 1 (.t 18)⟩,
 ⟨some 20, (some (13, false)), .len (.t 19)⟩,
 ⟨some 21, (some (13, false)), .bin .neq (.t 16) (.t 20)⟩,
 ⟨some 22, none, .pick (.t 13) (.v (.b true)) (.t 21)⟩,
 ⟨some 23, none, .mov (.t 22)⟩,
 ⟨some 24, (some (23, false)), .fieldAddr 3 (.t 1)⟩,
 ⟨some 25, (some (23, false)), .load false 1 (.t 24)⟩,
 ⟨some 26, (some (23, false)), .len (.t 25)⟩,
 ⟨some 27, (some (23, false)), .fieldAddr 0 (.t 1)⟩,
 ⟨some 28, (some (23, false)), .fieldAddr 1 (.t 27)⟩,
 ⟨some 29, (some (23, false)), .load false 1 (.t 28)⟩,
 ⟨some 30, (some (23, false)), .len (.t 29)⟩,
 ⟨some 31, (some (23, false)), .bin .neq (.t 26) (.t 30)⟩,
 ⟨some 32, none, .pick (.t 23) (.v (.b true)) (.t 31)⟩] [1, 32])
 (.cond (.t 32)
 (.seq
 (.reg [
 ⟨some 2, none, .mov (.v (.b false))⟩] [2])
 (.ret))
 (.skip)))
 (.seq
 (.seq
 (.reg [
 ⟨some 33, none, .fieldAddr 2 (.t 1)⟩,
 ⟨some 34, none, .load false 1 (.t 33)⟩,
 ⟨some 35, none, .call fid_slices_ContainsFunc_int_int false [.im, .fn] [(.t 34), (.v (.clo fid_impl_LevelsValid_1 [] []))]⟩] [1, 35])
 (.cond (.t 35)
 (.seq
 (.reg [
 ⟨some 2, none, .mov (.v (.b false))⟩] [2])
 (.ret))
 (.skip)))
 (.seq
 (.seq
 (.reg [
 ⟨some 36, none, .mov (.v (.i .i64 0))⟩] [1, 36])
 (.block 0
 (.loop [1, 36]
 (.seq
 (.reg [
 ⟨some 37, none, .bin .lss (.t 36) (.v (.i .i64 5))⟩] [1, 36, 37])
 (.seq
 (.cond (.t 37)
 (.skip)
 (.exit 0))
 (.seq
 (.block 1
 (.seq
 (.reg [
 ⟨some 38, none, .mov (.t 36)⟩,
 ⟨some 3, none, .alloc [.i .i64 0]⟩,
 ⟨none, none, .store 1 (.t 3) (.t 38)⟩] [1, 3, 36])
 (.seq
 (.draw [0, 0, 3, 0, 0, 31, 63, 0, 255, 511] [
 ⟨some 39, none, .load true 4 (.t 1)⟩,
 ⟨some 40, none, .load false 1 (.t 3)⟩,
 ⟨some 41, none, .call fid_impl_Leveled_above false [.im, .im, .im] [(.t 39), (.t 40), (.v (.b true))]⟩,
 ⟨some 42, none, .load true 4 (.t 1)⟩,
 ⟨some 43, none, .load false 1 (.t 3)⟩,
 ⟨some 44, none, .call fid_impl_Leveled_above false [.im, .im, .im] [(.t 42), (.t 43), (.v (.b false))]⟩,
 ⟨some 45, none, .call fid_impl_Graph_parts false [.im] [(.t 44)]⟩,
 ⟨some 4, none, .alloc [.i .i64 0, .nl 2]⟩,
 ⟨none, none, .store 2 (.t 4) (.t 41)⟩,
 ⟨some 5, none, .mov (.t 45)⟩] [1, 3, 4, 5, 36])
 (.seq
 (.seq
 (.draw [0, 1, 3, 0, 8, 24, 63, 127, 255, 511, 255, 2047, 4095, 8191] [
 ⟨some 46, none, .load true 2 (.t 4)⟩,
 ⟨some 47, none, .call fid_impl_Graph_forest false [.im] [(.t 46)]⟩,
 ⟨some 48, none, .len (.t 47)⟩,
 ⟨some 49, none, .fieldAddr 1 (.t 4)⟩,
 ⟨some 50, none, .load false 1 (.t 49)⟩,
 ⟨some 51, none, .len (.t 50)⟩,
 ⟨some 52, none, .bin .lss (.t 48) (.t 51)⟩,
 ⟨some 53, none, .mov (.t 52)⟩,
 ⟨some 54, (some (53, false)), .load true 2 (.t 4)⟩,
 ⟨some 55, (some (53, false)), .call fid_impl_Graph_parts false [.im] [(.t 54)]⟩,
 ⟨some 56, (some (53, false)), .mov (.t 5)⟩,
 ⟨some 57, (some (53, false)), .call fid_slices_Equal_int_int false [.im, .im] [(.t 55), (.t 56)]⟩,
 ⟨some 58, (some (53, false)), .un .not (.t 57)⟩,
 ⟨some 59, none, .pick (.t 53) (.v (.b true)) (.t 58)⟩] [1, 3, 5, 36, 59])
 (.cond (.t 59)
 (.seq
 (.reg [
 ⟨some 2, none, .mov (.v (.b false))⟩] [2])
 (.ret))
 (.skip)))
 (.seq
 (.reg [
 ⟨some 60, none, .mov (.t 5)⟩,
 ⟨some 61, none, .len (.t 60)⟩,
 ⟨some 62, none, .makeSlice 1 8 [.i .i64 0] (.t 61) (.t 61)⟩,
 ⟨some 6, none, .mov (.t 62)⟩] [1, 3, 5, 6, 36])
 (.seq
 (.seq
 (.reg [
 ⟨some 63, none, .mov (.t 5)⟩,
 ⟨some 64, none, .len (.t 63)⟩,
 ⟨some 65, none, .mov (.v (.i .i64 0))⟩] [1, 3, 6, 36, 63, 64, 65])
 (.block 2
 (.loop [1, 3, 6, 36, 63, 64, 65]
 (.seq
 (.reg [
 ⟨some 66, none, .bin .lss (.t 65) (.t 64)⟩] [1, 3, 6, 36, 63, 64, 65, 66])
 (.seq
 (.cond (.t 66)
 (.skip)
 (.exit 2))
 (.seq
 (.block 3
 (.seq
 (.reg [
 ⟨some 67, none, .indexAddr 1 (.t 63) (.t 65)⟩,
 ⟨some 68, none, .load false 1 (.t 67)⟩,
 ⟨some 8, none, .mov (.t 68)⟩] [1, 3, 6, 8, 36, 63, 64, 65])
 (.reg [
 ⟨some 69, none, .mov (.t 6)⟩,
 ⟨some 70, none, .mov (.t 8)⟩,
 ⟨some 71, none, .indexAddr 1 (.t 69) (.t 70)⟩,
 ⟨some 72, none, .load false 1 (.t 71)⟩,
 ⟨some 73, none, .bin .add (.t 72) (.v (.i .i64 1))⟩,
 ⟨some 74, none, .indexAddr 1 (.t 69) (.t 70)⟩,
 ⟨none, none, .store 1 (.t 74) (.t 73)⟩] [1, 3, 6, 36, 63, 64, 65])))
 (.reg [
 ⟨some 75, none, .bin .add (.t 65) (.v (.i .i64 1))⟩,
 ⟨some 65, none, .mov (.t 75)⟩] [1, 3, 6, 36, 63, 64, 65])))))))
 (.seq
 (.reg [
 ⟨some 76, none, .mov (.t 6)⟩,
 ⟨some 77, none, .mkfn fid_impl_LevelsValid_2 [] [(.t 1), (.t 3)]⟩,
 ⟨some 78, none, .call fid_slices_ContainsFunc_int_int false [.im, .fn] [(.t 76), (.t 77)]⟩] [1, 36, 78])
 (.cond (.t 78)
 (.seq
 (.reg [
 ⟨some 2, none, .mov (.v (.b false))⟩] [2])
 (.ret))
 (.skip)))))))))
 (.reg [
 ⟨some 79, none, .bin .add (.t 36) (.v (.i .i64 1))⟩,
 ⟨some 36, none, .mov (.t 79)⟩] [1, 36])))))))
 (.seq
 (.reg [
 ⟨some 2, none, .mov (.v (.b true))⟩] [2])
 (.ret)))))
theorem get_impl_LevelsValid : prog.funcs[fid_impl_LevelsValid]? = some f24 := func24
theorem ok_impl_LevelsValid : okFn prog f24 80 [] [(2, none)] mc_impl_LevelsValid = true := by kernel_rfl
def mc_impl_CutEdge : MCode :=
 .seq
 (.reg [
 ⟨some 2, none, .box 2 (.t 0)⟩,
 ⟨some 3, none, .box 2 (.t 1)⟩,
 ⟨some 4, none, .alloc [.i .i64 0, .nl 2]⟩,
 ⟨some 5, none, .mov (.v (.b false))⟩] [2, 3, 4])
 (.seq
 (.seq
 (.reg [
 ⟨some 6, none, .load true 2 (.t 2)⟩,
 ⟨some 7, none, .load true 2 (.t 3)⟩,
 ⟨some 8, none, .call fid_impl_HasEdge false [.im, .im] [(.t 6), (.t 7)]⟩,
 ⟨some 9, none, .un .not (.t 8)⟩] [2, 3, 4, 9])
 (.cond (.t 9)
 (.seq
 (.reg [
 ⟨some 10, none, .build [.i .i64 0, .nl 2] []⟩,
 ⟨none, none, .store 2 (.t 4) (.t 10)⟩,
 ⟨some 5, none, .mov (.v (.b false))⟩] [4, 5])
 (.ret))
 (.skip)))
 (.seq
 (.reg [
 ⟨some 11, none, .load true 2 (.t 2)⟩,
 ⟨some 12, none, .load true 2 (.t 3)⟩,
 ⟨some 13, none, .call fid_impl_Graph_cut false [.im, .im] [(.t 11), (.t 12)]⟩,
 ⟨none, none, .store 2 (.t 4) (.t 13)⟩,
 ⟨some 5, none, .mov (.v (.b true))⟩] [4, 5])
 (.ret)))
theorem get_impl_CutEdge : prog.funcs[fid_impl_CutEdge]? = some f26 := func26
theorem ok_impl_CutEdge : okFn prog f26 14 [] [(4, some (true, 2)), (5, none)] mc_impl_CutEdge = true := by kernel_rfl
def mc_impl_PartCount : MCode :=
 .seq
 (.reg [
 ⟨some 1, none, .box 2 (.t 0)⟩,
 ⟨some 2, none, .mov (.v (.i .i64 0))⟩] [1])
 (.seq
 (.reg [
 ⟨some 3, none, .mov (.v (.i .i64 0))⟩] [1, 3])
 (.seq
 (.seq
 (.reg [
 ⟨some 6, none, .load true 2 (.t 1)⟩,
 ⟨some 7, none, .call fid_impl_PartsOf false [.im] [(.t 6)]⟩,
 ⟨some 8, none, .len (.t 7)⟩,
 ⟨some 9, none, .mov (.v (.i .i64 0))⟩] [3, 7, 8, 9])
 (.block 0
 (.loop [3, 7, 8, 9]
 (.seq
 (.reg [
 ⟨some 10, none, .bin .lss (.t 9) (.t 8)⟩] [3, 7, 8, 9, 10])
 (.seq
 (.cond (.t 10)
 (.skip)
 (.exit 0))
 (.seq
 (.block 1
 (.seq
 (.reg [
 ⟨some 11, none, .mov (.t 9)⟩,
 ⟨some 12, none, .indexAddr 1 (.t 7) (.t 9)⟩,
 ⟨some 13, none, .load false 1 (.t 12)⟩,
 ⟨some 4, none, .mov (.t 11)⟩,
 ⟨some 5, none, .mov (.t 13)⟩] [3, 4, 5, 7, 8, 9])
 (.seq
 (.reg [
 ⟨some 14, none, .mov (.t 4)⟩,
 ⟨some 15, none, .mov (.t 5)⟩,
 ⟨some 16, none, .bin .eql (.t 14) (.t 15)⟩] [3, 7, 8, 9, 16])
 (.cond (.t 16)
 (.reg [
 ⟨some 17, none, .mov (.t 3)⟩,
 ⟨some 18, none, .bin .add (.t 17) (.v (.i .i64 1))⟩,
 ⟨some 3, none, .mov (.t 18)⟩] [3, 7, 8, 9])
 (.skip)))))
 (.reg [
 ⟨some 19, none, .bin .add (.t 9) (.v (.i .i64 1))⟩,
 ⟨some 9, none, .mov (.t 19)⟩] [3, 7, 8, 9])))))))
 (.seq
 (.reg [
 ⟨some 20, none, .mov (.t 3)⟩,
 ⟨some 2, none, .mov (.t 20)⟩] [2])
 (.ret))))
theorem get_impl_PartCount : prog.funcs[fid_impl_PartCount]? = some f27 := func27
theorem ok_impl_PartCount : okFn prog f27 21 [] [(2, none)] mc_impl_PartCount = true := by kernel_rfl
def mc_impl_LevelForest : MCode :=
 .seq
 (.reg [
 ⟨some 2, none, .box 4 (.t 0)⟩,
 ⟨some 4, none, .mov (.v (.nl 2))⟩,
 ⟨some 5, none, .mov (.v (.b false))⟩] [1, 2])
 (.seq
 (.seq
 (.reg [
 ⟨some 6, none, .load true 4 (.t 2)⟩,
 ⟨some 7, none, .call fid_impl_LevelsValid false [.im] [(.t 6)]⟩,
 ⟨some 8, none, .un .not (.t 7)⟩,
 ⟨some 9, none, .mov (.t 8)⟩,
 ⟨some 10, (some (9, false)), .mov (.t 1)⟩,
 ⟨some 11, (some (9, false)), .bin .lss (.t 10) (.v (.i .i64 0))⟩,
 ⟨some 12, none, .pick (.t 9) (.v (.b true)) (.t 11)⟩,
 ⟨some 13, none, .mov (.t 12)⟩,
 ⟨some 14, (some (13, false)), .mov (.t 1)⟩,
 ⟨some 15, (some (13, false)), .bin .gtr (.t 14) (.v (.i .i64 4))⟩,
 ⟨some 16, none, .pick (.t 13) (.v (.b true)) (.t 15)⟩] [1, 2, 16])
 (.cond (.t 16)
 (.seq
 (.reg [
 ⟨some 4, none, .mov (.v (.nl 2))⟩,
 ⟨some 5, none, .mov (.v (.b false))⟩] [4, 5])
 (.ret))
 (.skip)))
 (.seq
 (.reg [
 ⟨some 17, none, .load true 4 (.t 2)⟩,
 ⟨some 18, none, .mov (.t 1)⟩,
 ⟨some 19, none, .call fid_impl_Leveled_above false [.im, .im, .im] [(.t 17), (.t 18), (.v (.b true))]⟩,
 ⟨some 20, none, .field false 1 1 (.t 19)⟩,
 ⟨some 4, none, .mov (.t 20)⟩,
 ⟨some 5, none, .mov (.v (.b true))⟩] [4, 5])
 (.ret)))
theorem get_impl_LevelForest : prog.funcs[fid_impl_LevelForest]? = some f32 := func32
theorem ok_impl_LevelForest : okFn prog f32 21 [] [(4, none), (5, none)] mc_impl_LevelForest = true := by kernel_rfl
def mc_impl_Graph_has : MCode :=
 .seq
 (.reg [
 ⟨some 2, none, .box 2 (.t 0)⟩,
 ⟨some 3, none, .box 2 (.t 1)⟩,
 ⟨some 4, none, .mov (.v (.b false))⟩] [2, 3])
 (.seq
 (.reg [
 ⟨some 5, none, .fieldAddr 1 (.t 2)⟩,
 ⟨some 6, none, .load false 1 (.t 5)⟩,
 ⟨some 7, none, .load true 2 (.t 3)⟩,
 ⟨some 8, none, .call fid_slices_Contains_impl_Edge_impl_Edge false [.im, .im] [(.t 6), (.t 7)]⟩,
 ⟨some 4, none, .mov (.t 8)⟩] [4])
 (.ret))
theorem get_impl_Graph_has : prog.funcs[fid_impl_Graph_has]? = some f45 := func45
theorem ok_impl_Graph_has : okFn prog f45 9 [] [(4, none)] mc_impl_Graph_has = true := by kernel_rfl
def mc_slices_Index_impl_Edge_impl_Edge : MCode :=
 .seq
 (.reg [
 ⟨some 3, none, .box 2 (.t 1)⟩,
 ⟨some 4, none, .mov (.v (.i .i64 0))⟩] [0, 3])
 (.seq
 (.seq
 (.reg [
 ⟨some 6, none, .mov (.t 0)⟩,
 ⟨some 7, none, .len (.t 6)⟩,
 ⟨some 8, none, .mov (.v (.i .i64 0))⟩] [0, 3, 7, 8])
 (.block 0
 (.loop [0, 3, 7, 8]
 (.seq
 (.reg [
 ⟨some 9, none, .bin .lss (.t 8) (.t 7)⟩] [0, 3, 7, 8, 9])
 (.seq
 (.cond (.t 9)
 (.skip)
 (.exit 0))
 (.seq
 (.block 1
 (.seq
 (.reg [
 ⟨some 10, none, .mov (.t 8)⟩,
 ⟨some 5, none, .mov (.t 10)⟩] [0, 3, 5, 7, 8])
 (.seq
 (.draw [0, 0, 0, 6, 14, 31] [
 ⟨some 11, none, .load true 2 (.t 3)⟩,
 ⟨some 12, none, .mov (.t 0)⟩,
 ⟨some 13, none, .mov (.t 5)⟩,
 ⟨some 14, none, .indexAddr 2 (.t 12) (.t 13)⟩,
 ⟨some 15, none, .load true 2 (.t 14)⟩,
 ⟨some 16, none, .eqAgg false [true, true] (.t 11) (.t 15)⟩] [0, 3, 5, 7, 8, 16])
 (.cond (.t 16)
 (.seq
 (.reg [
 ⟨some 17, none, .mov (.t 5)⟩,
 ⟨some 4, none, .mov (.t 17)⟩] [4])
 (.ret))
 (.skip)))))
 (.reg [
 ⟨some 18, none, .bin .add (.t 8) (.v (.i .i64 1))⟩,
 ⟨some 8, none, .mov (.t 18)⟩] [0, 3, 7, 8])))))))
 (.seq
 (.reg [
 ⟨some 4, none, .mov (.v (.i .i64 (-1)))⟩] [4])
 (.ret)))
theorem get_slices_Index_impl_Edge_impl_Edge : prog.funcs[fid_slices_Index_impl_Edge_impl_Edge]? = some f46 := func46
theorem ok_slices_Index_impl_Edge_impl_Edge : okFn prog f46 19 [] [(4, none)] mc_slices_Index_impl_Edge_impl_Edge = true := by kernel_rfl
def mc_impl_Graph_cut : MCode :=
 .seq
 (.reg [
 ⟨some 2, none, .box 2 (.t 0)⟩,
 ⟨some 3, none, .box 2 (.t 1)⟩,
 ⟨some 4, none, .alloc [.i .i64 0, .nl 2]⟩] [2, 3, 4])
 (.seq
 (.reg [
 ⟨some 5, none, .load true 2 (.t 2)⟩,
 ⟨some 6, none, .mkfn fid_impl_Graph_cut_1 [] [(.t 3)]⟩,
 ⟨some 7, none, .call fid_impl_Graph_without false [.im, .fn] [(.t 5), (.t 6)]⟩,
 ⟨none, none, .store 2 (.t 4) (.t 7)⟩] [4])
 (.ret))
theorem get_impl_Graph_cut : prog.funcs[fid_impl_Graph_cut]? = some f47 := func47
theorem ok_impl_Graph_cut : okFn prog f47 8 [] [(4, some (true, 2))] mc_impl_Graph_cut = true := by kernel_rfl
def mc_slices_Delete_int_int : MCode :=
 .seq
 (.reg [
 ⟨some 6, none, .mov (.v (.nl 1))⟩] [0, 1, 2])
 (.seq
 (.reg [
 ⟨some 8, none, .mov (.t 0)⟩,
 ⟨some 9, none, .mov (.t 1)⟩,
 ⟨some 10, none, .mov (.t 2)⟩,
 ⟨some 11, none, .mov (.t 0)⟩,
 ⟨some 12, none, .len (.t 11)⟩,
 ⟨some 13, none, .slice3 (.t 8) (some (.t 9)) (some (.t 10)) (some (.t 12))⟩] [0, 1, 2])
 (.seq
 (.seq
 (.reg [
 ⟨some 14, none, .mov (.t 1)⟩,
 ⟨some 15, none, .mov (.t 2)⟩,
 ⟨some 16, none, .bin .eql (.t 14) (.t 15)⟩] [0, 1, 2, 16])
 (.cond (.t 16)
 (.seq
 (.reg [
 ⟨some 17, none, .mov (.t 0)⟩,
 ⟨some 6, none, .mov (.t 17)⟩] [6])
 (.ret))
 (.skip)))
 (.seq
 (.reg [
 ⟨some 18, none, .mov (.t 0)⟩,
 ⟨some 19, none, .len (.t 18)⟩,
 ⟨some 7, none, .mov (.t 19)⟩] [0, 1, 2, 7])
 (.seq
 (.draw [0, 0, 3, 0, 0, 24, 63, 127] [
 ⟨some 20, none, .mov (.t 0)⟩,
 ⟨some 21, none, .mov (.t 1)⟩,
 ⟨some 22, none, .sliceHd 1 (.t 20) (some (.t 21))⟩,
 ⟨some 23, none, .mov (.t 0)⟩,
 ⟨some 24, none, .mov (.t 2)⟩,
 ⟨some 25, none, .slice 1 (.t 23) (some (.t 24)) none⟩,
 ⟨some 26, none, .appendIn 1 (.t 22) (.t 25)⟩,
 ⟨some 0, none, .mov (.t 26)⟩] [0, 7])
 (.seq
 (.reg [
 ⟨some 27, none, .mov (.t 0)⟩,
 ⟨some 28, none, .mov (.t 0)⟩,
 ⟨some 29, none, .len (.t 28)⟩,
 ⟨some 30, none, .mov (.t 7)⟩,
 ⟨some 31, none, .sliceUp 1 (.t 27) (some (.t 29)) (some (.t 30))⟩,
 ⟨none, none, .clear 1 [.i .i64 0] (.t 31)⟩] [0])
 (.seq
 (.reg [
 ⟨some 32, none, .mov (.t 0)⟩,
 ⟨some 6, none, .mov (.t 32)⟩] [6])
 (.ret)))))))
theorem get_slices_Delete_int_int : prog.funcs[fid_slices_Delete_int_int]? = some f48 := func48
theorem ok_slices_Delete_int_int : okFn prog f48 33 [] [(6, none)] mc_slices_Delete_int_int = true := by kernel_rfl
def mc_slices_Clone_int_int : MCode :=
 .seq
 (.reg [
 ⟨some 2, none, .mov (.v (.nl 1))⟩] [0])
 (.seq
 (.seq
 (.reg [
 ⟨some 3, none, .mov (.t 0)⟩,
 ⟨some 4, none, .nilq false (.t 3)⟩] [0, 4])
 (.cond (.t 4)
 (.seq
 (.reg [
 ⟨some 2, none, .mov (.v (.nl 1))⟩] [2])
 (.ret))
 (.skip)))
 (.seq
 (.reg [
 ⟨some 5, none, .buildSlice 1 []⟩,
 ⟨some 6, none, .mov (.t 0)⟩,
 ⟨some 7, none, .append 1 8 false (.t 5) (.t 6)⟩,
 ⟨some 2, none, .mov (.t 7)⟩] [2])
 (.ret)))
theorem get_slices_Clone_int_int : prog.funcs[fid_slices_Clone_int_int]? = some f49 := func49
theorem ok_slices_Clone_int_int : okFn prog f49 8 [] [(2, none)] mc_slices_Clone_int_int = true := by kernel_rfl
def mc_slices_Delete_bool_bool : MCode :=
 .seq
 (.reg [
 ⟨some 6, none, .mov (.v (.nl 1))⟩] [0, 1, 2])
 (.seq
 (.reg [
 ⟨some 8, none, .mov (.t 0)⟩,
 ⟨some 9, none, .mov (.t 1)⟩,
 ⟨some 10, none, .mov (.t 2)⟩,
 ⟨some 11, none, .mov (.t 0)⟩,
 ⟨some 12, none, .len (.t 11)⟩,
 ⟨some 13, none, .slice3 (.t 8) (some (.t 9)) (some (.t 10)) (some (.t 12))⟩] [0, 1, 2])
 (.seq
 (.seq
 (.reg [
 ⟨some 14, none, .mov (.t 1)⟩,
 ⟨some 15, none, .mov (.t 2)⟩,
 ⟨some 16, none, .bin .eql (.t 14) (.t 15)⟩] [0, 1, 2, 16])
 (.cond (.t 16)
 (.seq
 (.reg [
 ⟨some 17, none, .mov (.t 0)⟩,
 ⟨some 6, none, .mov (.t 17)⟩] [6])
 (.ret))
 (.skip)))
 (.seq
 (.reg [
 ⟨some 18, none, .mov (.t 0)⟩,
 ⟨some 19, none, .len (.t 18)⟩,
 ⟨some 7, none, .mov (.t 19)⟩] [0, 1, 2, 7])
 (.seq
 (.draw [0, 0, 3, 0, 0, 24, 63, 127] [
 ⟨some 20, none, .mov (.t 0)⟩,
 ⟨some 21, none, .mov (.t 1)⟩,
 ⟨some 22, none, .sliceHd 1 (.t 20) (some (.t 21))⟩,
 ⟨some 23, none, .mov (.t 0)⟩,
 ⟨some 24, none, .mov (.t 2)⟩,
 ⟨some 25, none, .slice 1 (.t 23) (some (.t 24)) none⟩,
 ⟨some 26, none, .appendIn 1 (.t 22) (.t 25)⟩,
 ⟨some 0, none, .mov (.t 26)⟩] [0, 7])
 (.seq
 (.reg [
 ⟨some 27, none, .mov (.t 0)⟩,
 ⟨some 28, none, .mov (.t 0)⟩,
 ⟨some 29, none, .len (.t 28)⟩,
 ⟨some 30, none, .mov (.t 7)⟩,
 ⟨some 31, none, .sliceUp 1 (.t 27) (some (.t 29)) (some (.t 30))⟩,
 ⟨none, none, .clear 1 [.b false] (.t 31)⟩] [0])
 (.seq
 (.reg [
 ⟨some 32, none, .mov (.t 0)⟩,
 ⟨some 6, none, .mov (.t 32)⟩] [6])
 (.ret)))))))
theorem get_slices_Delete_bool_bool : prog.funcs[fid_slices_Delete_bool_bool]? = some f50 := func50
theorem ok_slices_Delete_bool_bool : okFn prog f50 33 [] [(6, none)] mc_slices_Delete_bool_bool = true := by kernel_rfl
def mc_slices_Clone_bool_bool : MCode :=
 .seq
 (.reg [
 ⟨some 2, none, .mov (.v (.nl 1))⟩] [0])
 (.seq
 (.seq
 (.reg [
 ⟨some 3, none, .mov (.t 0)⟩,
 ⟨some 4, none, .nilq false (.t 3)⟩] [0, 4])
 (.cond (.t 4)
 (.seq
 (.reg [
 ⟨some 2, none, .mov (.v (.nl 1))⟩] [2])
 (.ret))
 (.skip)))
 (.seq
 (.reg [
 ⟨some 5, none, .buildSlice 1 []⟩,
 ⟨some 6, none, .mov (.t 0)⟩,
 ⟨some 7, none, .append 1 1 false (.t 5) (.t 6)⟩,
 ⟨some 2, none, .mov (.t 7)⟩] [2])
 (.ret)))
theorem get_slices_Clone_bool_bool : prog.funcs[fid_slices_Clone_bool_bool]? = some f51 := func51
theorem ok_slices_Clone_bool_bool : okFn prog f51 8 [] [(2, none)] mc_slices_Clone_bool_bool = true := by kernel_rfl
def mc_p_impl_Leveled_replace : MCode :=
 .seq
 (.reg [
 ⟨some 4, none, .box 2 (.t 1)⟩,
 ⟨some 6, none, .mov (.v (.i .i64 0))⟩,
 ⟨some 7, none, .mov (.v (.b false))⟩] [0, 2, 4])
 (.seq
 (.reg [
 ⟨some 18, none, .mov (.t 0)⟩,
 ⟨some 19, none, .nilCheck (.t 18)⟩,
 ⟨some 20, none, .load true 4 (.t 19)⟩,
 ⟨some 21, none, .mov (.t 2)⟩,
 ⟨some 22, none, .call fid_impl_Leveled_above false [.im, .im, .im] [(.t 20), (.t 21), (.v (.b true))]⟩,
 ⟨some 23, none, .call fid_impl_Graph_parts false [.im] [(.t 22)]⟩,
 ⟨some 8, none, .alloc [.nl 1]⟩,
 ⟨none, none, .store 1 (.t 8) (.t 23)⟩] [0, 2, 4, 8])
 (.seq
 (.reg [
 ⟨some 24, none, .mkfn fid_p_impl_Leveled_replace_1 [] [(.t 8)]⟩,
 ⟨some 9, none, .mov (.t 24)⟩] [0, 2, 4, 8, 9])
 (.seq
 (.reg [
 ⟨some 25, none, .load false 1 (.t 8)⟩,
 ⟨some 26, none, .fieldAddr 0 (.t 4)⟩,
 ⟨some 27, none, .load false 1 (.t 26)⟩,
 ⟨some 28, none, .indexAddr 1 (.t 25) (.t 27)⟩,
 ⟨some 29, none, .load false 1 (.t 28)⟩,
 ⟨some 10, none, .mov (.t 29)⟩,
 ⟨some 11, none, .mov (.v (.i .i64 0))⟩] [0, 2, 4, 8, 9, 10, 11])
 (.cut [0, 2, 8, 10, 11]
 (.seq
 (.draw [0, 0, 0, 4, 14, 30, 63, 0, 0, 0, 512, 1792, 3840, 8191, 16383] [
 ⟨some 30, none, .mov (.t 9)⟩,
 ⟨some 31, none, .load false 1 (.t 8)⟩,
 ⟨some 32, none, .fieldAddr 1 (.t 4)⟩,
 ⟨some 33, none, .load false 1 (.t 32)⟩,
 ⟨some 34, none, .indexAddr 1 (.t 31) (.t 33)⟩,
 ⟨some 35, none, .load false 1 (.t 34)⟩,
 ⟨some 36, none, .callv (.t 30) [(.t 35)]⟩,
 ⟨some 37, none, .mov (.t 9)⟩,
 ⟨some 38, none, .load false 1 (.t 8)⟩,
 ⟨some 39, none, .fieldAddr 0 (.t 4)⟩,
 ⟨some 40, none, .load false 1 (.t 39)⟩,
 ⟨some 41, none, .indexAddr 1 (.t 38) (.t 40)⟩,
 ⟨some 42, none, .load false 1 (.t 41)⟩,
 ⟨some 43, none, .callv (.t 37) [(.t 42)]⟩,
 ⟨some 44, none, .bin .lss (.t 36) (.t 43)⟩] [0, 2, 4, 8, 10, 11, 44])
 (.cond (.t 44)
 (.reg [
 ⟨some 45, none, .load false 1 (.t 8)⟩,
 ⟨some 46, none, .fieldAddr 1 (.t 4)⟩,
 ⟨some 47, none, .load false 1 (.t 46)⟩,
 ⟨some 48, none, .indexAddr 1 (.t 45) (.t 47)⟩,
 ⟨some 49, none, .load false 1 (.t 48)⟩,
 ⟨some 10, none, .mov (.t 49)⟩] [0, 2, 8, 10, 11])
 (.skip)))
 (.cut [0, 2, 8, 10, 11]
 (.seq
 (.reg [
 ⟨some 50, none, .mov (.t 0)⟩,
 ⟨some 51, none, .nilCheck (.t 50)⟩,
 ⟨some 52, none, .fieldAddr 0 (.t 51)⟩,
 ⟨some 53, none, .fieldAddr 1 (.t 52)⟩,
 ⟨some 54, none, .load false 1 (.t 53)⟩,
 ⟨some 55, none, .len (.t 54)⟩,
 ⟨some 56, none, .mov (.v (.i .i64 0))⟩] [0, 2, 8, 10, 11, 54, 55, 56])
 (.block 0
 (.loop [0, 2, 8, 10, 11, 54, 55, 56]
 (.seq
 (.reg [
 ⟨some 57, none, .bin .lss (.t 56) (.t 55)⟩] [0, 2, 8, 10, 11, 54, 55, 56, 57])
 (.seq
 (.cond (.t 57)
 (.skip)
 (.exit 0))
 (.seq
 (.block 1
 (.seq
 (.reg [
 ⟨some 58, none, .mov (.t 56)⟩,
 ⟨some 59, none, .indexAddr 2 (.t 54) (.t 56)⟩,
 ⟨some 60, none, .load true 2 (.t 59)⟩,
 ⟨some 13, none, .alloc [.i .i64 0, .i .i64 0]⟩,
 ⟨some 12, none, .mov (.t 58)⟩,
 ⟨none, none, .store 2 (.t 13) (.t 60)⟩] [0, 2, 8, 10, 11, 12, 13, 54, 55, 56])
 (.seq
 (.reg [
 ⟨some 61, none, .mov (.t 0)⟩,
 ⟨some 62, none, .nilCheck (.t 61)⟩,
 ⟨some 63, none, .fieldAddr 3 (.t 62)⟩,
 ⟨some 64, none, .load false 1 (.t 63)⟩,
 ⟨some 65, none, .mov (.t 12)⟩,
 ⟨some 66, none, .indexAddr 1 (.t 64) (.t 65)⟩,
 ⟨some 67, none, .load false 1 (.t 66)⟩,
 ⟨some 68, none, .mov (.t 67)⟩,
 ⟨some 69, (some (68, true)), .mov (.t 0)⟩,
 ⟨some 70, (some (68, true)), .nilCheck (.t 69)⟩,
 ⟨some 71, (some (68, true)), .fieldAddr 2 (.t 70)⟩,
 ⟨some 72, (some (68, true)), .load false 1 (.t 71)⟩,
 ⟨some 73, (some (68, true)), .mov (.t 12)⟩,
 ⟨some 74, (some (68, true)), .indexAddr 1 (.t 72) (.t 73)⟩,
 ⟨some 75, (some (68, true)), .load false 1 (.t 74)⟩,
 ⟨some 76, (some (68, true)), .mov (.t 2)⟩,
 ⟨some 77, (some (68, true)), .bin .eql (.t 75) (.t 76)⟩,
 ⟨some 78, none, .pick (.t 68) (.t 77) (.v (.b false))⟩,
 ⟨some 79, none, .mov (.t 78)⟩,
 ⟨some 80, (some (79, true)), .load false 1 (.t 8)⟩,
 ⟨some 81, (some (79, true)), .fieldAddr 0 (.t 13)⟩,
 ⟨some 82, (some (79, true)), .load false 1 (.t 81)⟩,
 ⟨some 83, (some (79, true)), .indexAddr 1 (.t 80) (.t 82)⟩,
 ⟨some 84, (some (79, true)), .load false 1 (.t 83)⟩,
 ⟨some 85, (some (79, true)), .mov (.t 10)⟩,
 ⟨some 86, (some (79, true)), .bin .eql (.t 84) (.t 85)⟩,
 ⟨some 87, none, .pick (.t 79) (.t 86) (.v (.b false))⟩,
 ⟨some 88, none, .mov (.t 87)⟩,
 ⟨some 89, (some (88, true)), .load false 1 (.t 8)⟩,
 ⟨some 90, (some (88, true)), .fieldAddr 1 (.t 13)⟩,
 ⟨some 91, (some (88, true)), .load false 1 (.t 90)⟩,
 ⟨some 92, (some (88, true)), .indexAddr 1 (.t 89) (.t 91)⟩,
 ⟨some 93, (some (88, true)), .load false 1 (.t 92)⟩,
 ⟨some 94, (some (88, true)), .mov (.t 10)⟩,
 ⟨some 95, (some (88, true)), .bin .eql (.t 93) (.t 94)⟩,
 ⟨some 96, none, .pick (.t 88) (.t 95) (.v (.b false))⟩] [0, 2, 8, 10, 11, 12, 54, 55, 56, 96])
 (.cond (.t 96)
 (.seq
 (.reg [
 ⟨some 97, none, .mov (.t 0)⟩,
 ⟨some 98, none, .nilCheck (.t 97)⟩,
 ⟨some 99, none, .fieldAddr 2 (.t 98)⟩,
 ⟨some 100, none, .load false 1 (.t 99)⟩,
 ⟨some 101, none, .mov (.t 12)⟩,
 ⟨some 102, none, .indexAddr 1 (.t 100) (.t 101)⟩,
 ⟨some 103, none, .load false 1 (.t 102)⟩,
 ⟨some 104, none, .bin .add (.t 103) (.v (.i .i64 1))⟩,
 ⟨some 105, none, .indexAddr 1 (.t 100) (.t 101)⟩,
 ⟨none, none, .store 1 (.t 105) (.t 104)⟩] [0, 2, 8, 10, 11, 54, 55, 56])
 (.reg [
 ⟨some 106, none, .mov (.t 11)⟩,
 ⟨some 107, none, .bin .add (.t 106) (.v (.i .i64 1))⟩,
 ⟨some 11, none, .mov (.t 107)⟩] [0, 2, 8, 10, 11, 54, 55, 56]))
 (.skip)))))
 (.reg [
 ⟨some 108, none, .bin .add (.t 56) (.v (.i .i64 1))⟩,
 ⟨some 56, none, .mov (.t 108)⟩] [0, 2, 8, 10, 11, 54, 55, 56])))))))
 (.seq
 (.seq
 (.reg [
 ⟨some 109, none, .mov (.t 0)⟩,
 ⟨some 110, none, .nilCheck (.t 109)⟩,
 ⟨some 111, none, .fieldAddr 0 (.t 110)⟩,
 ⟨some 112, none, .fieldAddr 1 (.t 111)⟩,
 ⟨some 113, none, .load false 1 (.t 112)⟩,
 ⟨some 114, none, .len (.t 113)⟩,
 ⟨some 115, none, .mov (.v (.i .i64 0))⟩] [0, 2, 8, 10, 11, 113, 114, 115])
 (.block 2
 (.loop [0, 2, 8, 10, 11, 113, 114, 115]
 (.seq
 (.reg [
 ⟨some 116, none, .bin .lss (.t 115) (.t 114)⟩] [0, 2, 8, 10, 11, 113, 114, 115, 116])
 (.seq
 (.cond (.t 116)
 (.skip)
 (.exit 2))
 (.seq
 (.block 3
 (.seq
 (.reg [
 ⟨some 117, none, .mov (.t 115)⟩,
 ⟨some 118, none, .indexAddr 2 (.t 113) (.t 115)⟩,
 ⟨some 119, none, .load true 2 (.t 118)⟩,
 ⟨some 15, none, .alloc [.i .i64 0, .i .i64 0]⟩,
 ⟨some 14, none, .mov (.t 117)⟩,
 ⟨none, none, .store 2 (.t 15) (.t 119)⟩] [0, 2, 8, 10, 11, 14, 15, 113, 114, 115])
 (.seq
 (.draw [0, 0, 2, 7, 15, 0, 63, 0, 0, 256, 896, 1920, 0, 8064, 127, 32767] [
 ⟨some 120, none, .load false 1 (.t 8)⟩,
 ⟨some 121, none, .fieldAddr 0 (.t 15)⟩,
 ⟨some 122, none, .load false 1 (.t 121)⟩,
 ⟨some 123, none, .indexAddr 1 (.t 120) (.t 122)⟩,
 ⟨some 124, none, .load false 1 (.t 123)⟩,
 ⟨some 125, none, .mov (.t 10)⟩,
 ⟨some 126, none, .bin .eql (.t 124) (.t 125)⟩,
 ⟨some 127, none, .load false 1 (.t 8)⟩,
 ⟨some 128, none, .fieldAddr 1 (.t 15)⟩,
 ⟨some 129, none, .load false 1 (.t 128)⟩,
 ⟨some 130, none, .indexAddr 1 (.t 127) (.t 129)⟩,
 ⟨some 131, none, .load false 1 (.t 130)⟩,
 ⟨some 132, none, .mov (.t 10)⟩,
 ⟨some 133, none, .bin .eql (.t 131) (.t 132)⟩,
 ⟨some 16, none, .mov (.t 126)⟩,
 ⟨some 17, none, .mov (.t 133)⟩] [0, 2, 8, 10, 11, 14, 16, 17, 113, 114, 115])
 (.seq
 (.seq
 (.reg [
 ⟨some 134, none, .mov (.t 0)⟩,
 ⟨some 135, none, .nilCheck (.t 134)⟩,
 ⟨some 136, none, .fieldAddr 3 (.t 135)⟩,
 ⟨some 137, none, .load false 1 (.t 136)⟩,
 ⟨some 138, none, .mov (.t 14)⟩,
 ⟨some 139, none, .indexAddr 1 (.t 137) (.t 138)⟩,
 ⟨some 140, none, .load false 1 (.t 139)⟩,
 ⟨some 141, none, .mov (.t 140)⟩,
 ⟨some 142, (some (141, false)), .mov (.t 0)⟩,
 ⟨some 143, (some (141, false)), .nilCheck (.t 142)⟩,
 ⟨some 144, (some (141, false)), .fieldAddr 2 (.t 143)⟩,
 ⟨some 145, (some (141, false)), .load false 1 (.t 144)⟩,
 ⟨some 146, (some (141, false)), .mov (.t 14)⟩,
 ⟨some 147, (some (141, false)), .indexAddr 1 (.t 145) (.t 146)⟩,
 ⟨some 148, (some (141, false)), .load false 1 (.t 147)⟩,
 ⟨some 149, (some (141, false)), .mov (.t 2)⟩,
 ⟨some 150, (some (141, false)), .bin .neq (.t 148) (.t 149)⟩,
 ⟨some 151, none, .pick (.t 141) (.v (.b true)) (.t 150)⟩,
 ⟨some 152, none, .mov (.t 151)⟩,
 ⟨some 153, (some (152, false)), .mov (.t 16)⟩,
 ⟨some 154, (some (152, false)), .un .not (.t 153)⟩,
 ⟨some 155, (some (152, false)), .mov (.t 154)⟩,
 ⟨some 156, (some (155, true)), .mov (.t 17)⟩,
 ⟨some 157, (some (155, true)), .un .not (.t 156)⟩,
 ⟨some 158, (some (152, false)), .pick (.t 155) (.t 157) (.v (.b false))⟩,
 ⟨some 159, none, .pick (.t 152) (.v (.b true)) (.t 158)⟩] [0, 2, 8, 10, 11, 14, 16, 17, 113, 114, 115, 159])
 (.cond (.t 159)
 (.exit 3)
 (.skip)))
 (.seq
 (.seq
 (.reg [
 ⟨some 160, none, .mov (.t 16)⟩,
 ⟨some 161, none, .mov (.t 17)⟩,
 ⟨some 162, none, .binb true (.t 160) (.t 161)⟩] [0, 2, 8, 10, 11, 14, 113, 114, 115, 162])
 (.cond (.t 162)
 (.seq
 (.reg [
 ⟨some 163, none, .mov (.t 0)⟩,
 ⟨some 164, none, .nilCheck (.t 163)⟩,
 ⟨some 165, none, .fieldAddr 3 (.t 164)⟩,
 ⟨some 166, none, .load false 1 (.t 165)⟩,
 ⟨some 167, none, .mov (.t 14)⟩,
 ⟨some 168, none, .indexAddr 1 (.t 166) (.t 167)⟩,
 ⟨none, none, .store 1 (.t 168) (.v (.b true))⟩] [0, 11])
 (.seq
 (.reg [
 ⟨some 169, none, .mov (.t 11)⟩,
 ⟨some 6, none, .mov (.t 169)⟩,
 ⟨some 7, none, .mov (.v (.b true))⟩] [0, 6, 7])
 (.ret)))
 (.skip)))
 (.seq
 (.reg [
 ⟨some 170, none, .mov (.t 0)⟩,
 ⟨some 171, none, .nilCheck (.t 170)⟩,
 ⟨some 172, none, .fieldAddr 2 (.t 171)⟩,
 ⟨some 173, none, .load false 1 (.t 172)⟩,
 ⟨some 174, none, .mov (.t 14)⟩,
 ⟨some 175, none, .indexAddr 1 (.t 173) (.t 174)⟩,
 ⟨some 176, none, .load false 1 (.t 175)⟩,
 ⟨some 177, none, .bin .add (.t 176) (.v (.i .i64 1))⟩,
 ⟨some 178, none, .indexAddr 1 (.t 173) (.t 174)⟩,
 ⟨none, none, .store 1 (.t 178) (.t 177)⟩] [0, 2, 8, 10, 11, 113, 114, 115])
 (.reg [
 ⟨some 179, none, .mov (.t 11)⟩,
 ⟨some 180, none, .bin .add (.t 179) (.v (.i .i64 1))⟩,
 ⟨some 11, none, .mov (.t 180)⟩] [0, 2, 8, 10, 11, 113, 114, 115])))))))
 (.reg [
 ⟨some 181, none, .bin .add (.t 115) (.v (.i .i64 1))⟩,
 ⟨some 115, none, .mov (.t 181)⟩] [0, 2, 8, 10, 11, 113, 114, 115])))))))
 (.seq
 (.reg [
 ⟨some 182, none, .mov (.t 11)⟩,
 ⟨some 6, none, .mov (.t 182)⟩,
 ⟨some 7, none, .mov (.v (.b false))⟩] [0, 6, 7])
 (.ret))))))))
theorem get_p_impl_Leveled_replace : prog.funcs[fid_p_impl_Leveled_replace]? = some f52 := func52
theorem ok_p_impl_Leveled_replace : okFn prog f52 183 [0] [(6, none), (7, none)] mc_p_impl_Leveled_replace = true := by kernel_rfl
def mc_slices_Insert_int_int : MCode :=
 .seq
 (.reg [
 ⟨some 6, none, .mov (.v (.nl 1))⟩] [0, 1, 2])
 (.seq
 (.reg [
 ⟨some 10, none, .mov (.t 0)⟩,
 ⟨some 11, none, .mov (.t 1)⟩,
 ⟨some 12, none, .slice 1 (.t 10) (some (.t 11)) none⟩] [0, 1, 2])
 (.seq
 (.reg [
 ⟨some 13, none, .mov (.t 2)⟩,
 ⟨some 14, none, .len (.t 13)⟩,
 ⟨some 7, none, .mov (.t 14)⟩] [0, 1, 2, 7])
 (.seq
 (.seq
 (.reg [
 ⟨some 15, none, .mov (.t 7)⟩,
 ⟨some 16, none, .bin .eql (.t 15) (.v (.i .i64 0))⟩] [0, 1, 2, 7, 16])
 (.cond (.t 16)
 (.seq
 (.reg [
 ⟨some 17, none, .mov (.t 0)⟩,
 ⟨some 6, none, .mov (.t 17)⟩] [6])
 (.ret))
 (.skip)))
 (.seq
 (.reg [
 ⟨some 18, none, .mov (.t 0)⟩,
 ⟨some 19, none, .len (.t 18)⟩,
 ⟨some 8, none, .mov (.t 19)⟩] [0, 1, 2, 7, 8])
 (.seq
 (.seq
 (.reg [
 ⟨some 20, none, .mov (.t 1)⟩,
 ⟨some 21, none, .mov (.t 8)⟩,
 ⟨some 22, none, .bin .eql (.t 20) (.t 21)⟩] [0, 1, 2, 7, 8, 22])
 (.cond (.t 22)
 (.seq
 (.reg [
 ⟨some 23, none, .mov (.t 0)⟩,
 ⟨some 24, none, .mov (.t 2)⟩,
 ⟨some 25, none, .append 1 8 false (.t 23) (.t 24)⟩,
 ⟨some 6, none, .mov (.t 25)⟩] [6])
 (.ret))
 (.skip)))
 (.seq
 (.seq
 (.reg [
 ⟨some 26, none, .mov (.t 8)⟩,
 ⟨some 27, none, .mov (.t 7)⟩,
 ⟨some 28, none, .bin .add (.t 26) (.t 27)⟩,
 ⟨some 29, none, .mov (.t 0)⟩,
 ⟨some 30, none, .cap (.t 29)⟩,
 ⟨some 31, none, .bin .gtr (.t 28) (.t 30)⟩] [0, 1, 2, 7, 8, 31])
 (.cond (.t 31)
 (.seq
 (.reg [
 ⟨some 32, none, .mov (.t 0)⟩,
 ⟨some 33, none, .mov (.t 1)⟩,
 ⟨some 34, none, .slice 1 (.t 32) none (some (.t 33))⟩,
 ⟨some 35, none, .mov (.t 8)⟩,
 ⟨some 36, none, .mov (.t 7)⟩,
 ⟨some 37, none, .bin .add (.t 35) (.t 36)⟩,
 ⟨some 38, none, .mov (.t 1)⟩,
 ⟨some 39, none, .bin .sub (.t 37) (.t 38)⟩,
 ⟨some 40, none, .appendMk 1 8 [.i .i64 0] (.t 34) (.t 39)⟩,
 ⟨some 9, none, .mov (.t 40)⟩] [0, 1, 2, 7, 9])
 (.seq
 (.reg [
 ⟨some 41, none, .mov (.t 9)⟩,
 ⟨some 42, none, .mov (.t 1)⟩,
 ⟨some 43, none, .slice 1 (.t 41) (some (.t 42)) none⟩,
 ⟨some 44, none, .mov (.t 2)⟩,
 ⟨some 45, none, .copy 1 (.t 43) (.t 44)⟩] [0, 1, 7, 9])
 (.seq
 (.draw [0, 0, 0, 6, 15, 0, 0, 96, 255] [
 ⟨some 46, none, .mov (.t 9)⟩,
 ⟨some 47, none, .mov (.t 1)⟩,
 ⟨some 48, none, .mov (.t 7)⟩,
 ⟨some 49, none, .bin .add (.t 47) (.t 48)⟩,
 ⟨some 50, none, .slice 1 (.t 46) (some (.t 49)) none⟩,
 ⟨some 51, none, .mov (.t 0)⟩,
 ⟨some 52, none, .mov (.t 1)⟩,
 ⟨some 53, none, .slice 1 (.t 51) (some (.t 52)) none⟩,
 ⟨some 54, none, .copy 1 (.t 50) (.t 53)⟩] [9])
 (.seq
 (.reg [
 ⟨some 55, none, .mov (.t 9)⟩,
 ⟨some 6, none, .mov (.t 55)⟩] [6])
 (.ret)))))
 (.skip)))
 (.seq
 (.reg [
 ⟨some 56, none, .mov (.t 0)⟩,
 ⟨some 57, none, .mov (.t 8)⟩,
 ⟨some 58, none, .mov (.t 7)⟩,
 ⟨some 59, none, .bin .add (.t 57) (.t 58)⟩,
 ⟨some 60, none, .slice 1 (.t 56) none (some (.t 59))⟩,
 ⟨some 0, none, .mov (.t 60)⟩] [0, 1, 2, 7, 8])
 (.seq
 (.seq
 (.reg [
 ⟨some 61, none, .mov (.t 2)⟩,
 ⟨some 62, none, .mov (.t 0)⟩,
 ⟨some 63, none, .mov (.t 1)⟩,
 ⟨some 64, none, .mov (.t 7)⟩,
 ⟨some 65, none, .bin .add (.t 63) (.t 64)⟩,
 ⟨some 66, none, .slice 1 (.t 62) (some (.t 65)) none⟩,
 ⟨some 67, none, .overlaps fid_slices_overlaps_int (.t 61) (.t 66)⟩,
 ⟨some 68, none, .un .not (.t 67)⟩] [0, 1, 2, 7, 8, 68])
 (.cond (.t 68)
 (.seq
 (.draw [0, 0, 0, 6, 15, 0, 0, 96, 255] [
 ⟨some 69, none, .mov (.t 0)⟩,
 ⟨some 70, none, .mov (.t 1)⟩,
 ⟨some 71, none, .mov (.t 7)⟩,
 ⟨some 72, none, .bin .add (.t 70) (.t 71)⟩,
 ⟨some 73, none, .slice 1 (.t 69) (some (.t 72)) none⟩,
 ⟨some 74, none, .mov (.t 0)⟩,
 ⟨some 75, none, .mov (.t 1)⟩,
 ⟨some 76, none, .slice 1 (.t 74) (some (.t 75)) none⟩,
 ⟨some 77, none, .copy 1 (.t 73) (.t 76)⟩] [0, 1, 2])
 (.seq
 (.reg [
 ⟨some 78, none, .mov (.t 0)⟩,
 ⟨some 79, none, .mov (.t 1)⟩,
 ⟨some 80, none, .slice 1 (.t 78) (some (.t 79)) none⟩,
 ⟨some 81, none, .mov (.t 2)⟩,
 ⟨some 82, none, .copy 1 (.t 80) (.t 81)⟩] [0])
 (.seq
 (.reg [
 ⟨some 83, none, .mov (.t 0)⟩,
 ⟨some 6, none, .mov (.t 83)⟩] [6])
 (.ret))))
 (.skip)))
 (.seq
 (.reg [
 ⟨some 84, none, .mov (.t 0)⟩,
 ⟨some 85, none, .mov (.t 8)⟩,
 ⟨some 86, none, .slice 1 (.t 84) (some (.t 85)) none⟩,
 ⟨some 87, none, .mov (.t 2)⟩,
 ⟨some 88, none, .copy 1 (.t 86) (.t 87)⟩] [0, 1, 7])
 (.seq
 (.reg [
 ⟨some 89, none, .mov (.t 0)⟩,
 ⟨some 90, none, .mov (.t 1)⟩,
 ⟨some 91, none, .slice 1 (.t 89) (some (.t 90)) none⟩,
 ⟨some 92, none, .mov (.t 7)⟩,
 ⟨some 93, none, .call fid_slices_rotateRight_int false [.im, .im] [(.t 91), (.t 92)]⟩] [0])
 (.seq
 (.reg [
 ⟨some 94, none, .mov (.t 0)⟩,
 ⟨some 6, none, .mov (.t 94)⟩] [6])
 (.ret))))))))))))
theorem get_slices_Insert_int_int : prog.funcs[fid_slices_Insert_int_int]? = some f66 := func66
theorem ok_slices_Insert_int_int : okFn prog f66 95 [] [(6, none)] mc_slices_Insert_int_int = true := by kernel_rfl
def mc_slices_Insert_bool_bool : MCode :=
 .seq
 (.reg [
 ⟨some 6, none, .mov (.v (.nl 1))⟩] [0, 1, 2])
 (.seq
 (.reg [
 ⟨some 10, none, .mov (.t 0)⟩,
 ⟨some 11, none, .mov (.t 1)⟩,
 ⟨some 12, none, .slice 1 (.t 10) (some (.t 11)) none⟩] [0, 1, 2])
 (.seq
 (.reg [
 ⟨some 13, none, .mov (.t 2)⟩,
 ⟨some 14, none, .len (.t 13)⟩,
 ⟨some 7, none, .mov (.t 14)⟩] [0, 1, 2, 7])
 (.seq
 (.seq
 (.reg [
 ⟨some 15, none, .mov (.t 7)⟩,
 ⟨some 16, none, .bin .eql (.t 15) (.v (.i .i64 0))⟩] [0, 1, 2, 7, 16])
 (.cond (.t 16)
 (.seq
 (.reg [
 ⟨some 17, none, .mov (.t 0)⟩,
 ⟨some 6, none, .mov (.t 17)⟩] [6])
 (.ret))
 (.skip)))
 (.seq
 (.reg [
 ⟨some 18, none, .mov (.t 0)⟩,
 ⟨some 19, none, .len (.t 18)⟩,
 ⟨some 8, none, .mov (.t 19)⟩] [0, 1, 2, 7, 8])
 (.seq
 (.seq
 (.reg [
 ⟨some 20, none, .mov (.t 1)⟩,
 ⟨some 21, none, .mov (.t 8)⟩,
 ⟨some 22, none, .bin .eql (.t 20) (.t 21)⟩] [0, 1, 2, 7, 8, 22])
 (.cond (.t 22)
 (.seq
 (.reg [
 ⟨some 23, none, .mov (.t 0)⟩,
 ⟨some 24, none, .mov (.t 2)⟩,
 ⟨some 25, none, .append 1 1 false (.t 23) (.t 24)⟩,
 ⟨some 6, none, .mov (.t 25)⟩] [6])
 (.ret))
 (.skip)))
 (.seq
 (.seq
 (.reg [
 ⟨some 26, none, .mov (.t 8)⟩,
 ⟨some 27, none, .mov (.t 7)⟩,
 ⟨some 28, none, .bin .add (.t 26) (.t 27)⟩,
 ⟨some 29, none, .mov (.t 0)⟩,
 ⟨some 30, none, .cap (.t 29)⟩,
 ⟨some 31, none, .bin .gtr (.t 28) (.t 30)⟩] [0, 1, 2, 7, 8, 31])
 (.cond (.t 31)
 (.seq
 (.reg [
 ⟨some 32, none, .mov (.t 0)⟩,
 ⟨some 33, none, .mov (.t 1)⟩,
 ⟨some 34, none, .slice 1 (.t 32) none (some (.t 33))⟩,
 ⟨some 35, none, .mov (.t 8)⟩,
 ⟨some 36, none, .mov (.t 7)⟩,
 ⟨some 37, none, .bin .add (.t 35) (.t 36)⟩,
 ⟨some 38, none, .mov (.t 1)⟩,
 ⟨some 39, none, .bin .sub (.t 37) (.t 38)⟩,
 ⟨some 40, none, .appendMk 1 1 [.b false] (.t 34) (.t 39)⟩,
 ⟨some 9, none, .mov (.t 40)⟩] [0, 1, 2, 7, 9])
 (.seq
 (.reg [
 ⟨some 41, none, .mov (.t 9)⟩,
 ⟨some 42, none, .mov (.t 1)⟩,
 ⟨some 43, none, .slice 1 (.t 41) (some (.t 42)) none⟩,
 ⟨some 44, none, .mov (.t 2)⟩,
 ⟨some 45, none, .copy 1 (.t 43) (.t 44)⟩] [0, 1, 7, 9])
 (.seq
 (.draw [0, 0, 0, 6, 15, 0, 0, 96, 255] [
 ⟨some 46, none, .mov (.t 9)⟩,
 ⟨some 47, none, .mov (.t 1)⟩,
 ⟨some 48, none, .mov (.t 7)⟩,
 ⟨some 49, none, .bin .add (.t 47) (.t 48)⟩,
 ⟨some 50, none, .slice 1 (.t 46) (some (.t 49)) none⟩,
 ⟨some 51, none, .mov (.t 0)⟩,
 ⟨some 52, none, .mov (.t 1)⟩,
 ⟨some 53, none, .slice 1 (.t 51) (some (.t 52)) none⟩,
 ⟨some 54, none, .copy 1 (.t 50) (.t 53)⟩] [9])
 (.seq
 (.reg [
 ⟨some 55, none, .mov (.t 9)⟩,
 ⟨some 6, none, .mov (.t 55)⟩] [6])
 (.ret)))))
 (.skip)))
 (.seq
 (.reg [
 ⟨some 56, none, .mov (.t 0)⟩,
 ⟨some 57, none, .mov (.t 8)⟩,
 ⟨some 58, none, .mov (.t 7)⟩,
 ⟨some 59, none, .bin .add (.t 57) (.t 58)⟩,
 ⟨some 60, none, .slice 1 (.t 56) none (some (.t 59))⟩,
 ⟨some 0, none, .mov (.t 60)⟩] [0, 1, 2, 7, 8])
 (.seq
 (.seq
 (.reg [
 ⟨some 61, none, .mov (.t 2)⟩,
 ⟨some 62, none, .mov (.t 0)⟩,
 ⟨some 63, none, .mov (.t 1)⟩,
 ⟨some 64, none, .mov (.t 7)⟩,
 ⟨some 65, none, .bin .add (.t 63) (.t 64)⟩,
 ⟨some 66, none, .slice 1 (.t 62) (some (.t 65)) none⟩,
 ⟨some 67, none, .overlaps fid_slices_overlaps_bool (.t 61) (.t 66)⟩,
 ⟨some 68, none, .un .not (.t 67)⟩] [0, 1, 2, 7, 8, 68])
 (.cond (.t 68)
 (.seq
 (.draw [0, 0, 0, 6, 15, 0, 0, 96, 255] [
 ⟨some 69, none, .mov (.t 0)⟩,
 ⟨some 70, none, .mov (.t 1)⟩,
 ⟨some 71, none, .mov (.t 7)⟩,
 ⟨some 72, none, .bin .add (.t 70) (.t 71)⟩,
 ⟨some 73, none, .slice 1 (.t 69) (some (.t 72)) none⟩,
 ⟨some 74, none, .mov (.t 0)⟩,
 ⟨some 75, none, .mov (.t 1)⟩,
 ⟨some 76, none, .slice 1 (.t 74) (some (.t 75)) none⟩,
 ⟨some 77, none, .copy 1 (.t 73) (.t 76)⟩] [0, 1, 2])
 (.seq
 (.reg [
 ⟨some 78, none, .mov (.t 0)⟩,
 ⟨some 79, none, .mov (.t 1)⟩,
 ⟨some 80, none, .slice 1 (.t 78) (some (.t 79)) none⟩,
 ⟨some 81, none, .mov (.t 2)⟩,
 ⟨some 82, none, .copy 1 (.t 80) (.t 81)⟩] [0])
 (.seq
 (.reg [
 ⟨some 83, none, .mov (.t 0)⟩,
 ⟨some 6, none, .mov (.t 83)⟩] [6])
 (.ret))))
 (.skip)))
 (.seq
 (.reg [
 ⟨some 84, none, .mov (.t 0)⟩,
 ⟨some 85, none, .mov (.t 8)⟩,
 ⟨some 86, none, .slice 1 (.t 84) (some (.t 85)) none⟩,
 ⟨some 87, none, .mov (.t 2)⟩,
 ⟨some 88, none, .copy 1 (.t 86) (.t 87)⟩] [0, 1, 7])
 (.seq
 (.reg [
 ⟨some 89, none, .mov (.t 0)⟩,
 ⟨some 90, none, .mov (.t 1)⟩,
 ⟨some 91, none, .slice 1 (.t 89) (some (.t 90)) none⟩,
 ⟨some 92, none, .mov (.t 7)⟩,
 ⟨some 93, none, .call fid_slices_rotateRight_bool false [.im, .im] [(.t 91), (.t 92)]⟩] [0])
 (.seq
 (.reg [
 ⟨some 94, none, .mov (.t 0)⟩,
 ⟨some 6, none, .mov (.t 94)⟩] [6])
 (.ret))))))))))))
theorem get_slices_Insert_bool_bool : prog.funcs[fid_slices_Insert_bool_bool]? = some f67 := func67
theorem ok_slices_Insert_bool_bool : okFn prog f67 95 [] [(6, none)] mc_slices_Insert_bool_bool = true := by kernel_rfl
def mc_impl_Graph_connected : MCode :=
 .seq
 (.reg [
 ⟨some 3, none, .box 2 (.t 0)⟩,
 ⟨some 6, none, .mov (.v (.b false))⟩] [1, 2, 3])
 (.seq
 (.reg [
 ⟨some 8, none, .load true 2 (.t 3)⟩,
 ⟨some 9, none, .call fid_impl_Graph_parts false [.im] [(.t 8)]⟩,
 ⟨some 7, none, .mov (.t 9)⟩] [1, 2, 7])
 (.seq
 (.draw [0, 0, 3, 7, 0, 0, 48, 112, 255, 511] [
 ⟨some 10, none, .mov (.t 7)⟩,
 ⟨some 11, none, .mov (.t 1)⟩,
 ⟨some 12, none, .indexAddr 1 (.t 10) (.t 11)⟩,
 ⟨some 13, none, .load false 1 (.t 12)⟩,
 ⟨some 14, none, .mov (.t 7)⟩,
 ⟨some 15, none, .mov (.t 2)⟩,
 ⟨some 16, none, .indexAddr 1 (.t 14) (.t 15)⟩,
 ⟨some 17, none, .load false 1 (.t 16)⟩,
 ⟨some 18, none, .bin .eql (.t 13) (.t 17)⟩,
 ⟨some 6, none, .mov (.t 18)⟩] [6])
 (.ret)))
theorem get_impl_Graph_connected : prog.funcs[fid_impl_Graph_connected]? = some f68 := func68
theorem ok_impl_Graph_connected : okFn prog f68 19 [] [(6, none)] mc_impl_Graph_connected = true := by kernel_rfl
def mc_impl_GraphValid : MCode :=
 .seq
 (.reg [
 ⟨some 1, none, .box 2 (.t 0)⟩,
 ⟨some 2, none, .mov (.v (.b false))⟩] [1])
 (.seq
 (.seq
 (.reg [
 ⟨some 5, none, .fieldAddr 0 (.t 1)⟩,
 ⟨some 6, none, .load false 1 (.t 5)⟩,
 ⟨some 7, none, .bin .lss (.t 6) (.v (.i .i64 1))⟩,
 ⟨some 8, none, .mov (.t 7)⟩,
 ⟨some 9, (some (8, false)), .fieldAddr 0 (.t 1)⟩,
 ⟨some 10, (some (8, false)), .load false 1 (.t 9)⟩,
 ⟨some 11, (some (8, false)), .bin .gtr (.t 10) (.v (.i .i64 16))⟩,
 ⟨some 12, none, .pick (.t 8) (.v (.b true)) (.t 11)⟩,
 ⟨some 13, none, .mov (.t 12)⟩,
 ⟨some 14, (some (13, false)), .fieldAddr 1 (.t 1)⟩,
 ⟨some 15, (some (13, false)), .load false 1 (.t 14)⟩,
 ⟨some 16, (some (13, false)), .len (.t 15)⟩,
 ⟨some 17, (some (13, false)), .bin .gtr (.t 16) (.v (.i .i64 40))⟩,
 ⟨some 18, none, .pick (.t 13) (.v (.b true)) (.t 17)⟩] [1, 18])
 (.cond (.t 18)
 (.seq
 (.reg [
 ⟨some 2, none, .mov (.v (.b false))⟩] [2])
 (.ret))
 (.skip)))
 (.seq
 (.seq
 (.reg [
 ⟨some 19, none, .fieldAddr 1 (.t 1)⟩,
 ⟨some 20, none, .load false 1 (.t 19)⟩,
 ⟨some 21, none, .len (.t 20)⟩,
 ⟨some 22, none, .mov (.v (.i .i64 0))⟩] [1, 20, 21, 22])
 (.block 0
 (.loop [1, 20, 21, 22]
 (.seq
 (.reg [
 ⟨some 23, none, .bin .lss (.t 22) (.t 21)⟩] [1, 20, 21, 22, 23])
 (.seq
 (.cond (.t 23)
 (.skip)
 (.exit 0))
 (.seq
 (.block 1
 (.seq
 (.reg [
 ⟨some 24, none, .mov (.t 22)⟩,
 ⟨some 25, none, .indexAddr 2 (.t 20) (.t 22)⟩,
 ⟨some 26, none, .load true 2 (.t 25)⟩,
 ⟨some 4, none, .alloc [.i .i64 0, .i .i64 0]⟩,
 ⟨some 3, none, .mov (.t 24)⟩,
 ⟨none, none, .store 2 (.t 4) (.t 26)⟩] [1, 3, 4, 20, 21, 22])
 (.seq
 (.draw [0, 1, 3, 7, 15, 31, 15, 79, 255, 511, 1023, 2047, 4095, 2047, 10239, 32767, 65535, 131071, 262143, 524287, 1048575, 2097151, 4194303, 2097151, 10485759, 33554431, 67108863, 2097151, 268435455, 536870911, 1073741823, 2147483647] [
 ⟨some 27, none, .fieldAddr 0 (.t 4)⟩,
 ⟨some 28, none, .load false 1 (.t 27)⟩,
 ⟨some 29, none, .bin .lss (.t 28) (.v (.i .i64 0))⟩,
 ⟨some 30, none, .mov (.t 29)⟩,
 ⟨some 31, (some (30, false)), .fieldAddr 0 (.t 4)⟩,
 ⟨some 32, (some (30, false)), .load false 1 (.t 31)⟩,
 ⟨some 33, (some (30, false)), .fieldAddr 1 (.t 4)⟩,
 ⟨some 34, (some (30, false)), .load false 1 (.t 33)⟩,
 ⟨some 35, (some (30, false)), .bin .geq (.t 32) (.t 34)⟩,
 ⟨some 36, none, .pick (.t 30) (.v (.b true)) (.t 35)⟩,
 ⟨some 37, none, .mov (.t 36)⟩,
 ⟨some 38, (some (37, false)), .fieldAddr 1 (.t 4)⟩,
 ⟨some 39, (some (37, false)), .load false 1 (.t 38)⟩,
 ⟨some 40, (some (37, false)), .fieldAddr 0 (.t 1)⟩,
 ⟨some 41, (some (37, false)), .load false 1 (.t 40)⟩,
 ⟨some 42, (some (37, false)), .bin .geq (.t 39) (.t 41)⟩,
 ⟨some 43, none, .pick (.t 37) (.v (.b true)) (.t 42)⟩,
 ⟨some 44, none, .mov (.t 43)⟩,
 ⟨some 45, (some (44, false)), .mov (.t 3)⟩,
 ⟨some 46, (some (44, false)), .bin .gtr (.t 45) (.v (.i .i64 0))⟩,
 ⟨some 47, (some (44, false)), .mov (.t 46)⟩,
 ⟨some 48, (some (47, true)), .fieldAddr 1 (.t 1)⟩,
 ⟨some 49, (some (47, true)), .load false 1 (.t 48)⟩,
 ⟨some 50, (some (47, true)), .mov (.t 3)⟩,
 ⟨some 51, (some (47, true)), .bin .sub (.t 50) (.v (.i .i64 1))⟩,
 ⟨some 52, (some (47, true)), .indexAddr 2 (.t 49) (.t 51)⟩,
 ⟨some 53, (some (47, true)), .load true 2 (.t 52)⟩,
 ⟨some 54, (some (47, true)), .load true 2 (.t 4)⟩,
 ⟨some 55, (some (47, true)), .call fid_impl_compareEdges false [.im, .im] [(.t 53), (.t 54)]⟩,
 ⟨some 56, (some (47, true)), .bin .geq (.t 55) (.v (.i .i64 0))⟩,
 ⟨some 57, (some (44, false)), .pick (.t 47) (.t 56) (.v (.b false))⟩,
 ⟨some 58, none, .pick (.t 44) (.v (.b true)) (.t 57)⟩] [1, 20, 21, 22, 58])
 (.cond (.t 58)
 (.seq
 (.reg [
 ⟨some 2, none, .mov (.v (.b false))⟩] [2])
 (.ret))
 (.skip)))))
 (.reg [
 ⟨some 59, none, .bin .add (.t 22) (.v (.i .i64 1))⟩,
 ⟨some 22, none, .mov (.t 59)⟩] [1, 20, 21, 22])))))))
 (.seq
 (.reg [
 ⟨some 2, none, .mov (.v (.b true))⟩] [2])
 (.ret))))
theorem get_impl_GraphValid : prog.funcs[fid_impl_GraphValid]? = some f73 := func73
theorem ok_impl_GraphValid : okFn prog f73 60 [] [(2, none)] mc_impl_GraphValid = true := by kernel_rfl
def mc_slices_BinarySearchFunc_impl_Edge_impl_Edge_impl_Edge : MCode :=
 .seq
 (.reg [
 ⟨some 4, none, .box 2 (.t 1)⟩,
 ⟨some 6, none, .mov (.v (.i .i64 0))⟩,
 ⟨some 7, none, .mov (.v (.b false))⟩] [0, 2, 4])
 (.seq
 (.reg [
 ⟨some 12, none, .mov (.t 0)⟩,
 ⟨some 13, none, .len (.t 12)⟩,
 ⟨some 8, none, .mov (.t 13)⟩] [0, 2, 4, 8])
 (.seq
 (.reg [
 ⟨some 14, none, .mov (.t 8)⟩,
 ⟨some 9, none, .mov (.v (.i .i64 0))⟩,
 ⟨some 10, none, .mov (.t 14)⟩] [0, 2, 4, 8, 9, 10])
 (.seq
 (.block 0
 (.loop [0, 2, 4, 8, 9, 10]
 (.seq
 (.seq
 (.reg [
 ⟨some 15, none, .mov (.t 9)⟩,
 ⟨some 16, none, .mov (.t 10)⟩,
 ⟨some 17, none, .bin .lss (.t 15) (.t 16)⟩] [0, 2, 4, 8, 9, 10, 17])
 (.cond (.t 17)
 (.skip)
 (.exit 0)))
 (.block 1
 (.seq
 (.reg [
 ⟨some 18, none, .mov (.t 9)⟩,
 ⟨some 19, none, .mov (.t 10)⟩,
 ⟨some 20, none, .bin .add (.t 18) (.t 19)⟩,
 ⟨some 21, none, .conv .u64 (.t 20)⟩,
 ⟨some 22, none, .bin .shr (.t 21) (.v (.i .u64 1))⟩,
 ⟨some 23, none, .conv .i64 (.t 22)⟩,
 ⟨some 11, none, .mov (.t 23)⟩] [0, 2, 4, 8, 9, 10, 11])
 (.seq
 (.draw [0, 0, 0, 6, 14, 0, 63, 127] [
 ⟨some 24, none, .mov (.t 2)⟩,
 ⟨some 25, none, .mov (.t 0)⟩,
 ⟨some 26, none, .mov (.t 11)⟩,
 ⟨some 27, none, .indexAddr 2 (.t 25) (.t 26)⟩,
 ⟨some 28, none, .load true 2 (.t 27)⟩,
 ⟨some 29, none, .load true 2 (.t 4)⟩,
 ⟨some 30, none, .callv (.t 24) [(.t 28), (.t 29)]⟩,
 ⟨some 31, none, .bin .lss (.t 30) (.v (.i .i64 0))⟩] [0, 2, 4, 8, 9, 10, 11, 31])
 (.cond (.t 31)
 (.reg [
 ⟨some 32, none, .mov (.t 11)⟩,
 ⟨some 33, none, .bin .add (.t 32) (.v (.i .i64 1))⟩,
 ⟨some 9, none, .mov (.t 33)⟩] [0, 2, 4, 8, 9, 10])
 (.reg [
 ⟨some 34, none, .mov (.t 11)⟩,
 ⟨some 10, none, .mov (.t 34)⟩] [0, 2, 4, 8, 9, 10]))))))))
 (.seq
 (.draw [0, 0, 0, 6, 14, 30, 30, 30, 222, 478, 30, 2046, 4094, 8190, 4095, 32767] [
 ⟨some 35, none, .mov (.t 9)⟩,
 ⟨some 36, none, .mov (.t 9)⟩,
 ⟨some 37, none, .mov (.t 8)⟩,
 ⟨some 38, none, .bin .lss (.t 36) (.t 37)⟩,
 ⟨some 39, none, .mov (.t 38)⟩,
 ⟨some 40, (some (39, true)), .mov (.t 2)⟩,
 ⟨some 41, (some (39, true)), .mov (.t 0)⟩,
 ⟨some 42, (some (39, true)), .mov (.t 9)⟩,
 ⟨some 43, (some (39, true)), .indexAddr 2 (.t 41) (.t 42)⟩,
 ⟨some 44, (some (39, true)), .load true 2 (.t 43)⟩,
 ⟨some 45, (some (39, true)), .load true 2 (.t 4)⟩,
 ⟨some 46, (some (39, true)), .callv (.t 40) [(.t 44), (.t 45)]⟩,
 ⟨some 47, (some (39, true)), .bin .eql (.t 46) (.v (.i .i64 0))⟩,
 ⟨some 48, none, .pick (.t 39) (.t 47) (.v (.b false))⟩,
 ⟨some 6, none, .mov (.t 35)⟩,
 ⟨some 7, none, .mov (.t 48)⟩] [6, 7])
 (.ret)))))
theorem get_slices_BinarySearchFunc_impl_Edge_impl_Edge_impl_Edge : prog.funcs[fid_slices_BinarySearchFunc_impl_Edge_impl_Edge_impl_Edge]? = some f74 := func74
theorem ok_slices_BinarySearchFunc_impl_Edge_impl_Edge_impl_Edge : okFn prog f74 49 [] [(6, none), (7, none)] mc_slices_BinarySearchFunc_impl_Edge_impl_Edge_impl_Edge = true := by kernel_rfl
def mc_impl_compareEdges : MCode :=
 .seq
 (.reg [
 ⟨some 2, none, .box 2 (.t 0)⟩,
 ⟨some 3, none, .box 2 (.t 1)⟩,
 ⟨some 4, none, .mov (.v (.i .i64 0))⟩] [2, 3])
 (.seq
 (.draw [0, 1, 0, 4, 15, 0, 32, 0, 128, 511, 1023, 2047, 4095] [
 ⟨some 5, none, .fieldAddr 0 (.t 2)⟩,
 ⟨some 6, none, .load false 1 (.t 5)⟩,
 ⟨some 7, none, .fieldAddr 0 (.t 3)⟩,
 ⟨some 8, none, .load false 1 (.t 7)⟩,
 ⟨some 9, none, .call fid_cmp_Compare_int false [.im, .im] [(.t 6), (.t 8)]⟩,
 ⟨some 10, none, .fieldAddr 1 (.t 2)⟩,
 ⟨some 11, none, .load false 1 (.t 10)⟩,
 ⟨some 12, none, .fieldAddr 1 (.t 3)⟩,
 ⟨some 13, none, .load false 1 (.t 12)⟩,
 ⟨some 14, none, .call fid_cmp_Compare_int false [.im, .im] [(.t 11), (.t 13)]⟩,
 ⟨some 15, none, .buildSlice 1 [(.t 9), (.t 14)]⟩,
 ⟨some 16, none, .call fid_cmp_Or_int false [.im] [(.t 15)]⟩,
 ⟨some 4, none, .mov (.t 16)⟩] [4])
 (.ret))
theorem get_impl_compareEdges : prog.funcs[fid_impl_compareEdges]? = some f75 := func75
theorem ok_impl_compareEdges : okFn prog f75 17 [] [(4, none)] mc_impl_compareEdges = true := by kernel_rfl
def mc_slices_Insert_impl_Edge_impl_Edge : MCode :=
 .seq
 (.reg [
 ⟨some 6, none, .mov (.v (.nl 2))⟩] [0, 1, 2])
 (.seq
 (.reg [
 ⟨some 10, none, .mov (.t 0)⟩,
 ⟨some 11, none, .mov (.t 1)⟩,
 ⟨some 12, none, .slice 2 (.t 10) (some (.t 11)) none⟩] [0, 1, 2])
 (.seq
 (.reg [
 ⟨some 13, none, .mov (.t 2)⟩,
 ⟨some 14, none, .len (.t 13)⟩,
 ⟨some 7, none, .mov (.t 14)⟩] [0, 1, 2, 7])
 (.seq
 (.seq
 (.reg [
 ⟨some 15, none, .mov (.t 7)⟩,
 ⟨some 16, none, .bin .eql (.t 15) (.v (.i .i64 0))⟩] [0, 1, 2, 7, 16])
 (.cond (.t 16)
 (.seq
 (.reg [
 ⟨some 17, none, .mov (.t 0)⟩,
 ⟨some 6, none, .mov (.t 17)⟩] [6])
 (.ret))
 (.skip)))
 (.seq
 (.reg [
 ⟨some 18, none, .mov (.t 0)⟩,
 ⟨some 19, none, .len (.t 18)⟩,
 ⟨some 8, none, .mov (.t 19)⟩] [0, 1, 2, 7, 8])
 (.seq
 (.seq
 (.reg [
 ⟨some 20, none, .mov (.t 1)⟩,
 ⟨some 21, none, .mov (.t 8)⟩,
 ⟨some 22, none, .bin .eql (.t 20) (.t 21)⟩] [0, 1, 2, 7, 8, 22])
 (.cond (.t 22)
 (.seq
 (.reg [
 ⟨some 23, none, .mov (.t 0)⟩,
 ⟨some 24, none, .mov (.t 2)⟩,
 ⟨some 25, none, .append 2 16 false (.t 23) (.t 24)⟩,
 ⟨some 6, none, .mov (.t 25)⟩] [6])
 (.ret))
 (.skip)))
 (.seq
 (.seq
 (.reg [
 ⟨some 26, none, .mov (.t 8)⟩,
 ⟨some 27, none, .mov (.t 7)⟩,
 ⟨some 28, none, .bin .add (.t 26) (.t 27)⟩,
 ⟨some 29, none, .mov (.t 0)⟩,
 ⟨some 30, none, .cap (.t 29)⟩,
 ⟨some 31, none, .bin .gtr (.t 28) (.t 30)⟩] [0, 1, 2, 7, 8, 31])
 (.cond (.t 31)
 (.seq
 (.reg [
 ⟨some 32, none, .mov (.t 0)⟩,
 ⟨some 33, none, .mov (.t 1)⟩,
 ⟨some 34, none, .slice 2 (.t 32) none (some (.t 33))⟩,
 ⟨some 35, none, .mov (.t 8)⟩,
 ⟨some 36, none, .mov (.t 7)⟩,
 ⟨some 37, none, .bin .add (.t 35) (.t 36)⟩,
 ⟨some 38, none, .mov (.t 1)⟩,
 ⟨some 39, none, .bin .sub (.t 37) (.t 38)⟩,
 ⟨some 40, none, .appendMk 2 16 [.i .i64 0, .i .i64 0] (.t 34) (.t 39)⟩,
 ⟨some 9, none, .mov (.t 40)⟩] [0, 1, 2, 7, 9])
 (.seq
 (.reg [
 ⟨some 41, none, .mov (.t 9)⟩,
 ⟨some 42, none, .mov (.t 1)⟩,
 ⟨some 43, none, .slice 2 (.t 41) (some (.t 42)) none⟩,
 ⟨some 44, none, .mov (.t 2)⟩,
 ⟨some 45, none, .copy 2 (.t 43) (.t 44)⟩] [0, 1, 7, 9])
 (.seq
 (.draw [0, 0, 0, 6, 15, 0, 0, 96, 255] [
 ⟨some 46, none, .mov (.t 9)⟩,
 ⟨some 47, none, .mov (.t 1)⟩,
 ⟨some 48, none, .mov (.t 7)⟩,
 ⟨some 49, none, .bin .add (.t 47) (.t 48)⟩,
 ⟨some 50, none, .slice 2 (.t 46) (some (.t 49)) none⟩,
 ⟨some 51, none, .mov (.t 0)⟩,
 ⟨some 52, none, .mov (.t 1)⟩,
 ⟨some 53, none, .slice 2 (.t 51) (some (.t 52)) none⟩,
 ⟨some 54, none, .copy 2 (.t 50) (.t 53)⟩] [9])
 (.seq
 (.reg [
 ⟨some 55, none, .mov (.t 9)⟩,
 ⟨some 6, none, .mov (.t 55)⟩] [6])
 (.ret)))))
 (.skip)))
 (.seq
 (.reg [
 ⟨some 56, none, .mov (.t 0)⟩,
 ⟨some 57, none, .mov (.t 8)⟩,
 ⟨some 58, none, .mov (.t 7)⟩,
 ⟨some 59, none, .bin .add (.t 57) (.t 58)⟩,
 ⟨some 60, none, .slice 2 (.t 56) none (some (.t 59))⟩,
 ⟨some 0, none, .mov (.t 60)⟩] [0, 1, 2, 7, 8])
 (.seq
 (.seq
 (.reg [
 ⟨some 61, none, .mov (.t 2)⟩,
 ⟨some 62, none, .mov (.t 0)⟩,
 ⟨some 63, none, .mov (.t 1)⟩,
 ⟨some 64, none, .mov (.t 7)⟩,
 ⟨some 65, none, .bin .add (.t 63) (.t 64)⟩,
 ⟨some 66, none, .slice 2 (.t 62) (some (.t 65)) none⟩,
 ⟨some 67, none, .overlaps fid_slices_overlaps_impl_Edge (.t 61) (.t 66)⟩,
 ⟨some 68, none, .un .not (.t 67)⟩] [0, 1, 2, 7, 8, 68])
 (.cond (.t 68)
 (.seq
 (.draw [0, 0, 0, 6, 15, 0, 0, 96, 255] [
 ⟨some 69, none, .mov (.t 0)⟩,
 ⟨some 70, none, .mov (.t 1)⟩,
 ⟨some 71, none, .mov (.t 7)⟩,
 ⟨some 72, none, .bin .add (.t 70) (.t 71)⟩,
 ⟨some 73, none, .slice 2 (.t 69) (some (.t 72)) none⟩,
 ⟨some 74, none, .mov (.t 0)⟩,
 ⟨some 75, none, .mov (.t 1)⟩,
 ⟨some 76, none, .slice 2 (.t 74) (some (.t 75)) none⟩,
 ⟨some 77, none, .copy 2 (.t 73) (.t 76)⟩] [0, 1, 2])
 (.seq
 (.reg [
 ⟨some 78, none, .mov (.t 0)⟩,
 ⟨some 79, none, .mov (.t 1)⟩,
 ⟨some 80, none, .slice 2 (.t 78) (some (.t 79)) none⟩,
 ⟨some 81, none, .mov (.t 2)⟩,
 ⟨some 82, none, .copy 2 (.t 80) (.t 81)⟩] [0])
 (.seq
 (.reg [
 ⟨some 83, none, .mov (.t 0)⟩,
 ⟨some 6, none, .mov (.t 83)⟩] [6])
 (.ret))))
 (.skip)))
 (.seq
 (.reg [
 ⟨some 84, none, .mov (.t 0)⟩,
 ⟨some 85, none, .mov (.t 8)⟩,
 ⟨some 86, none, .slice 2 (.t 84) (some (.t 85)) none⟩,
 ⟨some 87, none, .mov (.t 2)⟩,
 ⟨some 88, none, .copy 2 (.t 86) (.t 87)⟩] [0, 1, 7])
 (.seq
 (.reg [
 ⟨some 89, none, .mov (.t 0)⟩,
 ⟨some 90, none, .mov (.t 1)⟩,
 ⟨some 91, none, .slice 2 (.t 89) (some (.t 90)) none⟩,
 ⟨some 92, none, .mov (.t 7)⟩,
 ⟨some 93, none, .call fid_slices_rotateRight_impl_Edge false [.im, .im] [(.t 91), (.t 92)]⟩] [0])
 (.seq
 (.reg [
 ⟨some 94, none, .mov (.t 0)⟩,
 ⟨some 6, none, .mov (.t 94)⟩] [6])
 (.ret))))))))))))
theorem get_slices_Insert_impl_Edge_impl_Edge : prog.funcs[fid_slices_Insert_impl_Edge_impl_Edge]? = some f76 := func76
theorem ok_slices_Insert_impl_Edge_impl_Edge : okFn prog f76 95 [] [(6, none)] mc_slices_Insert_impl_Edge_impl_Edge = true := by kernel_rfl
def mc_slices_Clone_impl_Edge_impl_Edge : MCode :=
 .seq
 (.reg [
 ⟨some 2, none, .mov (.v (.nl 2))⟩] [0])
 (.seq
 (.seq
 (.reg [
 ⟨some 3, none, .mov (.t 0)⟩,
 ⟨some 4, none, .nilq false (.t 3)⟩] [0, 4])
 (.cond (.t 4)
 (.seq
 (.reg [
 ⟨some 2, none, .mov (.v (.nl 2))⟩] [2])
 (.ret))
 (.skip)))
 (.seq
 (.reg [
 ⟨some 5, none, .buildSlice 2 []⟩,
 ⟨some 6, none, .mov (.t 0)⟩,
 ⟨some 7, none, .append 2 16 false (.t 5) (.t 6)⟩,
 ⟨some 2, none, .mov (.t 7)⟩] [2])
 (.ret)))
theorem get_slices_Clone_impl_Edge_impl_Edge : prog.funcs[fid_slices_Clone_impl_Edge_impl_Edge]? = some f77 := func77
theorem ok_slices_Clone_impl_Edge_impl_Edge : okFn prog f77 8 [] [(2, none)] mc_slices_Clone_impl_Edge_impl_Edge = true := by kernel_rfl
def mc_slices_Equal_impl_Edge_impl_Edge : MCode :=
 .seq
 (.reg [
 ⟨some 4, none, .mov (.v (.b false))⟩] [0, 1])
 (.seq
 (.seq
 (.reg [
 ⟨some 6, none, .mov (.t 0)⟩,
 ⟨some 7, none, .len (.t 6)⟩,
 ⟨some 8, none, .mov (.t 1)⟩,
 ⟨some 9, none, .len (.t 8)⟩,
 ⟨some 10, none, .bin .neq (.t 7) (.t 9)⟩] [0, 1, 10])
 (.cond (.t 10)
 (.seq
 (.reg [
 ⟨some 4, none, .mov (.v (.b false))⟩] [4])
 (.ret))
 (.skip)))
 (.seq
 (.seq
 (.reg [
 ⟨some 11, none, .mov (.t 0)⟩,
 ⟨some 12, none, .len (.t 11)⟩,
 ⟨some 13, none, .mov (.v (.i .i64 0))⟩] [0, 1, 12, 13])
 (.block 0
 (.loop [0, 1, 12, 13]
 (.seq
 (.reg [
 ⟨some 14, none, .bin .lss (.t 13) (.t 12)⟩] [0, 1, 12, 13, 14])
 (.seq
 (.cond (.t 14)
 (.skip)
 (.exit 0))
 (.seq
 (.block 1
 (.seq
 (.reg [
 ⟨some 15, none, .mov (.t 13)⟩,
 ⟨some 5, none, .mov (.t 15)⟩] [0, 1, 5, 12, 13])
 (.seq
 (.draw [0, 0, 3, 7, 0, 0, 48, 112, 255] [
 ⟨some 16, none, .mov (.t 0)⟩,
 ⟨some 17, none, .mov (.t 5)⟩,
 ⟨some 18, none, .indexAddr 2 (.t 16) (.t 17)⟩,
 ⟨some 19, none, .load true 2 (.t 18)⟩,
 ⟨some 20, none, .mov (.t 1)⟩,
 ⟨some 21, none, .mov (.t 5)⟩,
 ⟨some 22, none, .indexAddr 2 (.t 20) (.t 21)⟩,
 ⟨some 23, none, .load true 2 (.t 22)⟩,
 ⟨some 24, none, .eqAgg true [true, true] (.t 19) (.t 23)⟩] [0, 1, 12, 13, 24])
 (.cond (.t 24)
 (.seq
 (.reg [
 ⟨some 4, none, .mov (.v (.b false))⟩] [4])
 (.ret))
 (.skip)))))
 (.reg [
 ⟨some 25, none, .bin .add (.t 13) (.v (.i .i64 1))⟩,
 ⟨some 13, none, .mov (.t 25)⟩] [0, 1, 12, 13])))))))
 (.seq
 (.reg [
 ⟨some 4, none, .mov (.v (.b true))⟩] [4])
 (.ret))))
theorem get_slices_Equal_impl_Edge_impl_Edge : prog.funcs[fid_slices_Equal_impl_Edge_impl_Edge]? = some f78 := func78
theorem ok_slices_Equal_impl_Edge_impl_Edge : okFn prog f78 26 [] [(4, none)] mc_slices_Equal_impl_Edge_impl_Edge = true := by kernel_rfl
def mc_slices_ContainsFunc_int_int : MCode :=
 .seq
 (.reg [
 ⟨some 4, none, .mov (.v (.b false))⟩] [0, 1])
 (.seq
 (.reg [
 ⟨some 5, none, .mov (.t 0)⟩,
 ⟨some 6, none, .mov (.t 1)⟩,
 ⟨some 7, none, .call fid_slices_IndexFunc_int_int false [.im, .fn] [(.t 5), (.t 6)]⟩,
 ⟨some 8, none, .bin .geq (.t 7) (.v (.i .i64 0))⟩,
 ⟨some 4, none, .mov (.t 8)⟩] [4])
 (.ret))
theorem get_slices_ContainsFunc_int_int : prog.funcs[fid_slices_ContainsFunc_int_int]? = some f79 := func79
theorem ok_slices_ContainsFunc_int_int : okFn prog f79 9 [] [(4, none)] mc_slices_ContainsFunc_int_int = true := by kernel_rfl
def mc_impl_LevelsValid_1 : MCode :=
 .seq
 (.reg [
 ⟨some 2, none, .mov (.v (.b false))⟩] [0])
 (.seq
 (.reg [
 ⟨some 3, none, .mov (.t 0)⟩,
 ⟨some 4, none, .bin .lss (.t 3) (.v (.i .i64 0))⟩,
 ⟨some 5, none, .mov (.t 4)⟩,
 ⟨some 6, (some (5, false)), .mov (.t 0)⟩,
 ⟨some 7, (some (5, false)), .bin .gtr (.t 6) (.v (.i .i64 4))⟩,
 ⟨some 8, none, .pick (.t 5) (.v (.b true)) (.t 7)⟩,
 ⟨some 2, none, .mov (.t 8)⟩] [2])
 (.ret))
theorem get_impl_LevelsValid_1 : prog.funcs[fid_impl_LevelsValid_1]? = some f80 := func80
theorem ok_impl_LevelsValid_1 : okFn prog f80 9 [] [(2, none)] mc_impl_LevelsValid_1 = true := by kernel_rfl
def mc_impl_Leveled_above : MCode :=
 .seq
 (.reg [
 ⟨some 3, none, .box 4 (.t 0)⟩,
 ⟨some 6, none, .alloc [.i .i64 0, .nl 2]⟩] [1, 2, 3, 6])
 (.seq
 (.reg [
 ⟨some 10, none, .fieldAddr 0 (.t 3)⟩,
 ⟨some 11, none, .fieldAddr 0 (.t 10)⟩,
 ⟨some 12, none, .load false 1 (.t 11)⟩,
 ⟨some 13, none, .build [.i .i64 0, .nl 2] [(0, 1, (.t 12))]⟩,
 ⟨some 7, none, .alloc [.i .i64 0, .nl 2]⟩,
 ⟨none, none, .store 2 (.t 7) (.t 13)⟩] [1, 2, 3, 6, 7])
 (.seq
 (.seq
 (.reg [
 ⟨some 14, none, .fieldAddr 0 (.t 3)⟩,
 ⟨some 15, none, .fieldAddr 1 (.t 14)⟩,
 ⟨some 16, none, .load false 1 (.t 15)⟩,
 ⟨some 17, none, .len (.t 16)⟩,
 ⟨some 18, none, .mov (.v (.i .i64 0))⟩] [1, 2, 3, 6, 7, 16, 17, 18])
 (.block 0
 (.loop [1, 2, 3, 6, 7, 16, 17, 18]
 (.seq
 (.reg [
 ⟨some 19, none, .bin .lss (.t 18) (.t 17)⟩] [1, 2, 3, 6, 7, 16, 17, 18, 19])
 (.seq
 (.cond (.t 19)
 (.skip)
 (.exit 0))
 (.seq
 (.block 1
 (.seq
 (.reg [
 ⟨some 20, none, .mov (.t 18)⟩,
 ⟨some 21, none, .indexAddr 2 (.t 16) (.t 18)⟩,
 ⟨some 22, none, .load true 2 (.t 21)⟩,
 ⟨some 9, none, .alloc [.i .i64 0, .i .i64 0]⟩,
 ⟨some 8, none, .mov (.t 20)⟩,
 ⟨none, none, .store 2 (.t 9) (.t 22)⟩] [1, 2, 3, 6, 7, 8, 9, 16, 17, 18])
 (.seq
 (.reg [
 ⟨some 23, none, .fieldAddr 2 (.t 3)⟩,
 ⟨some 24, none, .load false 1 (.t 23)⟩,
 ⟨some 25, none, .mov (.t 8)⟩,
 ⟨some 26, none, .indexAddr 1 (.t 24) (.t 25)⟩,
 ⟨some 27, none, .load false 1 (.t 26)⟩,
 ⟨some 28, none, .mov (.t 1)⟩,
 ⟨some 29, none, .bin .geq (.t 27) (.t 28)⟩,
 ⟨some 30, none, .mov (.t 29)⟩,
 ⟨some 31, (some (30, true)), .mov (.t 2)⟩,
 ⟨some 32, (some (30, true)), .un .not (.t 31)⟩,
 ⟨some 33, (some (30, true)), .mov (.t 32)⟩,
 ⟨some 34, (some (33, false)), .fieldAddr 3 (.t 3)⟩,
 ⟨some 35, (some (33, false)), .load false 1 (.t 34)⟩,
 ⟨some 36, (some (33, false)), .mov (.t 8)⟩,
 ⟨some 37, (some (33, false)), .indexAddr 1 (.t 35) (.t 36)⟩,
 ⟨some 38, (some (33, false)), .load false 1 (.t 37)⟩,
 ⟨some 39, (some (30, true)), .pick (.t 33) (.v (.b true)) (.t 38)⟩,
 ⟨some 40, none, .pick (.t 30) (.t 39) (.v (.b false))⟩] [1, 2, 3, 6, 7, 9, 16, 17, 18, 40])
 (.cond (.t 40)
 (.reg [
 ⟨some 41, none, .fieldAddr 1 (.t 7)⟩,
 ⟨some 42, none, .load false 1 (.t 41)⟩,
 ⟨some 43, none, .load true 2 (.t 9)⟩,
 ⟨some 44, none, .buildSlice 2 [(.t 43)]⟩,
 ⟨some 45, none, .append 2 16 true (.t 42) (.t 44)⟩,
 ⟨some 46, none, .fieldAddr 1 (.t 7)⟩,
 ⟨none, none, .store 1 (.t 46) (.t 45)⟩] [1, 2, 3, 6, 7, 16, 17, 18])
 (.skip)))))
 (.reg [
 ⟨some 47, none, .bin .add (.t 18) (.v (.i .i64 1))⟩,
 ⟨some 18, none, .mov (.t 47)⟩] [1, 2, 3, 6, 7, 16, 17, 18])))))))
 (.seq
 (.reg [
 ⟨some 48, none, .load true 2 (.t 7)⟩,
 ⟨none, none, .store 2 (.t 6) (.t 48)⟩] [6])
 (.ret))))
theorem get_impl_Leveled_above : prog.funcs[fid_impl_Leveled_above]? = some f81 := func81
theorem ok_impl_Leveled_above : okFn prog f81 49 [] [(6, some (true, 2))] mc_impl_Leveled_above = true := by kernel_rfl
def mc_impl_Graph_parts : MCode :=
 .seq
 (.reg [
 ⟨some 1, none, .box 2 (.t 0)⟩,
 ⟨some 2, none, .mov (.v (.nl 1))⟩] [1])
 (.seq
 (.reg [
 ⟨some 8, none, .buildSlice 1 []⟩,
 ⟨some 3, none, .mov (.t 8)⟩] [1, 3])
 (.seq
 (.seq
 (.reg [
 ⟨some 9, none, .fieldAddr 0 (.t 1)⟩,
 ⟨some 10, none, .load false 1 (.t 9)⟩,
 ⟨some 11, none, .mov (.v (.i .i64 0))⟩] [1, 3, 10, 11])
 (.block 0
 (.loop [1, 3, 10, 11]
 (.seq
 (.reg [
 ⟨some 12, none, .bin .lss (.t 11) (.t 10)⟩] [1, 3, 10, 11, 12])
 (.seq
 (.cond (.t 12)
 (.skip)
 (.exit 0))
 (.seq
 (.block 1
 (.seq
 (.reg [
 ⟨some 13, none, .mov (.t 11)⟩,
 ⟨some 4, none, .mov (.t 13)⟩] [1, 3, 4, 10, 11])
 (.reg [
 ⟨some 14, none, .mov (.t 3)⟩,
 ⟨some 15, none, .mov (.t 4)⟩,
 ⟨some 16, none, .buildSlice 1 [(.t 15)]⟩,
 ⟨some 17, none, .append 1 8 true (.t 14) (.t 16)⟩,
 ⟨some 3, none, .mov (.t 17)⟩] [1, 3, 10, 11])))
 (.reg [
 ⟨some 18, none, .bin .add (.t 11) (.v (.i .i64 1))⟩,
 ⟨some 11, none, .mov (.t 18)⟩] [1, 3, 10, 11])))))))
 (.seq
 (.seq
 (.reg [
 ⟨some 19, none, .fieldAddr 0 (.t 1)⟩,
 ⟨some 20, none, .load false 1 (.t 19)⟩,
 ⟨some 21, none, .mov (.v (.i .i64 0))⟩] [1, 3, 20, 21])
 (.block 2
 (.loop [1, 3, 20, 21]
 (.seq
 (.reg [
 ⟨some 22, none, .bin .lss (.t 21) (.t 20)⟩] [1, 3, 20, 21, 22])
 (.seq
 (.cond (.t 22)
 (.skip)
 (.exit 2))
 (.seq
 (.block 3
 (.seq
 (.reg [
 ⟨some 23, none, .fieldAddr 1 (.t 1)⟩,
 ⟨some 24, none, .load false 1 (.t 23)⟩,
 ⟨some 25, none, .len (.t 24)⟩,
 ⟨some 26, none, .mov (.v (.i .i64 0))⟩] [1, 3, 20, 21, 24, 25, 26])
 (.block 4
 (.loop [1, 3, 20, 21, 24, 25, 26]
 (.seq
 (.reg [
 ⟨some 27, none, .bin .lss (.t 26) (.t 25)⟩] [1, 3, 20, 21, 24, 25, 26, 27])
 (.seq
 (.cond (.t 27)
 (.skip)
 (.exit 4))
 (.seq
 (.block 5
 (.seq
 (.reg [
 ⟨some 28, none, .indexAddr 2 (.t 24) (.t 26)⟩,
 ⟨some 29, none, .load true 2 (.t 28)⟩,
 ⟨some 6, none, .alloc [.i .i64 0, .i .i64 0]⟩,
 ⟨none, none, .store 2 (.t 6) (.t 29)⟩] [1, 3, 6, 20, 21, 24, 25, 26])
 (.seq
 (.draw [0, 0, 2, 7, 15, 0, 0, 64, 224, 480, 1023, 2047] [
 ⟨some 30, none, .mov (.t 3)⟩,
 ⟨some 31, none, .fieldAddr 0 (.t 6)⟩,
 ⟨some 32, none, .load false 1 (.t 31)⟩,
 ⟨some 33, none, .indexAddr 1 (.t 30) (.t 32)⟩,
 ⟨some 34, none, .load false 1 (.t 33)⟩,
 ⟨some 35, none, .mov (.t 3)⟩,
 ⟨some 36, none, .fieldAddr 1 (.t 6)⟩,
 ⟨some 37, none, .load false 1 (.t 36)⟩,
 ⟨some 38, none, .indexAddr 1 (.t 35) (.t 37)⟩,
 ⟨some 39, none, .load false 1 (.t 38)⟩,
 ⟨some 40, none, .minmax false (.t 34) (.t 39)⟩,
 ⟨some 7, none, .mov (.t 40)⟩] [1, 3, 6, 7, 20, 21, 24, 25, 26])
 (.draw [0, 0, 2, 0, 0, 16, 0, 0, 71, 327, 1023, 2047] [
 ⟨some 41, none, .mov (.t 3)⟩,
 ⟨some 42, none, .fieldAddr 0 (.t 6)⟩,
 ⟨some 43, none, .load false 1 (.t 42)⟩,
 ⟨some 44, none, .mov (.t 3)⟩,
 ⟨some 45, none, .fieldAddr 1 (.t 6)⟩,
 ⟨some 46, none, .load false 1 (.t 45)⟩,
 ⟨some 47, none, .mov (.t 7)⟩,
 ⟨some 48, none, .mov (.t 7)⟩,
 ⟨some 49, none, .indexAddr 1 (.t 41) (.t 43)⟩,
 ⟨none, none, .store 1 (.t 49) (.t 47)⟩,
 ⟨some 50, none, .indexAddr 1 (.t 44) (.t 46)⟩,
 ⟨none, none, .store 1 (.t 50) (.t 48)⟩] [1, 3, 20, 21, 24, 25, 26]))))
 (.reg [
 ⟨some 51, none, .bin .add (.t 26) (.v (.i .i64 1))⟩,
 ⟨some 26, none, .mov (.t 51)⟩] [1, 3, 20, 21, 24, 25, 26]))))))))
 (.reg [
 ⟨some 52, none, .bin .add (.t 21) (.v (.i .i64 1))⟩,
 ⟨some 21, none, .mov (.t 52)⟩] [1, 3, 20, 21])))))))
 (.seq
 (.reg [
 ⟨some 53, none, .mov (.t 3)⟩,
 ⟨some 2, none, .mov (.t 53)⟩] [2])
 (.ret)))))
theorem get_impl_Graph_parts : prog.funcs[fid_impl_Graph_parts]? = some f82 := func82
theorem ok_impl_Graph_parts : okFn prog f82 54 [] [(2, none)] mc_impl_Graph_parts = true := by kernel_rfl
def mc_impl_Graph_forest : MCode :=
 .seq
 (.reg [
 ⟨some 1, none, .box 2 (.t 0)⟩,
 ⟨some 2, none, .mov (.v (.nl 2))⟩] [1])
 (.seq
 (.reg [
 ⟨some 6, none, .fieldAddr 0 (.t 1)⟩,
 ⟨some 7, none, .load false 1 (.t 6)⟩,
 ⟨some 8, none, .build [.i .i64 0, .nl 2] [(0, 1, (.t 7))]⟩,
 ⟨some 3, none, .alloc [.i .i64 0, .nl 2]⟩,
 ⟨none, none, .store 2 (.t 3) (.t 8)⟩] [1, 3])
 (.seq
 (.seq
 (.reg [
 ⟨some 9, none, .fieldAddr 1 (.t 1)⟩,
 ⟨some 10, none, .load false 1 (.t 9)⟩,
 ⟨some 11, none, .len (.t 10)⟩,
 ⟨some 12, none, .mov (.v (.i .i64 0))⟩] [3, 10, 11, 12])
 (.block 0
 (.loop [3, 10, 11, 12]
 (.seq
 (.reg [
 ⟨some 13, none, .bin .lss (.t 12) (.t 11)⟩] [3, 10, 11, 12, 13])
 (.seq
 (.cond (.t 13)
 (.skip)
 (.exit 0))
 (.seq
 (.block 1
 (.seq
 (.reg [
 ⟨some 14, none, .indexAddr 2 (.t 10) (.t 12)⟩,
 ⟨some 15, none, .load true 2 (.t 14)⟩,
 ⟨some 5, none, .alloc [.i .i64 0, .i .i64 0]⟩,
 ⟨none, none, .store 2 (.t 5) (.t 15)⟩] [3, 5, 10, 11, 12])
 (.seq
 (.reg [
 ⟨some 16, none, .load true 2 (.t 3)⟩,
 ⟨some 17, none, .fieldAddr 0 (.t 5)⟩,
 ⟨some 18, none, .load false 1 (.t 17)⟩,
 ⟨some 19, none, .fieldAddr 1 (.t 5)⟩,
 ⟨some 20, none, .load false 1 (.t 19)⟩,
 ⟨some 21, none, .call fid_impl_Graph_connected false [.im, .im, .im] [(.t 16), (.t 18), (.t 20)]⟩,
 ⟨some 22, none, .un .not (.t 21)⟩] [3, 5, 10, 11, 12, 22])
 (.cond (.t 22)
 (.reg [
 ⟨some 23, none, .fieldAddr 1 (.t 3)⟩,
 ⟨some 24, none, .load false 1 (.t 23)⟩,
 ⟨some 25, none, .load true 2 (.t 5)⟩,
 ⟨some 26, none, .buildSlice 2 [(.t 25)]⟩,
 ⟨some 27, none, .append 2 16 true (.t 24) (.t 26)⟩,
 ⟨some 28, none, .fieldAddr 1 (.t 3)⟩,
 ⟨none, none, .store 1 (.t 28) (.t 27)⟩] [3, 10, 11, 12])
 (.skip)))))
 (.reg [
 ⟨some 29, none, .bin .add (.t 12) (.v (.i .i64 1))⟩,
 ⟨some 12, none, .mov (.t 29)⟩] [3, 10, 11, 12])))))))
 (.seq
 (.reg [
 ⟨some 30, none, .fieldAddr 1 (.t 3)⟩,
 ⟨some 31, none, .load false 1 (.t 30)⟩,
 ⟨some 2, none, .mov (.t 31)⟩] [2])
 (.ret))))
theorem get_impl_Graph_forest : prog.funcs[fid_impl_Graph_forest]? = some f83 := func83
theorem ok_impl_Graph_forest : okFn prog f83 32 [] [(2, none)] mc_impl_Graph_forest = true := by kernel_rfl
def mc_slices_Equal_int_int : MCode :=
 .seq
 (.reg [
 ⟨some 4, none, .mov (.v (.b false))⟩] [0, 1])
 (.seq
 (.seq
 (.reg [
 ⟨some 6, none, .mov (.t 0)⟩,
 ⟨some 7, none, .len (.t 6)⟩,
 ⟨some 8, none, .mov (.t 1)⟩,
 ⟨some 9, none, .len (.t 8)⟩,
 ⟨some 10, none, .bin .neq (.t 7) (.t 9)⟩] [0, 1, 10])
 (.cond (.t 10)
 (.seq
 (.reg [
 ⟨some 4, none, .mov (.v (.b false))⟩] [4])
 (.ret))
 (.skip)))
 (.seq
 (.seq
 (.reg [
 ⟨some 11, none, .mov (.t 0)⟩,
 ⟨some 12, none, .len (.t 11)⟩,
 ⟨some 13, none, .mov (.v (.i .i64 0))⟩] [0, 1, 12, 13])
 (.block 0
 (.loop [0, 1, 12, 13]
 (.seq
 (.reg [
 ⟨some 14, none, .bin .lss (.t 13) (.t 12)⟩] [0, 1, 12, 13, 14])
 (.seq
 (.cond (.t 14)
 (.skip)
 (.exit 0))
 (.seq
 (.block 1
 (.seq
 (.reg [
 ⟨some 15, none, .mov (.t 13)⟩,
 ⟨some 5, none, .mov (.t 15)⟩] [0, 1, 5, 12, 13])
 (.seq
 (.draw [0, 0, 3, 7, 0, 0, 48, 112, 255] [
 ⟨some 16, none, .mov (.t 0)⟩,
 ⟨some 17, none, .mov (.t 5)⟩,
 ⟨some 18, none, .indexAddr 1 (.t 16) (.t 17)⟩,
 ⟨some 19, none, .load false 1 (.t 18)⟩,
 ⟨some 20, none, .mov (.t 1)⟩,
 ⟨some 21, none, .mov (.t 5)⟩,
 ⟨some 22, none, .indexAddr 1 (.t 20) (.t 21)⟩,
 ⟨some 23, none, .load false 1 (.t 22)⟩,
 ⟨some 24, none, .bin .neq (.t 19) (.t 23)⟩] [0, 1, 12, 13, 24])
 (.cond (.t 24)
 (.seq
 (.reg [
 ⟨some 4, none, .mov (.v (.b false))⟩] [4])
 (.ret))
 (.skip)))))
 (.reg [
 ⟨some 25, none, .bin .add (.t 13) (.v (.i .i64 1))⟩,
 ⟨some 13, none, .mov (.t 25)⟩] [0, 1, 12, 13])))))))
 (.seq
 (.reg [
 ⟨some 4, none, .mov (.v (.b true))⟩] [4])
 (.ret))))
theorem get_slices_Equal_int_int : prog.funcs[fid_slices_Equal_int_int]? = some f84 := func84
theorem ok_slices_Equal_int_int : okFn prog f84 26 [] [(4, none)] mc_slices_Equal_int_int = true := by kernel_rfl
def mc_impl_LevelsValid_2 : MCode :=
 .seq
 (.reg [
 ⟨some 4, none, .mov (.v (.b false))⟩] [0, 1, 2])
 (.seq
 (.reg [
 ⟨some 5, none, .mov (.t 0)⟩,
 ⟨some 6, none, .bin .gtr (.t 5) (.v (.i .i64 1))⟩,
 ⟨some 7, none, .mov (.t 6)⟩,
 ⟨some 8, (some (7, true)), .mov (.t 0)⟩,
 ⟨some 9, (some (7, true)), .fieldAddr 0 (.t 1)⟩,
 ⟨some 10, (some (7, true)), .fieldAddr 0 (.t 9)⟩,
 ⟨some 11, (some (7, true)), .load false 1 (.t 10)⟩,
 ⟨some 12, (some (7, true)), .load false 1 (.t 2)⟩,
 ⟨some 13, (some (7, true)), .bin .shr (.t 11) (.t 12)⟩,
 ⟨some 14, (some (7, true)), .bin .gtr (.t 8) (.t 13)⟩,
 ⟨some 15, none, .pick (.t 7) (.t 14) (.v (.b false))⟩,
 ⟨some 4, none, .mov (.t 15)⟩] [4])
 (.ret))
theorem get_impl_LevelsValid_2 : prog.funcs[fid_impl_LevelsValid_2]? = some f85 := func85
theorem ok_impl_LevelsValid_2 : okFn prog f85 16 [] [(4, none)] mc_impl_LevelsValid_2 = true := by kernel_rfl
def mc_impl_HasEdge : MCode :=
 .seq
 (.reg [
 ⟨some 2, none, .box 2 (.t 0)⟩,
 ⟨some 3, none, .box 2 (.t 1)⟩,
 ⟨some 4, none, .mov (.v (.b false))⟩] [2, 3])
 (.seq
 (.reg [
 ⟨some 5, none, .load true 2 (.t 2)⟩,
 ⟨some 6, none, .call fid_impl_GraphValid false [.im] [(.t 5)]⟩,
 ⟨some 7, none, .mov (.t 6)⟩,
 ⟨some 8, (some (7, true)), .load true 2 (.t 2)⟩,
 ⟨some 9, (some (7, true)), .load true 2 (.t 3)⟩,
 ⟨some 10, (some (7, true)), .call fid_impl_Graph_has false [.im, .im] [(.t 8), (.t 9)]⟩,
 ⟨some 11, none, .pick (.t 7) (.t 10) (.v (.b false))⟩,
 ⟨some 4, none, .mov (.t 11)⟩] [4])
 (.ret))
theorem get_impl_HasEdge : prog.funcs[fid_impl_HasEdge]? = some f87 := func87
theorem ok_impl_HasEdge : okFn prog f87 12 [] [(4, none)] mc_impl_HasEdge = true := by kernel_rfl
def mc_impl_PartsOf : MCode :=
 .seq
 (.reg [
 ⟨some 1, none, .box 2 (.t 0)⟩,
 ⟨some 2, none, .mov (.v (.nl 1))⟩] [1])
 (.seq
 (.seq
 (.reg [
 ⟨some 3, none, .load true 2 (.t 1)⟩,
 ⟨some 4, none, .call fid_impl_GraphValid false [.im] [(.t 3)]⟩,
 ⟨some 5, none, .un .not (.t 4)⟩] [1, 5])
 (.cond (.t 5)
 (.seq
 (.reg [
 ⟨some 2, none, .mov (.v (.nl 1))⟩] [2])
 (.ret))
 (.skip)))
 (.seq
 (.reg [
 ⟨some 6, none, .load true 2 (.t 1)⟩,
 ⟨some 7, none, .call fid_impl_Graph_parts false [.im] [(.t 6)]⟩,
 ⟨some 2, none, .mov (.t 7)⟩] [2])
 (.ret)))
theorem get_impl_PartsOf : prog.funcs[fid_impl_PartsOf]? = some f88 := func88
theorem ok_impl_PartsOf : okFn prog f88 8 [] [(2, none)] mc_impl_PartsOf = true := by kernel_rfl
def mc_slices_Contains_impl_Edge_impl_Edge : MCode :=
 .seq
 (.reg [
 ⟨some 3, none, .box 2 (.t 1)⟩,
 ⟨some 4, none, .mov (.v (.b false))⟩] [0, 3])
 (.seq
 (.reg [
 ⟨some 5, none, .mov (.t 0)⟩,
 ⟨some 6, none, .load true 2 (.t 3)⟩,
 ⟨some 7, none, .call fid_slices_Index_impl_Edge_impl_Edge false [.im, .im] [(.t 5), (.t 6)]⟩,
 ⟨some 8, none, .bin .geq (.t 7) (.v (.i .i64 0))⟩,
 ⟨some 4, none, .mov (.t 8)⟩] [4])
 (.ret))
theorem get_slices_Contains_impl_Edge_impl_Edge : prog.funcs[fid_slices_Contains_impl_Edge_impl_Edge]? = some f101 := func101
theorem ok_slices_Contains_impl_Edge_impl_Edge : okFn prog f101 9 [] [(4, none)] mc_slices_Contains_impl_Edge_impl_Edge = true := by kernel_rfl
def mc_impl_Graph_without : MCode :=
 .seq
 (.reg [
 ⟨some 2, none, .box 2 (.t 0)⟩,
 ⟨some 4, none, .alloc [.i .i64 0, .nl 2]⟩] [1, 2, 4])
 (.seq
 (.draw [0, 1, 0, 4, 12, 0, 60, 127, 255] [
 ⟨some 5, none, .fieldAddr 0 (.t 2)⟩,
 ⟨some 6, none, .load false 1 (.t 5)⟩,
 ⟨some 7, none, .fieldAddr 1 (.t 2)⟩,
 ⟨some 8, none, .load false 1 (.t 7)⟩,
 ⟨some 9, none, .call fid_slices_Clone_impl_Edge_impl_Edge false [.im] [(.t 8)]⟩,
 ⟨some 10, none, .mov (.t 1)⟩,
 ⟨some 11, none, .call fid_slices_DeleteFunc_impl_Edge_impl_Edge false [.co, .fn] [(.t 9), (.t 10)]⟩,
 ⟨some 12, none, .build [.i .i64 0, .nl 2] [(0, 1, (.t 6)), (1, 1, (.t 11))]⟩,
 ⟨none, none, .store 2 (.t 4) (.t 12)⟩] [4])
 (.ret))
theorem get_impl_Graph_without : prog.funcs[fid_impl_Graph_without]? = some f102 := func102
theorem ok_impl_Graph_without : okFn prog f102 13 [] [(4, some (true, 2))] mc_impl_Graph_without = true := by kernel_rfl
def mc_impl_Graph_cut_1 : MCode :=
 .seq
 (.reg [
 ⟨some 2, none, .box 2 (.t 0)⟩,
 ⟨some 3, none, .mov (.v (.b false))⟩] [1, 2])
 (.seq
 (.reg [
 ⟨some 4, none, .load true 2 (.t 2)⟩,
 ⟨some 5, none, .load true 2 (.t 1)⟩,
 ⟨some 6, none, .eqAgg false [true, true] (.t 4) (.t 5)⟩,
 ⟨some 3, none, .mov (.t 6)⟩] [3])
 (.ret))
theorem get_impl_Graph_cut_1 : prog.funcs[fid_impl_Graph_cut_1]? = some f103 := func103
theorem ok_impl_Graph_cut_1 : okFn prog f103 7 [] [(3, none)] mc_impl_Graph_cut_1 = true := by kernel_rfl
def mc_p_impl_Leveled_replace_1 : MCode :=
 .seq
 (.reg [
 ⟨some 3, none, .mov (.v (.i .i64 0))⟩] [0, 1])
 (.seq
 (.reg [
 ⟨some 4, none, .mov (.v (.i .i64 0))⟩] [0, 1, 4])
 (.seq
 (.seq
 (.reg [
 ⟨some 7, none, .load false 1 (.t 1)⟩,
 ⟨some 8, none, .len (.t 7)⟩,
 ⟨some 9, none, .mov (.v (.i .i64 0))⟩] [0, 4, 7, 8, 9])
 (.block 0
 (.loop [0, 4, 7, 8, 9]
 (.seq
 (.reg [
 ⟨some 10, none, .bin .lss (.t 9) (.t 8)⟩] [0, 4, 7, 8, 9, 10])
 (.seq
 (.cond (.t 10)
 (.skip)
 (.exit 0))
 (.seq
 (.block 1
 (.seq
 (.reg [
 ⟨some 11, none, .indexAddr 1 (.t 7) (.t 9)⟩,
 ⟨some 12, none, .load false 1 (.t 11)⟩,
 ⟨some 6, none, .mov (.t 12)⟩] [0, 4, 6, 7, 8, 9])
 (.seq
 (.reg [
 ⟨some 13, none, .mov (.t 6)⟩,
 ⟨some 14, none, .mov (.t 0)⟩,
 ⟨some 15, none, .bin .eql (.t 13) (.t 14)⟩] [0, 4, 7, 8, 9, 15])
 (.cond (.t 15)
 (.reg [
 ⟨some 16, none, .mov (.t 4)⟩,
 ⟨some 17, none, .bin .add (.t 16) (.v (.i .i64 1))⟩,
 ⟨some 4, none, .mov (.t 17)⟩] [0, 4, 7, 8, 9])
 (.skip)))))
 (.reg [
 ⟨some 18, none, .bin .add (.t 9) (.v (.i .i64 1))⟩,
 ⟨some 9, none, .mov (.t 18)⟩] [0, 4, 7, 8, 9])))))))
 (.seq
 (.reg [
 ⟨some 19, none, .mov (.t 4)⟩,
 ⟨some 3, none, .mov (.t 19)⟩] [3])
 (.ret))))
theorem get_p_impl_Leveled_replace_1 : prog.funcs[fid_p_impl_Leveled_replace_1]? = some f104 := func104
theorem ok_p_impl_Leveled_replace_1 : okFn prog f104 20 [] [(3, none)] mc_p_impl_Leveled_replace_1 = true := by kernel_rfl
def mc_slices_overlaps_int : MCode :=
 .skip
theorem get_slices_overlaps_int : prog.funcs[fid_slices_overlaps_int]? = some f110 := func110
abbrev ovT_slices_overlaps_int : Nat := 25
abbrev ovR_slices_overlaps_int : Nat := 4
abbrev ove_slices_overlaps_int : Nat := 3
def mc_slices_rotateRight_int : MCode :=
 .reg [
 ⟨some 4, none, .mov (.t 0)⟩,
 ⟨some 5, none, .mov (.t 0)⟩,
 ⟨some 6, none, .len (.t 5)⟩,
 ⟨some 7, none, .mov (.t 1)⟩,
 ⟨some 8, none, .bin .sub (.t 6) (.t 7)⟩,
 ⟨some 9, none, .call fid_slices_rotateLeft_int false [.im, .im] [(.t 4), (.t 8)]⟩] []
theorem get_slices_rotateRight_int : prog.funcs[fid_slices_rotateRight_int]? = some f111 := func111
theorem ok_slices_rotateRight_int : okFn prog f111 10 [] [] mc_slices_rotateRight_int = true := by kernel_rfl
def mc_slices_overlaps_bool : MCode :=
 .skip
theorem get_slices_overlaps_bool : prog.funcs[fid_slices_overlaps_bool]? = some f112 := func112
abbrev ovT_slices_overlaps_bool : Nat := 26
abbrev ovR_slices_overlaps_bool : Nat := 4
abbrev ove_slices_overlaps_bool : Nat := 4
def mc_slices_rotateRight_bool : MCode :=
 .reg [
 ⟨some 4, none, .mov (.t 0)⟩,
 ⟨some 5, none, .mov (.t 0)⟩,
 ⟨some 6, none, .len (.t 5)⟩,
 ⟨some 7, none, .mov (.t 1)⟩,
 ⟨some 8, none, .bin .sub (.t 6) (.t 7)⟩,
 ⟨some 9, none, .call fid_slices_rotateLeft_bool false [.im, .im] [(.t 4), (.t 8)]⟩] []
theorem get_slices_rotateRight_bool : prog.funcs[fid_slices_rotateRight_bool]? = some f113 := func113
theorem ok_slices_rotateRight_bool : okFn prog f113 10 [] [] mc_slices_rotateRight_bool = true := by kernel_rfl
def mc_cmp_Or_int : MCode :=
 .seq
 (.reg [
 ⟨some 2, none, .mov (.v (.i .i64 0))⟩] [0])
 (.seq
 (.reg [
 ⟨some 3, none, .mov (.v (.i .i64 0))⟩] [0, 3])
 (.seq
 (.seq
 (.reg [
 ⟨some 6, none, .mov (.t 0)⟩,
 ⟨some 7, none, .len (.t 6)⟩,
 ⟨some 8, none, .mov (.v (.i .i64 0))⟩] [3, 6, 7, 8])
 (.block 0
 (.loop [3, 6, 7, 8]
 (.seq
 (.reg [
 ⟨some 9, none, .bin .lss (.t 8) (.t 7)⟩] [3, 6, 7, 8, 9])
 (.seq
 (.cond (.t 9)
 (.skip)
 (.exit 0))
 (.seq
 (.block 1
 (.seq
 (.reg [
 ⟨some 10, none, .indexAddr 1 (.t 6) (.t 8)⟩,
 ⟨some 11, none, .load false 1 (.t 10)⟩,
 ⟨some 5, none, .mov (.t 11)⟩] [3, 5, 6, 7, 8])
 (.seq
 (.reg [
 ⟨some 12, none, .mov (.t 5)⟩,
 ⟨some 13, none, .mov (.t 3)⟩,
 ⟨some 14, none, .bin .neq (.t 12) (.t 13)⟩] [3, 5, 6, 7, 8, 14])
 (.cond (.t 14)
 (.seq
 (.reg [
 ⟨some 15, none, .mov (.t 5)⟩,
 ⟨some 2, none, .mov (.t 15)⟩] [2])
 (.ret))
 (.skip)))))
 (.reg [
 ⟨some 16, none, .bin .add (.t 8) (.v (.i .i64 1))⟩,
 ⟨some 8, none, .mov (.t 16)⟩] [3, 6, 7, 8])))))))
 (.seq
 (.reg [
 ⟨some 17, none, .mov (.t 3)⟩,
 ⟨some 2, none, .mov (.t 17)⟩] [2])
 (.ret))))
theorem get_cmp_Or_int : prog.funcs[fid_cmp_Or_int]? = some f115 := func115
theorem ok_cmp_Or_int : okFn prog f115 18 [] [(2, none)] mc_cmp_Or_int = true := by kernel_rfl
def mc_cmp_Compare_int : MCode :=
 .seq
 (.reg [
 ⟨some 4, none, .mov (.v (.i .i64 0))⟩] [0, 1])
 (.seq
 (.reg [
 ⟨some 7, none, .mov (.t 0)⟩,
 ⟨some 8, none, .call fid_cmp_isNaN_int false [.im] [(.t 7)]⟩,
 ⟨some 5, none, .mov (.t 8)⟩] [0, 1, 5])
 (.seq
 (.reg [
 ⟨some 9, none, .mov (.t 1)⟩,
 ⟨some 10, none, .call fid_cmp_isNaN_int false [.im] [(.t 9)]⟩,
 ⟨some 6, none, .mov (.t 10)⟩] [0, 1, 5, 6])
 (.seq
 (.seq
 (.reg [
 ⟨some 11, none, .mov (.t 5)⟩] [0, 1, 6, 11])
 (.cond (.t 11)
 (.seq
 (.seq
 (.reg [
 ⟨some 12, none, .mov (.t 6)⟩] [12])
 (.cond (.t 12)
 (.seq
 (.reg [
 ⟨some 4, none, .mov (.v (.i .i64 0))⟩] [4])
 (.ret))
 (.skip)))
 (.seq
 (.reg [
 ⟨some 4, none, .mov (.v (.i .i64 (-1)))⟩] [4])
 (.ret)))
 (.skip)))
 (.seq
 (.seq
 (.reg [
 ⟨some 13, none, .mov (.t 6)⟩] [0, 1, 13])
 (.cond (.t 13)
 (.seq
 (.reg [
 ⟨some 4, none, .mov (.v (.i .i64 1))⟩] [4])
 (.ret))
 (.skip)))
 (.seq
 (.seq
 (.reg [
 ⟨some 14, none, .mov (.t 0)⟩,
 ⟨some 15, none, .mov (.t 1)⟩,
 ⟨some 16, none, .bin .lss (.t 14) (.t 15)⟩] [0, 1, 16])
 (.cond (.t 16)
 (.seq
 (.reg [
 ⟨some 4, none, .mov (.v (.i .i64 (-1)))⟩] [4])
 (.ret))
 (.skip)))
 (.seq
 (.seq
 (.reg [
 ⟨some 17, none, .mov (.t 0)⟩,
 ⟨some 18, none, .mov (.t 1)⟩,
 ⟨some 19, none, .bin .gtr (.t 17) (.t 18)⟩] [19])
 (.cond (.t 19)
 (.seq
 (.reg [
 ⟨some 4, none, .mov (.v (.i .i64 1))⟩] [4])
 (.ret))
 (.skip)))
 (.seq
 (.reg [
 ⟨some 4, none, .mov (.v (.i .i64 0))⟩] [4])
 (.ret))))))))
theorem get_cmp_Compare_int : prog.funcs[fid_cmp_Compare_int]? = some f116 := func116
theorem ok_cmp_Compare_int : okFn prog f116 20 [] [(4, none)] mc_cmp_Compare_int = true := by kernel_rfl
def mc_slices_overlaps_impl_Edge : MCode :=
 .skip
theorem get_slices_overlaps_impl_Edge : prog.funcs[fid_slices_overlaps_impl_Edge]? = some f117 := func117
abbrev ovT_slices_overlaps_impl_Edge : Nat := 32
abbrev ovR_slices_overlaps_impl_Edge : Nat := 4
abbrev ove_slices_overlaps_impl_Edge : Nat := 40
def mc_slices_rotateRight_impl_Edge : MCode :=
 .reg [
 ⟨some 4, none, .mov (.t 0)⟩,
 ⟨some 5, none, .mov (.t 0)⟩,
 ⟨some 6, none, .len (.t 5)⟩,
 ⟨some 7, none, .mov (.t 1)⟩,
 ⟨some 8, none, .bin .sub (.t 6) (.t 7)⟩,
 ⟨some 9, none, .call fid_slices_rotateLeft_impl_Edge false [.im, .im] [(.t 4), (.t 8)]⟩] []
theorem get_slices_rotateRight_impl_Edge : prog.funcs[fid_slices_rotateRight_impl_Edge]? = some f118 := func118
theorem ok_slices_rotateRight_impl_Edge : okFn prog f118 10 [] [] mc_slices_rotateRight_impl_Edge = true := by kernel_rfl
def mc_slices_IndexFunc_int_int : MCode :=
 .seq
 (.reg [
 ⟨some 4, none, .mov (.v (.i .i64 0))⟩] [0, 1])
 (.seq
 (.seq
 (.reg [
 ⟨some 6, none, .mov (.t 0)⟩,
 ⟨some 7, none, .len (.t 6)⟩,
 ⟨some 8, none, .mov (.v (.i .i64 0))⟩] [0, 1, 7, 8])
 (.block 0
 (.loop [0, 1, 7, 8]
 (.seq
 (.reg [
 ⟨some 9, none, .bin .lss (.t 8) (.t 7)⟩] [0, 1, 7, 8, 9])
 (.seq
 (.cond (.t 9)
 (.skip)
 (.exit 0))
 (.seq
 (.block 1
 (.seq
 (.reg [
 ⟨some 10, none, .mov (.t 8)⟩,
 ⟨some 5, none, .mov (.t 10)⟩] [0, 1, 5, 7, 8])
 (.seq
 (.reg [
 ⟨some 11, none, .mov (.t 1)⟩,
 ⟨some 12, none, .mov (.t 0)⟩,
 ⟨some 13, none, .mov (.t 5)⟩,
 ⟨some 14, none, .indexAddr 1 (.t 12) (.t 13)⟩,
 ⟨some 15, none, .load false 1 (.t 14)⟩,
 ⟨some 16, none, .callv (.t 11) [(.t 15)]⟩] [0, 1, 5, 7, 8, 16])
 (.cond (.t 16)
 (.seq
 (.reg [
 ⟨some 17, none, .mov (.t 5)⟩,
 ⟨some 4, none, .mov (.t 17)⟩] [4])
 (.ret))
 (.skip)))))
 (.reg [
 ⟨some 18, none, .bin .add (.t 8) (.v (.i .i64 1))⟩,
 ⟨some 8, none, .mov (.t 18)⟩] [0, 1, 7, 8])))))))
 (.seq
 (.reg [
 ⟨some 4, none, .mov (.v (.i .i64 (-1)))⟩] [4])
 (.ret)))
theorem get_slices_IndexFunc_int_int : prog.funcs[fid_slices_IndexFunc_int_int]? = some f119 := func119
theorem ok_slices_IndexFunc_int_int : okFn prog f119 19 [] [(4, none)] mc_slices_IndexFunc_int_int = true := by kernel_rfl
def mc_slices_DeleteFunc_impl_Edge_impl_Edge : MCode :=
 .seq
 (.reg [
 ⟨some 4, none, .mov (.v (.nl 2))⟩] [0, 1])
 (.seq
 (.reg [
 ⟨some 8, none, .mov (.t 0)⟩,
 ⟨some 9, none, .mov (.t 1)⟩,
 ⟨some 10, none, .call fid_slices_IndexFunc_impl_Edge_impl_Edge false [.im, .fn] [(.t 8), (.t 9)]⟩,
 ⟨some 5, none, .mov (.t 10)⟩] [0, 1, 5])
 (.seq
 (.seq
 (.reg [
 ⟨some 11, none, .mov (.t 5)⟩,
 ⟨some 12, none, .bin .eql (.t 11) (.v (.i .i64 (-1)))⟩] [0, 1, 5, 12])
 (.cond (.t 12)
 (.seq
 (.reg [
 ⟨some 13, none, .mov (.t 0)⟩,
 ⟨some 4, none, .mov (.t 13)⟩] [4])
 (.ret))
 (.skip)))
 (.seq
 (.seq
 (.reg [
 ⟨some 14, none, .mov (.t 5)⟩,
 ⟨some 15, none, .bin .add (.t 14) (.v (.i .i64 1))⟩,
 ⟨some 6, none, .mov (.t 15)⟩] [0, 1, 5, 6])
 (.block 0
 (.loop [0, 1, 5, 6]
 (.seq
 (.seq
 (.reg [
 ⟨some 16, none, .mov (.t 6)⟩,
 ⟨some 17, none, .mov (.t 0)⟩,
 ⟨some 18, none, .len (.t 17)⟩,
 ⟨some 19, none, .bin .lss (.t 16) (.t 18)⟩] [0, 1, 5, 6, 19])
 (.cond (.t 19)
 (.skip)
 (.exit 0)))
 (.seq
 (.block 1
 (.seq
 (.reg [
 ⟨some 22, none, .mov (.t 0)⟩,
 ⟨some 23, none, .mov (.t 6)⟩,
 ⟨some 24, none, .indexAddr 2 (.t 22) (.t 23)⟩,
 ⟨some 25, none, .load true 2 (.t 24)⟩,
 ⟨some 7, none, .alloc [.i .i64 0, .i .i64 0]⟩,
 ⟨none, none, .store 2 (.t 7) (.t 25)⟩] [0, 1, 5, 6, 7])
 (.seq
 (.reg [
 ⟨some 26, none, .mov (.t 1)⟩,
 ⟨some 27, none, .load true 2 (.t 7)⟩,
 ⟨some 28, none, .callv (.t 26) [(.t 27)]⟩,
 ⟨some 29, none, .un .not (.t 28)⟩] [0, 1, 5, 6, 7, 29])
 (.cond (.t 29)
 (.seq
 (.reg [
 ⟨some 30, none, .mov (.t 0)⟩,
 ⟨some 31, none, .mov (.t 5)⟩,
 ⟨some 32, none, .load true 2 (.t 7)⟩,
 ⟨some 33, none, .indexAddr 2 (.t 30) (.t 31)⟩,
 ⟨none, none, .store 2 (.t 33) (.t 32)⟩] [0, 1, 5, 6])
 (.reg [
 ⟨some 34, none, .mov (.t 5)⟩,
 ⟨some 35, none, .bin .add (.t 34) (.v (.i .i64 1))⟩,
 ⟨some 5, none, .mov (.t 35)⟩] [0, 1, 5, 6]))
 (.skip)))))
 (.reg [
 ⟨some 20, none, .mov (.t 6)⟩,
 ⟨some 21, none, .bin .add (.t 20) (.v (.i .i64 1))⟩,
 ⟨some 6, none, .mov (.t 21)⟩] [0, 1, 5, 6]))))))
 (.seq
 (.reg [
 ⟨some 36, none, .mov (.t 0)⟩,
 ⟨some 37, none, .mov (.t 5)⟩,
 ⟨some 38, none, .slice 2 (.t 36) (some (.t 37)) none⟩,
 ⟨none, none, .clear 2 [.i .i64 0, .i .i64 0] (.t 38)⟩] [0, 5])
 (.seq
 (.reg [
 ⟨some 39, none, .mov (.t 0)⟩,
 ⟨some 40, none, .mov (.t 5)⟩,
 ⟨some 41, none, .slice 2 (.t 39) none (some (.t 40))⟩,
 ⟨some 4, none, .mov (.t 41)⟩] [4])
 (.ret))))))
theorem get_slices_DeleteFunc_impl_Edge_impl_Edge : prog.funcs[fid_slices_DeleteFunc_impl_Edge_impl_Edge]? = some f124 := func124
theorem ok_slices_DeleteFunc_impl_Edge_impl_Edge : okFn prog f124 42 [] [(4, none)] mc_slices_DeleteFunc_impl_Edge_impl_Edge = true := by kernel_rfl
def mc_slices_rotateLeft_int : MCode :=
 .seq
 (.reg [
 ⟨some 4, none, .mov (.t 0)⟩,
 ⟨some 5, none, .mov (.t 1)⟩,
 ⟨some 6, none, .slice 1 (.t 4) none (some (.t 5))⟩,
 ⟨some 7, none, .call fid_slices_Reverse_int_int false [.im] [(.t 6)]⟩] [0, 1])
 (.seq
 (.reg [
 ⟨some 8, none, .mov (.t 0)⟩,
 ⟨some 9, none, .mov (.t 1)⟩,
 ⟨some 10, none, .slice 1 (.t 8) (some (.t 9)) none⟩,
 ⟨some 11, none, .call fid_slices_Reverse_int_int false [.im] [(.t 10)]⟩] [0])
 (.reg [
 ⟨some 12, none, .mov (.t 0)⟩,
 ⟨some 13, none, .call fid_slices_Reverse_int_int false [.im] [(.t 12)]⟩] []))
theorem get_slices_rotateLeft_int : prog.funcs[fid_slices_rotateLeft_int]? = some f126 := func126
theorem ok_slices_rotateLeft_int : okFn prog f126 14 [] [] mc_slices_rotateLeft_int = true := by kernel_rfl
def mc_slices_rotateLeft_bool : MCode :=
 .seq
 (.reg [
 ⟨some 4, none, .mov (.t 0)⟩,
 ⟨some 5, none, .mov (.t 1)⟩,
 ⟨some 6, none, .slice 1 (.t 4) none (some (.t 5))⟩,
 ⟨some 7, none, .call fid_slices_Reverse_bool_bool false [.im] [(.t 6)]⟩] [0, 1])
 (.seq
 (.reg [
 ⟨some 8, none, .mov (.t 0)⟩,
 ⟨some 9, none, .mov (.t 1)⟩,
 ⟨some 10, none, .slice 1 (.t 8) (some (.t 9)) none⟩,
 ⟨some 11, none, .call fid_slices_Reverse_bool_bool false [.im] [(.t 10)]⟩] [0])
 (.reg [
 ⟨some 12, none, .mov (.t 0)⟩,
 ⟨some 13, none, .call fid_slices_Reverse_bool_bool false [.im] [(.t 12)]⟩] []))
theorem get_slices_rotateLeft_bool : prog.funcs[fid_slices_rotateLeft_bool]? = some f127 := func127
theorem ok_slices_rotateLeft_bool : okFn prog f127 14 [] [] mc_slices_rotateLeft_bool = true := by kernel_rfl
def mc_cmp_isNaN_int : MCode :=
 .seq
 (.reg [
 ⟨some 2, none, .mov (.v (.b false))⟩] [0])
 (.seq
 (.reg [
 ⟨some 3, none, .mov (.t 0)⟩,
 ⟨some 4, none, .mov (.t 0)⟩,
 ⟨some 5, none, .bin .neq (.t 3) (.t 4)⟩,
 ⟨some 2, none, .mov (.t 5)⟩] [2])
 (.ret))
theorem get_cmp_isNaN_int : prog.funcs[fid_cmp_isNaN_int]? = some f128 := func128
theorem ok_cmp_isNaN_int : okFn prog f128 6 [] [(2, none)] mc_cmp_isNaN_int = true := by kernel_rfl
def mc_slices_rotateLeft_impl_Edge : MCode :=
 .seq
 (.reg [
 ⟨some 4, none, .mov (.t 0)⟩,
 ⟨some 5, none, .mov (.t 1)⟩,
 ⟨some 6, none, .slice 2 (.t 4) none (some (.t 5))⟩,
 ⟨some 7, none, .call fid_slices_Reverse_impl_Edge_impl_Edge false [.im] [(.t 6)]⟩] [0, 1])
 (.seq
 (.reg [
 ⟨some 8, none, .mov (.t 0)⟩,
 ⟨some 9, none, .mov (.t 1)⟩,
 ⟨some 10, none, .slice 2 (.t 8) (some (.t 9)) none⟩,
 ⟨some 11, none, .call fid_slices_Reverse_impl_Edge_impl_Edge false [.im] [(.t 10)]⟩] [0])
 (.reg [
 ⟨some 12, none, .mov (.t 0)⟩,
 ⟨some 13, none, .call fid_slices_Reverse_impl_Edge_impl_Edge false [.im] [(.t 12)]⟩] []))
theorem get_slices_rotateLeft_impl_Edge : prog.funcs[fid_slices_rotateLeft_impl_Edge]? = some f129 := func129
theorem ok_slices_rotateLeft_impl_Edge : okFn prog f129 14 [] [] mc_slices_rotateLeft_impl_Edge = true := by kernel_rfl
def mc_slices_IndexFunc_impl_Edge_impl_Edge : MCode :=
 .seq
 (.reg [
 ⟨some 4, none, .mov (.v (.i .i64 0))⟩] [0, 1])
 (.seq
 (.seq
 (.reg [
 ⟨some 6, none, .mov (.t 0)⟩,
 ⟨some 7, none, .len (.t 6)⟩,
 ⟨some 8, none, .mov (.v (.i .i64 0))⟩] [0, 1, 7, 8])
 (.block 0
 (.loop [0, 1, 7, 8]
 (.seq
 (.reg [
 ⟨some 9, none, .bin .lss (.t 8) (.t 7)⟩] [0, 1, 7, 8, 9])
 (.seq
 (.cond (.t 9)
 (.skip)
 (.exit 0))
 (.seq
 (.block 1
 (.seq
 (.reg [
 ⟨some 10, none, .mov (.t 8)⟩,
 ⟨some 5, none, .mov (.t 10)⟩] [0, 1, 5, 7, 8])
 (.seq
 (.reg [
 ⟨some 11, none, .mov (.t 1)⟩,
 ⟨some 12, none, .mov (.t 0)⟩,
 ⟨some 13, none, .mov (.t 5)⟩,
 ⟨some 14, none, .indexAddr 2 (.t 12) (.t 13)⟩,
 ⟨some 15, none, .load true 2 (.t 14)⟩,
 ⟨some 16, none, .callv (.t 11) [(.t 15)]⟩] [0, 1, 5, 7, 8, 16])
 (.cond (.t 16)
 (.seq
 (.reg [
 ⟨some 17, none, .mov (.t 5)⟩,
 ⟨some 4, none, .mov (.t 17)⟩] [4])
 (.ret))
 (.skip)))))
 (.reg [
 ⟨some 18, none, .bin .add (.t 8) (.v (.i .i64 1))⟩,
 ⟨some 8, none, .mov (.t 18)⟩] [0, 1, 7, 8])))))))
 (.seq
 (.reg [
 ⟨some 4, none, .mov (.v (.i .i64 (-1)))⟩] [4])
 (.ret)))
theorem get_slices_IndexFunc_impl_Edge_impl_Edge : prog.funcs[fid_slices_IndexFunc_impl_Edge_impl_Edge]? = some f131 := func131
theorem ok_slices_IndexFunc_impl_Edge_impl_Edge : okFn prog f131 19 [] [(4, none)] mc_slices_IndexFunc_impl_Edge_impl_Edge = true := by kernel_rfl
def mc_slices_Reverse_int_int : MCode :=
 .seq
 (.reg [
 ⟨some 4, none, .mov (.t 0)⟩,
 ⟨some 5, none, .len (.t 4)⟩,
 ⟨some 6, none, .bin .sub (.t 5) (.v (.i .i64 1))⟩,
 ⟨some 2, none, .mov (.v (.i .i64 0))⟩,
 ⟨some 3, none, .mov (.t 6)⟩] [0, 2, 3])
 (.block 0
 (.loop [0, 2, 3]
 (.seq
 (.seq
 (.reg [
 ⟨some 7, none, .mov (.t 2)⟩,
 ⟨some 8, none, .mov (.t 3)⟩,
 ⟨some 9, none, .bin .lss (.t 7) (.t 8)⟩] [0, 2, 3, 9])
 (.cond (.t 9)
 (.skip)
 (.exit 0)))
 (.seq
 (.block 1
 (.draw [0, 0, 0, 0, 0, 0, 48, 112, 0, 0, 768, 1792, 4083, 8179, 16383, 32767] [
 ⟨some 14, none, .mov (.t 0)⟩,
 ⟨some 15, none, .mov (.t 2)⟩,
 ⟨some 16, none, .mov (.t 0)⟩,
 ⟨some 17, none, .mov (.t 3)⟩,
 ⟨some 18, none, .mov (.t 0)⟩,
 ⟨some 19, none, .mov (.t 3)⟩,
 ⟨some 20, none, .indexAddr 1 (.t 18) (.t 19)⟩,
 ⟨some 21, none, .load false 1 (.t 20)⟩,
 ⟨some 22, none, .mov (.t 0)⟩,
 ⟨some 23, none, .mov (.t 2)⟩,
 ⟨some 24, none, .indexAddr 1 (.t 22) (.t 23)⟩,
 ⟨some 25, none, .load false 1 (.t 24)⟩,
 ⟨some 26, none, .indexAddr 1 (.t 14) (.t 15)⟩,
 ⟨none, none, .store 1 (.t 26) (.t 21)⟩,
 ⟨some 27, none, .indexAddr 1 (.t 16) (.t 17)⟩,
 ⟨none, none, .store 1 (.t 27) (.t 25)⟩] [0, 2, 3]))
 (.reg [
 ⟨some 10, none, .mov (.t 2)⟩,
 ⟨some 11, none, .bin .add (.t 10) (.v (.i .i64 1))⟩,
 ⟨some 12, none, .mov (.t 3)⟩,
 ⟨some 13, none, .bin .sub (.t 12) (.v (.i .i64 1))⟩,
 ⟨some 2, none, .mov (.t 11)⟩,
 ⟨some 3, none, .mov (.t 13)⟩] [0, 2, 3])))))
theorem get_slices_Reverse_int_int : prog.funcs[fid_slices_Reverse_int_int]? = some f132 := func132
theorem ok_slices_Reverse_int_int : okFn prog f132 28 [] [] mc_slices_Reverse_int_int = true := by kernel_rfl
def mc_slices_Reverse_bool_bool : MCode :=
 .seq
 (.reg [
 ⟨some 4, none, .mov (.t 0)⟩,
 ⟨some 5, none, .len (.t 4)⟩,
 ⟨some 6, none, .bin .sub (.t 5) (.v (.i .i64 1))⟩,
 ⟨some 2, none, .mov (.v (.i .i64 0))⟩,
 ⟨some 3, none, .mov (.t 6)⟩] [0, 2, 3])
 (.block 0
 (.loop [0, 2, 3]
 (.seq
 (.seq
 (.reg [
 ⟨some 7, none, .mov (.t 2)⟩,
 ⟨some 8, none, .mov (.t 3)⟩,
 ⟨some 9, none, .bin .lss (.t 7) (.t 8)⟩] [0, 2, 3, 9])
 (.cond (.t 9)
 (.skip)
 (.exit 0)))
 (.seq
 (.block 1
 (.draw [0, 0, 0, 0, 0, 0, 48, 112, 0, 0, 768, 1792, 4083, 8179, 16383, 32767] [
 ⟨some 14, none, .mov (.t 0)⟩,
 ⟨some 15, none, .mov (.t 2)⟩,
 ⟨some 16, none, .mov (.t 0)⟩,
 ⟨some 17, none, .mov (.t 3)⟩,
 ⟨some 18, none, .mov (.t 0)⟩,
 ⟨some 19, none, .mov (.t 3)⟩,
 ⟨some 20, none, .indexAddr 1 (.t 18) (.t 19)⟩,
 ⟨some 21, none, .load false 1 (.t 20)⟩,
 ⟨some 22, none, .mov (.t 0)⟩,
 ⟨some 23, none, .mov (.t 2)⟩,
 ⟨some 24, none, .indexAddr 1 (.t 22) (.t 23)⟩,
 ⟨some 25, none, .load false 1 (.t 24)⟩,
 ⟨some 26, none, .indexAddr 1 (.t 14) (.t 15)⟩,
 ⟨none, none, .store 1 (.t 26) (.t 21)⟩,
 ⟨some 27, none, .indexAddr 1 (.t 16) (.t 17)⟩,
 ⟨none, none, .store 1 (.t 27) (.t 25)⟩] [0, 2, 3]))
 (.reg [
 ⟨some 10, none, .mov (.t 2)⟩,
 ⟨some 11, none, .bin .add (.t 10) (.v (.i .i64 1))⟩,
 ⟨some 12, none, .mov (.t 3)⟩,
 ⟨some 13, none, .bin .sub (.t 12) (.v (.i .i64 1))⟩,
 ⟨some 2, none, .mov (.t 11)⟩,
 ⟨some 3, none, .mov (.t 13)⟩] [0, 2, 3])))))
theorem get_slices_Reverse_bool_bool : prog.funcs[fid_slices_Reverse_bool_bool]? = some f133 := func133
theorem ok_slices_Reverse_bool_bool : okFn prog f133 28 [] [] mc_slices_Reverse_bool_bool = true := by kernel_rfl
def mc_slices_Reverse_impl_Edge_impl_Edge : MCode :=
 .seq
 (.reg [
 ⟨some 4, none, .mov (.t 0)⟩,
 ⟨some 5, none, .len (.t 4)⟩,
 ⟨some 6, none, .bin .sub (.t 5) (.v (.i .i64 1))⟩,
 ⟨some 2, none, .mov (.v (.i .i64 0))⟩,
 ⟨some 3, none, .mov (.t 6)⟩] [0, 2, 3])
 (.block 0
 (.loop [0, 2, 3]
 (.seq
 (.seq
 (.reg [
 ⟨some 7, none, .mov (.t 2)⟩,
 ⟨some 8, none, .mov (.t 3)⟩,
 ⟨some 9, none, .bin .lss (.t 7) (.t 8)⟩] [0, 2, 3, 9])
 (.cond (.t 9)
 (.skip)
 (.exit 0)))
 (.seq
 (.block 1
 (.draw [0, 0, 0, 0, 0, 0, 48, 112, 0, 0, 768, 1792, 4083, 8179, 16383, 32767] [
 ⟨some 14, none, .mov (.t 0)⟩,
 ⟨some 15, none, .mov (.t 2)⟩,
 ⟨some 16, none, .mov (.t 0)⟩,
 ⟨some 17, none, .mov (.t 3)⟩,
 ⟨some 18, none, .mov (.t 0)⟩,
 ⟨some 19, none, .mov (.t 3)⟩,
 ⟨some 20, none, .indexAddr 2 (.t 18) (.t 19)⟩,
 ⟨some 21, none, .load true 2 (.t 20)⟩,
 ⟨some 22, none, .mov (.t 0)⟩,
 ⟨some 23, none, .mov (.t 2)⟩,
 ⟨some 24, none, .indexAddr 2 (.t 22) (.t 23)⟩,
 ⟨some 25, none, .load true 2 (.t 24)⟩,
 ⟨some 26, none, .indexAddr 2 (.t 14) (.t 15)⟩,
 ⟨none, none, .store 2 (.t 26) (.t 21)⟩,
 ⟨some 27, none, .indexAddr 2 (.t 16) (.t 17)⟩,
 ⟨none, none, .store 2 (.t 27) (.t 25)⟩] [0, 2, 3]))
 (.reg [
 ⟨some 10, none, .mov (.t 2)⟩,
 ⟨some 11, none, .bin .add (.t 10) (.v (.i .i64 1))⟩,
 ⟨some 12, none, .mov (.t 3)⟩,
 ⟨some 13, none, .bin .sub (.t 12) (.v (.i .i64 1))⟩,
 ⟨some 2, none, .mov (.t 11)⟩,
 ⟨some 3, none, .mov (.t 13)⟩] [0, 2, 3])))))
theorem get_slices_Reverse_impl_Edge_impl_Edge : prog.funcs[fid_slices_Reverse_impl_Edge_impl_Edge]? = some f134 := func134
theorem ok_slices_Reverse_impl_Edge_impl_Edge : okFn prog f134 28 [] [] mc_slices_Reverse_impl_Edge_impl_Edge = true := by kernel_rfl

end Go.Fw
