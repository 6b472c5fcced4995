/-
  The code of the program's functions and the library's, as the model's own. Printed by a program.
-/
import Derived.Test.YtbolckhedohecaaProg
import Derived.Test.YtbolckhedohecaaFxC
namespace Go.Fw
set_option maxRecDepth 100000
abbrev fid_main_main : Nat := 0
abbrev fid_gosem_cut : Nat := 1
abbrev fid_gosem_cut_init : Nat := 2
abbrev fid_laws_FnExactRunTurns : Nat := 3
abbrev fid_laws_FnRunTurns : Nat := 4
abbrev fid_laws_FnTurnsBack : Nat := 5
abbrev fid_laws_FnExactReplayEvents : Nat := 6
abbrev fid_laws_FnReplayParts : Nat := 7
abbrev fid_laws_FnExactEventsOf : Nat := 8
abbrev fid_laws_FnEventsOrder : Nat := 9
abbrev fid_laws_FnEventsPart : Nat := 10
abbrev fid_laws_FnEventsOf : Nat := 11
abbrev fid_laws_FnExactForestsOf : Nat := 12
abbrev fid_laws_FnForestsOf : Nat := 13
abbrev fid_laws_FnChainEdges : Nat := 14
abbrev fid_laws_szGraph : Nat := 15
abbrev fid_laws_szTurnS : Nat := 16
abbrev fid_spec_RunTurns : Nat := 17
abbrev fid_laws_toGraph : Nat := 18
abbrev fid_laws_toTurnS : Nat := 19
abbrev fid_impl_RunTurns : Nat := 20
abbrev fid_laws_eqGraph : Nat := 21
abbrev fid_laws_eqTurnS : Nat := 22
abbrev fid_laws_markGraph : Nat := 23
abbrev fid_laws_markTurnS : Nat := 24
abbrev fid_laws_heldGraph : Nat := 25
abbrev fid_spec_DrawRunTurns : Nat := 26
abbrev fid_impl_GraphSame : Nat := 27
abbrev fid_impl_GraphValid : Nat := 28
abbrev fid_laws_szEdgeS : Nat := 29
abbrev fid_laws_szEventS : Nat := 30
abbrev fid_spec_ReplayEvents : Nat := 31
abbrev fid_laws_toEdgeS : Nat := 32
abbrev fid_laws_toEventS : Nat := 33
abbrev fid_impl_ReplayEvents : Nat := 34
abbrev fid_laws_eqEdgeS : Nat := 35
abbrev fid_laws_eqEventS : Nat := 36
abbrev fid_laws_markEdgeS : Nat := 37
abbrev fid_laws_markEventS : Nat := 38
abbrev fid_laws_heldEdgeS : Nat := 39
abbrev fid_spec_DrawReplayEvents : Nat := 40
abbrev fid_laws_dyEdges : Nat := 41
abbrev fid_spec_EventsOf : Nat := 42
abbrev fid_impl_EventsOf : Nat := 43
abbrev fid_laws_heldEventS : Nat := 44
abbrev fid_spec_DrawEventsOf : Nat := 45
abbrev fid_laws_dyEvents : Nat := 46
abbrev fid_impl_BridgesOf : Nat := 47
abbrev fid_spec_ForestsOf : Nat := 48
abbrev fid_impl_ForestsOf : Nat := 49
abbrev fid_laws_eqEdgeSS : Nat := 50
abbrev fid_laws_markEdgeSS : Nat := 51
abbrev fid_laws_heldEdgeSS : Nat := 52
abbrev fid_spec_DrawForestsOf : Nat := 53
abbrev fid_laws_dyBlocks : Nat := 54
abbrev fid_impl_ForestOf : Nat := 55
abbrev fid_impl_CutEdge : Nat := 56
abbrev fid_spec_DrawChainEdges : Nat := 57
abbrev fid_impl_ChainEdges : Nat := 58
abbrev fid_spec_ChainEdges : Nat := 59
abbrev fid_impl_EdgeOf : Nat := 60
abbrev fid_spec_GraphValid : Nat := 61
abbrev fid_spec_l1Copy : Nat := 62
abbrev fid_spec_TurnEdge : Nat := 63
abbrev fid_laws_toTurn : Nat := 64
abbrev fid_impl_graphsOf : Nat := 65
abbrev fid_slices_Clone_impl_Edge_impl_Edge : Nat := 66
abbrev fid_laws_eqTurn : Nat := 67
abbrev fid_spec_l11Case : Nat := 68
abbrev fid_slices_Equal_impl_Edge_impl_Edge : Nat := 69
abbrev fid_impl_compareEdges : Nat := 70
abbrev fid_spec_l1Less : Nat := 71
abbrev fid_spec_l1Find : Nat := 72
abbrev fid_spec_l1Without : Nat := 73
abbrev fid_spec_l1Put : Nat := 74
abbrev fid_laws_toEdge : Nat := 75
abbrev fid_laws_toEvent : Nat := 76
abbrev fid_slices_BinarySearchFunc_impl_Edge_impl_Edge_impl_Edge : Nat := 77
abbrev fid_slices_Delete_impl_Edge_impl_Edge : Nat := 78
abbrev fid_slices_Insert_impl_Edge_impl_Edge : Nat := 79
abbrev fid_laws_eqEdge : Nat := 80
abbrev fid_laws_eqEvent : Nat := 81
abbrev fid_spec_l14Open : Nat := 82
abbrev fid_p_spec_l14Rd_pick : Nat := 83
abbrev fid_spec_l4Bridges : Nat := 84
abbrev fid_spec_l11Events : Nat := 85
abbrev fid_impl_bridgesOnly : Nat := 86
abbrev fid_impl_Graph_edgesBy : Nat := 87
abbrev fid_impl_Graph_isBridge : Nat := 88
abbrev fid_spec_l2Forest : Nat := 89
abbrev fid_impl_Graph_forest : Nat := 90
abbrev fid_impl_Graph_without : Nat := 91
abbrev fid_impl_ForestsOf_1 : Nat := 92
abbrev fid_slices_Contains_impl_Edge_impl_Edge : Nat := 93
abbrev fid_spec_l1Wrong : Nat := 94
abbrev fid_spec_l10Draw : Nat := 95
abbrev fid_p_spec_l14Rd_num : Nat := 96
abbrev fid_impl_HasEdge : Nat := 97
abbrev fid_impl_Graph_cut : Nat := 98
abbrev fid_spec_DrawGraphValid : Nat := 99
abbrev fid_spec_ChainsOf : Nat := 100
abbrev fid_slices_ContainsFunc_int_int : Nat := 101
abbrev fid_impl_ChainEdges_1 : Nat := 102
abbrev fid_impl_isNode : Nat := 103
abbrev fid_impl_steps : Nat := 104
abbrev fid_spec_l1Edge : Nat := 105
abbrev fid_spec_HasEdge : Nat := 106
abbrev fid_spec_CutEdge : Nat := 107
abbrev fid_spec_PutEdge : Nat := 108
abbrev fid_impl_TurnEdge : Nat := 109
abbrev fid_spec_l1Draw : Nat := 110
abbrev fid_spec_l11Turns : Nat := 111
abbrev fid_cmp_Or_int : Nat := 112
abbrev fid_cmp_Compare_int : Nat := 113
abbrev fid_slices_overlaps_impl_Edge : Nat := 114
abbrev fid_slices_rotateRight_impl_Edge : Nat := 115
abbrev fid_spec_l4Bridge : Nat := 116
abbrev fid_impl_bridgesOnly_1 : Nat := 117
abbrev fid_impl_Graph_has : Nat := 118
abbrev fid_impl_Graph_edgesBy_1 : Nat := 119
abbrev fid_impl_Graph_connected : Nat := 120
abbrev fid_spec_l2Joined : Nat := 121
abbrev fid_slices_DeleteFunc_impl_Edge_impl_Edge : Nat := 122
abbrev fid_slices_Index_impl_Edge_impl_Edge : Nat := 123
abbrev fid_impl_Graph_cut_1 : Nat := 124
abbrev fid_spec_l9Chains : Nat := 125
abbrev fid_slices_IndexFunc_int_int : Nat := 126
abbrev fid_impl_PutEdge : Nat := 127
abbrev fid_cmp_isNaN_int : Nat := 128
abbrev fid_slices_rotateLeft_impl_Edge : Nat := 129
abbrev fid_impl_Graph_parts : Nat := 130
abbrev fid_spec_l2Labels : Nat := 131
abbrev fid_slices_IndexFunc_impl_Edge_impl_Edge : Nat := 132
abbrev fid_spec_l4Run : Nat := 133
abbrev fid_spec_l9Order : Nat := 134
abbrev fid_spec_l9Back : Nat := 135
abbrev fid_slices_Reverse_impl_Edge_impl_Edge : Nat := 136
abbrev fid_spec_l4Search : Nat := 137
abbrev fid_spec_l1Next : Nat := 138
abbrev fid_runtime_boundsError_Error : Nat := 139
abbrev fid_runtime_boundsError_RuntimeError : Nat := 140
abbrev fid_runtime_errorString_Error : Nat := 141
abbrev fid_runtime_errorString_RuntimeError : Nat := 142
abbrev fid_runtime_plainError_Error : Nat := 143
abbrev fid_runtime_plainError_RuntimeError : Nat := 144
abbrev fid_runtime_errorAddressString_Error : Nat := 145
abbrev fid_runtime_errorAddressString_RuntimeError : Nat := 146
abbrev fid_p_runtime_TypeAssertionError_Error : Nat := 147
abbrev fid_p_runtime_TypeAssertionError_RuntimeError : Nat := 148
abbrev fid_p_runtime_PanicNilError_Error : Nat := 149
abbrev fid_p_runtime_PanicNilError_RuntimeError : Nat := 150
abbrev fid_p_internal_abi_Type_Align : Nat := 151
abbrev fid_internal_runtime_maps_unhashableTypeError_Error : Nat := 152
abbrev fid_internal_runtime_maps_unhashableTypeError_RuntimeError : Nat := 153
abbrev fid_impl_Graph_hasNode : Nat := 154
abbrev fid_p_spec_l14Rd_word : Nat := 155
abbrev fid_internal_abi_Kind_String : Nat := 156
def mc_impl_RunTurns : MCode :=
 .seq
  (.reg [
     ⟨(some 2), none, .box 2 (.t 0)⟩,
     ⟨(some 4), none, .alloc [.i .i64 0, .nl 2]⟩,
     ⟨(some 5), none, .mov (.v (.b false))⟩] [1, 2, 4])
  (.seq
  (.reg [
     ⟨(some 10), none, .load true 2 (.t 2)⟩,
     ⟨(some 11), none, .mov (.t 1)⟩,
     ⟨(some 12), none, .call fid_impl_graphsOf true [.im, .im] [(.t 10), (.t 11)]⟩,
     ⟨(some 9), none, .mov (.t 12)⟩,
     ⟨(some 13), none, .extract (.t 9) 0⟩,
     ⟨(some 14), none, .extract (.t 9) 1⟩,
     ⟨(some 6), none, .mov (.t 13)⟩,
     ⟨(some 7), none, .mov (.t 14)⟩] [4, 6, 7])
  (.seq
  (.seq
   (.reg [
      ⟨(some 15), none, .mov (.t 7)⟩,
      ⟨(some 16), none, .un .not (.t 15)⟩] [4, 6, 16])
   (.cond (.t 16)
   (.seq
    (.reg [
       ⟨(some 17), none, .build [.i .i64 0, .nl 2] []⟩,
       ⟨none, none, .store 2 (.t 4) (.t 17)⟩,
       ⟨(some 5), none, .mov (.v (.b false))⟩] [4, 5])
    (.ret))
   (.skip)))
  (.seq
  (.reg [
     ⟨(some 18), none, .mov (.t 6)⟩,
     ⟨(some 19), none, .mov (.t 6)⟩,
     ⟨(some 20), none, .len (.t 19)⟩,
     ⟨(some 21), none, .bin .sub (.t 20) (.v (.i .i64 1))⟩,
     ⟨(some 22), none, .indexAddr 2 (.t 18) (.t 21)⟩,
     ⟨(some 23), none, .load true 2 (.t 22)⟩,
     ⟨(some 8), none, .alloc [.i .i64 0, .nl 2]⟩,
     ⟨none, none, .store 2 (.t 8) (.t 23)⟩] [4, 8])
  (.seq
  (.draw [0, 1, 0, 4, 12, 31, 63, 127] [
     ⟨(some 24), none, .fieldAddr 0 (.t 8)⟩,
     ⟨(some 25), none, .load false 1 (.t 24)⟩,
     ⟨(some 26), none, .fieldAddr 1 (.t 8)⟩,
     ⟨(some 27), none, .load false 1 (.t 26)⟩,
     ⟨(some 28), none, .call fid_slices_Clone_impl_Edge_impl_Edge false [.im] [(.t 27)]⟩,
     ⟨(some 29), none, .build [.i .i64 0, .nl 2] [(0, 1, (.t 25)), (1, 1, (.t 28))]⟩,
     ⟨none, none, .store 2 (.t 4) (.t 29)⟩,
     ⟨(some 5), none, .mov (.v (.b true))⟩] [4, 5])
  (.ret)))))
theorem get_impl_RunTurns : Go.Proofs.Try.prog.funcs[fid_impl_RunTurns]? = some Go.Proofs.Try.f20 := Go.Proofs.Try.func20
theorem ok_impl_RunTurns : okFn Go.Proofs.Try.prog Go.Proofs.Try.f20 30 [] [(4, some (true, 2)), (5, none)] mc_impl_RunTurns = true := by kernel_rfl
def mc_impl_GraphSame : MCode :=
 .seq
  (.reg [
     ⟨(some 2), none, .box 2 (.t 0)⟩,
     ⟨(some 3), none, .box 2 (.t 1)⟩,
     ⟨(some 4), none, .mov (.v (.b false))⟩] [2, 3])
  (.seq
  (.reg [
     ⟨(some 5), none, .fieldAddr 0 (.t 2)⟩,
     ⟨(some 6), none, .load false 1 (.t 5)⟩,
     ⟨(some 7), none, .fieldAddr 0 (.t 3)⟩,
     ⟨(some 8), none, .load false 1 (.t 7)⟩,
     ⟨(some 9), none, .bin .eql (.t 6) (.t 8)⟩,
     ⟨(some 10), none, .mov (.t 9)⟩,
     ⟨(some 11), (some (10, true)), .fieldAddr 1 (.t 2)⟩,
     ⟨(some 12), (some (10, true)), .load false 1 (.t 11)⟩,
     ⟨(some 13), (some (10, true)), .fieldAddr 1 (.t 3)⟩,
     ⟨(some 14), (some (10, true)), .load false 1 (.t 13)⟩,
     ⟨(some 15), (some (10, true)), .call fid_slices_Equal_impl_Edge_impl_Edge false [.im, .im] [(.t 12), (.t 14)]⟩,
     ⟨(some 16), none, .pick (.t 10) (.t 15) (.v (.b false))⟩,
     ⟨(some 4), none, .mov (.t 16)⟩] [4])
  (.ret))
theorem get_impl_GraphSame : Go.Proofs.Try.prog.funcs[fid_impl_GraphSame]? = some Go.Proofs.Try.f27 := Go.Proofs.Try.func27
theorem ok_impl_GraphSame : okFn Go.Proofs.Try.prog Go.Proofs.Try.f27 17 [] [(4, none)] mc_impl_GraphSame = true := by kernel_rfl
def mc_impl_GraphValid : MCode :=
 .seq
  (.reg [
     ⟨(some 1), none, .box 2 (.t 0)⟩,
     ⟨(some 2), none, .mov (.v (.b false))⟩] [1])
  (.seq
  (.seq
   (.reg [
      ⟨(some 5), none, .fieldAddr 0 (.t 1)⟩,
      ⟨(some 6), none, .load false 1 (.t 5)⟩,
      ⟨(some 7), none, .bin .lss (.t 6) (.v (.i .i64 1))⟩,
      ⟨(some 8), none, .mov (.t 7)⟩,
      ⟨(some 9), (some (8, false)), .fieldAddr 0 (.t 1)⟩,
      ⟨(some 10), (some (8, false)), .load false 1 (.t 9)⟩,
      ⟨(some 11), (some (8, false)), .bin .gtr (.t 10) (.v (.i .i64 16))⟩,
      ⟨(some 12), none, .pick (.t 8) (.v (.b true)) (.t 11)⟩,
      ⟨(some 13), none, .mov (.t 12)⟩,
      ⟨(some 14), (some (13, false)), .fieldAddr 1 (.t 1)⟩,
      ⟨(some 15), (some (13, false)), .load false 1 (.t 14)⟩,
      ⟨(some 16), (some (13, false)), .len (.t 15)⟩,
      ⟨(some 17), (some (13, false)), .bin .gtr (.t 16) (.v (.i .i64 40))⟩,
      ⟨(some 18), none, .pick (.t 13) (.v (.b true)) (.t 17)⟩] [1, 18])
   (.cond (.t 18)
   (.seq
    (.reg [
       ⟨(some 2), none, .mov (.v (.b false))⟩] [2])
    (.ret))
   (.skip)))
  (.seq
  (.seq
   (.reg [
      ⟨(some 19), none, .fieldAddr 1 (.t 1)⟩,
      ⟨(some 20), none, .load false 1 (.t 19)⟩,
      ⟨(some 21), none, .len (.t 20)⟩,
      ⟨(some 22), none, .mov (.v (.i .i64 0))⟩] [1, 20, 21, 22])
   (.block 0
   (.loop [1, 20, 21, 22]
    (.seq
     (.reg [
        ⟨(some 23), none, .bin .lss (.t 22) (.t 21)⟩] [1, 20, 21, 22, 23])
     (.seq
     (.cond (.t 23)
      (.skip)
      (.exit 0))
     (.seq
     (.block 1
      (.seq
       (.reg [
          ⟨(some 24), none, .mov (.t 22)⟩,
          ⟨(some 25), none, .indexAddr 2 (.t 20) (.t 22)⟩,
          ⟨(some 26), none, .load true 2 (.t 25)⟩,
          ⟨(some 4), none, .alloc [.i .i64 0, .i .i64 0]⟩,
          ⟨(some 3), none, .mov (.t 24)⟩,
          ⟨none, none, .store 2 (.t 4) (.t 26)⟩] [1, 3, 4, 20, 21, 22])
       (.seq
       (.draw [0, 1, 3, 7, 15, 31, 15, 79, 255, 511, 1023, 2047, 4095, 2047, 10239, 32767, 65535, 131071, 262143, 524287, 1048575, 2097151, 4194303, 2097151, 10485759, 33554431, 67108863, 2097151, 268435455, 536870911, 1073741823, 2147483647] [
          ⟨(some 27), none, .fieldAddr 0 (.t 4)⟩,
          ⟨(some 28), none, .load false 1 (.t 27)⟩,
          ⟨(some 29), none, .bin .lss (.t 28) (.v (.i .i64 0))⟩,
          ⟨(some 30), none, .mov (.t 29)⟩,
          ⟨(some 31), (some (30, false)), .fieldAddr 0 (.t 4)⟩,
          ⟨(some 32), (some (30, false)), .load false 1 (.t 31)⟩,
          ⟨(some 33), (some (30, false)), .fieldAddr 1 (.t 4)⟩,
          ⟨(some 34), (some (30, false)), .load false 1 (.t 33)⟩,
          ⟨(some 35), (some (30, false)), .bin .geq (.t 32) (.t 34)⟩,
          ⟨(some 36), none, .pick (.t 30) (.v (.b true)) (.t 35)⟩,
          ⟨(some 37), none, .mov (.t 36)⟩,
          ⟨(some 38), (some (37, false)), .fieldAddr 1 (.t 4)⟩,
          ⟨(some 39), (some (37, false)), .load false 1 (.t 38)⟩,
          ⟨(some 40), (some (37, false)), .fieldAddr 0 (.t 1)⟩,
          ⟨(some 41), (some (37, false)), .load false 1 (.t 40)⟩,
          ⟨(some 42), (some (37, false)), .bin .geq (.t 39) (.t 41)⟩,
          ⟨(some 43), none, .pick (.t 37) (.v (.b true)) (.t 42)⟩,
          ⟨(some 44), none, .mov (.t 43)⟩,
          ⟨(some 45), (some (44, false)), .mov (.t 3)⟩,
          ⟨(some 46), (some (44, false)), .bin .gtr (.t 45) (.v (.i .i64 0))⟩,
          ⟨(some 47), (some (44, false)), .mov (.t 46)⟩,
          ⟨(some 48), (some (47, true)), .fieldAddr 1 (.t 1)⟩,
          ⟨(some 49), (some (47, true)), .load false 1 (.t 48)⟩,
          ⟨(some 50), (some (47, true)), .mov (.t 3)⟩,
          ⟨(some 51), (some (47, true)), .bin .sub (.t 50) (.v (.i .i64 1))⟩,
          ⟨(some 52), (some (47, true)), .indexAddr 2 (.t 49) (.t 51)⟩,
          ⟨(some 53), (some (47, true)), .load true 2 (.t 52)⟩,
          ⟨(some 54), (some (47, true)), .load true 2 (.t 4)⟩,
          ⟨(some 55), (some (47, true)), .call fid_impl_compareEdges false [.im, .im] [(.t 53), (.t 54)]⟩,
          ⟨(some 56), (some (47, true)), .bin .geq (.t 55) (.v (.i .i64 0))⟩,
          ⟨(some 57), (some (44, false)), .pick (.t 47) (.t 56) (.v (.b false))⟩,
          ⟨(some 58), none, .pick (.t 44) (.v (.b true)) (.t 57)⟩] [1, 20, 21, 22, 58])
       (.cond (.t 58)
       (.seq
        (.reg [
           ⟨(some 2), none, .mov (.v (.b false))⟩] [2])
        (.ret))
       (.skip)))))
     (.reg [
       ⟨(some 59), none, .bin .add (.t 22) (.v (.i .i64 1))⟩,
       ⟨(some 22), none, .mov (.t 59)⟩] [1, 20, 21, 22])))))))
  (.seq
  (.reg [
     ⟨(some 2), none, .mov (.v (.b true))⟩] [2])
  (.ret))))
theorem get_impl_GraphValid : Go.Proofs.Try.prog.funcs[fid_impl_GraphValid]? = some Go.Proofs.Try.f28 := Go.Proofs.Try.func28
theorem ok_impl_GraphValid : okFn Go.Proofs.Try.prog Go.Proofs.Try.f28 60 [] [(2, none)] mc_impl_GraphValid = true := by kernel_rfl
def mc_impl_ReplayEvents : MCode :=
 .seq
  (.reg [
     ⟨(some 4), none, .mov (.v (.nl 2))⟩,
     ⟨(some 5), none, .mov (.v (.b false))⟩] [0, 1])
  (.seq
  (.seq
   (.reg [
      ⟨(some 12), none, .mov (.t 0)⟩,
      ⟨(some 13), none, .len (.t 12)⟩,
      ⟨(some 14), none, .bin .gtr (.t 13) (.v (.i .i64 40))⟩] [0, 1, 14])
   (.cond (.t 14)
   (.seq
    (.reg [
       ⟨(some 4), none, .mov (.v (.nl 2))⟩,
       ⟨(some 5), none, .mov (.v (.b false))⟩] [4, 5])
    (.ret))
   (.skip)))
  (.seq
  (.seq
   (.reg [
      ⟨(some 6), none, .mov (.v (.i .i64 1))⟩] [0, 1, 6])
   (.block 0
   (.loop [0, 1, 6]
    (.seq
     (.seq
      (.reg [
         ⟨(some 15), none, .mov (.t 6)⟩,
         ⟨(some 16), none, .mov (.t 0)⟩,
         ⟨(some 17), none, .len (.t 16)⟩,
         ⟨(some 18), none, .bin .lss (.t 15) (.t 17)⟩] [0, 1, 6, 18])
      (.cond (.t 18)
      (.skip)
      (.exit 0)))
     (.seq
     (.block 1
      (.seq
       (.draw [0, 0, 2, 7, 15, 0, 0, 96, 224, 511, 1023] [
          ⟨(some 21), none, .mov (.t 0)⟩,
          ⟨(some 22), none, .mov (.t 6)⟩,
          ⟨(some 23), none, .bin .sub (.t 22) (.v (.i .i64 1))⟩,
          ⟨(some 24), none, .indexAddr 2 (.t 21) (.t 23)⟩,
          ⟨(some 25), none, .load true 2 (.t 24)⟩,
          ⟨(some 26), none, .mov (.t 0)⟩,
          ⟨(some 27), none, .mov (.t 6)⟩,
          ⟨(some 28), none, .indexAddr 2 (.t 26) (.t 27)⟩,
          ⟨(some 29), none, .load true 2 (.t 28)⟩,
          ⟨(some 30), none, .call fid_impl_compareEdges false [.im, .im] [(.t 25), (.t 29)]⟩,
          ⟨(some 31), none, .bin .geq (.t 30) (.v (.i .i64 0))⟩] [0, 1, 6, 31])
       (.cond (.t 31)
       (.seq
        (.reg [
           ⟨(some 4), none, .mov (.v (.nl 2))⟩,
           ⟨(some 5), none, .mov (.v (.b false))⟩] [4, 5])
        (.ret))
       (.skip))))
     (.reg [
       ⟨(some 19), none, .mov (.t 6)⟩,
       ⟨(some 20), none, .bin .add (.t 19) (.v (.i .i64 1))⟩,
       ⟨(some 6), none, .mov (.t 20)⟩] [0, 1, 6]))))))
  (.seq
  (.reg [
     ⟨(some 32), none, .mov (.t 0)⟩,
     ⟨(some 33), none, .call fid_slices_Clone_impl_Edge_impl_Edge false [.im] [(.t 32)]⟩,
     ⟨(some 7), none, .mov (.t 33)⟩] [1, 7])
  (.seq
  (.seq
   (.reg [
      ⟨(some 34), none, .mov (.t 1)⟩,
      ⟨(some 35), none, .len (.t 34)⟩,
      ⟨(some 36), none, .mov (.v (.i .i64 0))⟩] [7, 34, 35, 36])
   (.block 2
   (.loop [7, 34, 35, 36]
    (.seq
     (.reg [
        ⟨(some 37), none, .bin .lss (.t 36) (.t 35)⟩] [7, 34, 35, 36, 37])
     (.seq
     (.cond (.t 37)
      (.skip)
      (.exit 2))
     (.seq
     (.block 3
      (.seq
       (.reg [
          ⟨(some 38), none, .indexAddr 4 (.t 34) (.t 36)⟩,
          ⟨(some 39), none, .load true 4 (.t 38)⟩,
          ⟨(some 9), none, .alloc [.i .i64 0, .i .i64 0, .i .i64 0, .b false]⟩,
          ⟨none, none, .store 4 (.t 9) (.t 39)⟩] [7, 9, 34, 35, 36])
       (.seq
       (.reg [
          ⟨(some 41), none, .mov (.t 7)⟩,
          ⟨(some 42), none, .fieldAddr 1 (.t 9)⟩,
          ⟨(some 43), none, .load true 2 (.t 42)⟩,
          ⟨(some 44), none, .call fid_slices_BinarySearchFunc_impl_Edge_impl_Edge_impl_Edge false [.im, .im, .fn] [(.t 41), (.t 43), (.v (.clo fid_impl_compareEdges [] []))]⟩,
          ⟨(some 40), none, .mov (.t 44)⟩,
          ⟨(some 45), none, .extract (.t 40) 0⟩,
          ⟨(some 46), none, .extract (.t 40) 1⟩,
          ⟨(some 10), none, .mov (.t 45)⟩,
          ⟨(some 11), none, .mov (.t 46)⟩] [7, 9, 10, 11, 34, 35, 36])
       (.block 4
       (.seq
        (.reg [
           ⟨(some 54), none, .mov (.t 11)⟩,
           ⟨(some 55), none, .fieldAddr 3 (.t 9)⟩,
           ⟨(some 56), none, .load false 1 (.t 55)⟩,
           ⟨(some 57), none, .binb false (.t 54) (.t 56)⟩,
           ⟨(some 53), none, .mov (.t 57)⟩] [7, 9, 10, 11, 34, 35, 36, 53])
        (.cond (.t 53)
        (.seq
         (.reg [
            ⟨(some 4), none, .mov (.v (.nl 2))⟩,
            ⟨(some 5), none, .mov (.v (.b false))⟩] [4, 5])
         (.ret))
        (.seq
         (.reg [
            ⟨(some 59), none, .mov (.t 11)⟩,
            ⟨(some 58), none, .mov (.t 59)⟩] [7, 9, 10, 34, 35, 36, 58])
         (.cond (.t 58)
         (.reg [
            ⟨(some 60), none, .mov (.t 7)⟩,
            ⟨(some 61), none, .mov (.t 10)⟩,
            ⟨(some 62), none, .mov (.t 10)⟩,
            ⟨(some 63), none, .bin .add (.t 62) (.v (.i .i64 1))⟩,
            ⟨(some 64), none, .call fid_slices_Delete_impl_Edge_impl_Edge false [.co, .im, .im] [(.t 60), (.t 61), (.t 63)]⟩,
            ⟨(some 7), none, .mov (.t 64)⟩] [7, 34, 35, 36])
         (.reg [
            ⟨(some 47), none, .mov (.t 7)⟩,
            ⟨(some 48), none, .mov (.t 10)⟩,
            ⟨(some 49), none, .fieldAddr 1 (.t 9)⟩,
            ⟨(some 50), none, .load true 2 (.t 49)⟩,
            ⟨(some 51), none, .buildSlice 2 [(.t 50)]⟩,
            ⟨(some 52), none, .call fid_slices_Insert_impl_Edge_impl_Edge false [.co, .im, .co] [(.t 47), (.t 48), (.t 51)]⟩,
            ⟨(some 7), none, .mov (.t 52)⟩] [7, 34, 35, 36])))))))))
     (.reg [
       ⟨(some 65), none, .bin .add (.t 36) (.v (.i .i64 1))⟩,
       ⟨(some 36), none, .mov (.t 65)⟩] [7, 34, 35, 36])))))))
  (.seq
  (.reg [
     ⟨(some 66), none, .mov (.t 7)⟩,
     ⟨(some 4), none, .mov (.t 66)⟩,
     ⟨(some 5), none, .mov (.v (.b true))⟩] [4, 5])
  (.ret))))))
theorem get_impl_ReplayEvents : Go.Proofs.Try.prog.funcs[fid_impl_ReplayEvents]? = some Go.Proofs.Try.f34 := Go.Proofs.Try.func34
theorem ok_impl_ReplayEvents : okFn Go.Proofs.Try.prog Go.Proofs.Try.f34 67 [] [(4, none), (5, none)] mc_impl_ReplayEvents = true := by kernel_rfl
def mc_impl_EventsOf : MCode :=
 .seq
  (.reg [
     ⟨(some 2), none, .box 2 (.t 0)⟩,
     ⟨(some 4), none, .mov (.v (.nl 4))⟩,
     ⟨(some 5), none, .mov (.v (.b false))⟩] [1, 2])
  (.seq
  (.reg [
     ⟨(some 15), none, .load true 2 (.t 2)⟩,
     ⟨(some 16), none, .mov (.t 1)⟩,
     ⟨(some 17), none, .call fid_impl_graphsOf true [.im, .im] [(.t 15), (.t 16)]⟩,
     ⟨(some 14), none, .mov (.t 17)⟩,
     ⟨(some 18), none, .extract (.t 14) 0⟩,
     ⟨(some 19), none, .extract (.t 14) 1⟩,
     ⟨(some 6), none, .mov (.t 18)⟩,
     ⟨(some 7), none, .mov (.t 19)⟩] [1, 6, 7])
  (.seq
  (.seq
   (.reg [
      ⟨(some 20), none, .mov (.t 7)⟩,
      ⟨(some 21), none, .un .not (.t 20)⟩] [1, 6, 21])
   (.cond (.t 21)
   (.seq
    (.reg [
       ⟨(some 4), none, .mov (.v (.nl 4))⟩,
       ⟨(some 5), none, .mov (.v (.b false))⟩] [4, 5])
    (.ret))
   (.skip)))
  (.seq
  (.reg [
     ⟨(some 22), none, .buildSlice 4 []⟩,
     ⟨(some 8), none, .mov (.t 22)⟩] [1, 6, 8])
  (.seq
  (.seq
   (.reg [
      ⟨(some 23), none, .mov (.t 1)⟩,
      ⟨(some 24), none, .len (.t 23)⟩,
      ⟨(some 25), none, .mov (.v (.i .i64 0))⟩] [6, 8, 24, 25])
   (.block 0
   (.loop [6, 8, 24, 25]
    (.seq
     (.reg [
        ⟨(some 26), none, .bin .lss (.t 25) (.t 24)⟩] [6, 8, 24, 25, 26])
     (.seq
     (.cond (.t 26)
      (.skip)
      (.exit 0))
     (.seq
     (.block 1
      (.seq
       (.reg [
          ⟨(some 27), none, .mov (.t 25)⟩,
          ⟨(some 9), none, .mov (.t 27)⟩] [6, 8, 9, 24, 25])
       (.seq
       (.seq
        (.draw [0, 0, 3, 7, 0, 0, 32, 112, 240, 511, 1023, 0] [
           ⟨(some 28), none, .mov (.t 6)⟩,
           ⟨(some 29), none, .mov (.t 9)⟩,
           ⟨(some 30), none, .indexAddr 2 (.t 28) (.t 29)⟩,
           ⟨(some 31), none, .load true 2 (.t 30)⟩,
           ⟨(some 32), none, .mov (.t 6)⟩,
           ⟨(some 33), none, .mov (.t 9)⟩,
           ⟨(some 34), none, .bin .add (.t 33) (.v (.i .i64 1))⟩,
           ⟨(some 35), none, .indexAddr 2 (.t 32) (.t 34)⟩,
           ⟨(some 36), none, .load true 2 (.t 35)⟩,
           ⟨(some 37), none, .call fid_impl_bridgesOnly false [.im, .im] [(.t 31), (.t 36)]⟩,
           ⟨(some 38), none, .len (.t 37)⟩,
           ⟨(some 39), none, .mov (.v (.i .i64 0))⟩] [6, 8, 9, 24, 25, 37, 38, 39])
        (.block 2
        (.loop [6, 8, 9, 24, 25, 37, 38, 39]
         (.seq
          (.reg [
             ⟨(some 40), none, .bin .lss (.t 39) (.t 38)⟩] [6, 8, 9, 24, 25, 37, 38, 39, 40])
          (.seq
          (.cond (.t 40)
           (.skip)
           (.exit 2))
          (.seq
          (.block 3
           (.seq
            (.reg [
               ⟨(some 41), none, .indexAddr 2 (.t 37) (.t 39)⟩,
               ⟨(some 42), none, .load true 2 (.t 41)⟩,
               ⟨(some 11), none, .alloc [.i .i64 0, .i .i64 0]⟩,
               ⟨none, none, .store 2 (.t 11) (.t 42)⟩] [6, 8, 9, 11, 24, 25, 37, 38, 39])
            (.reg [
              ⟨(some 43), none, .mov (.t 8)⟩,
              ⟨(some 44), none, .mov (.t 9)⟩,
              ⟨(some 45), none, .load true 2 (.t 11)⟩,
              ⟨(some 46), none, .build [.i .i64 0, .i .i64 0, .i .i64 0, .b false] [(0, 1, (.t 44)), (1, 2, (.t 45))]⟩,
              ⟨(some 47), none, .buildSlice 4 [(.t 46)]⟩,
              ⟨(some 48), none, .append 4 32 true (.t 43) (.t 47)⟩,
              ⟨(some 8), none, .mov (.t 48)⟩] [6, 8, 9, 24, 25, 37, 38, 39])))
          (.reg [
            ⟨(some 49), none, .bin .add (.t 39) (.v (.i .i64 1))⟩,
            ⟨(some 39), none, .mov (.t 49)⟩] [6, 8, 9, 24, 25, 37, 38, 39])))))))
       (.seq
       (.draw [0, 0, 2, 7, 15, 0, 0, 96, 224, 511, 1023, 0] [
          ⟨(some 50), none, .mov (.t 6)⟩,
          ⟨(some 51), none, .mov (.t 9)⟩,
          ⟨(some 52), none, .bin .add (.t 51) (.v (.i .i64 1))⟩,
          ⟨(some 53), none, .indexAddr 2 (.t 50) (.t 52)⟩,
          ⟨(some 54), none, .load true 2 (.t 53)⟩,
          ⟨(some 55), none, .mov (.t 6)⟩,
          ⟨(some 56), none, .mov (.t 9)⟩,
          ⟨(some 57), none, .indexAddr 2 (.t 55) (.t 56)⟩,
          ⟨(some 58), none, .load true 2 (.t 57)⟩,
          ⟨(some 59), none, .call fid_impl_bridgesOnly false [.im, .im] [(.t 54), (.t 58)]⟩,
          ⟨(some 60), none, .len (.t 59)⟩,
          ⟨(some 61), none, .mov (.v (.i .i64 0))⟩] [6, 8, 9, 24, 25, 59, 60, 61])
       (.block 4
       (.loop [6, 8, 9, 24, 25, 59, 60, 61]
        (.seq
         (.reg [
            ⟨(some 62), none, .bin .lss (.t 61) (.t 60)⟩] [6, 8, 9, 24, 25, 59, 60, 61, 62])
         (.seq
         (.cond (.t 62)
          (.skip)
          (.exit 4))
         (.seq
         (.block 5
          (.seq
           (.reg [
              ⟨(some 63), none, .indexAddr 2 (.t 59) (.t 61)⟩,
              ⟨(some 64), none, .load true 2 (.t 63)⟩,
              ⟨(some 13), none, .alloc [.i .i64 0, .i .i64 0]⟩,
              ⟨none, none, .store 2 (.t 13) (.t 64)⟩] [6, 8, 9, 13, 24, 25, 59, 60, 61])
           (.reg [
             ⟨(some 65), none, .mov (.t 8)⟩,
             ⟨(some 66), none, .mov (.t 9)⟩,
             ⟨(some 67), none, .load true 2 (.t 13)⟩,
             ⟨(some 68), none, .build [.i .i64 0, .i .i64 0, .i .i64 0, .b false] [(0, 1, (.t 66)), (1, 2, (.t 67)), (3, 1, (.v (.b true)))]⟩,
             ⟨(some 69), none, .buildSlice 4 [(.t 68)]⟩,
             ⟨(some 70), none, .append 4 32 true (.t 65) (.t 69)⟩,
             ⟨(some 8), none, .mov (.t 70)⟩] [6, 8, 9, 24, 25, 59, 60, 61])))
         (.reg [
           ⟨(some 71), none, .bin .add (.t 61) (.v (.i .i64 1))⟩,
           ⟨(some 61), none, .mov (.t 71)⟩] [6, 8, 9, 24, 25, 59, 60, 61]))))))))))
     (.reg [
       ⟨(some 72), none, .bin .add (.t 25) (.v (.i .i64 1))⟩,
       ⟨(some 25), none, .mov (.t 72)⟩] [6, 8, 24, 25])))))))
  (.seq
  (.reg [
     ⟨(some 73), none, .mov (.t 8)⟩,
     ⟨(some 4), none, .mov (.t 73)⟩,
     ⟨(some 5), none, .mov (.v (.b true))⟩] [4, 5])
  (.ret))))))
theorem get_impl_EventsOf : Go.Proofs.Try.prog.funcs[fid_impl_EventsOf]? = some Go.Proofs.Try.f43 := Go.Proofs.Try.func43
theorem ok_impl_EventsOf : okFn Go.Proofs.Try.prog Go.Proofs.Try.f43 74 [] [(4, none), (5, none)] mc_impl_EventsOf = true := by kernel_rfl
def mc_impl_BridgesOf : MCode :=
 .seq
  (.reg [
     ⟨(some 1), none, .box 2 (.t 0)⟩,
     ⟨(some 2), none, .mov (.v (.nl 2))⟩] [1])
  (.seq
  (.seq
   (.reg [
      ⟨(some 3), none, .load true 2 (.t 1)⟩,
      ⟨(some 4), none, .call fid_impl_GraphValid false [.im] [(.t 3)]⟩,
      ⟨(some 5), none, .un .not (.t 4)⟩] [1, 5])
   (.cond (.t 5)
   (.seq
    (.reg [
       ⟨(some 2), none, .mov (.v (.nl 2))⟩] [2])
    (.ret))
   (.skip)))
  (.seq
  (.reg [
     ⟨(some 6), none, .load true 2 (.t 1)⟩,
     ⟨(some 7), none, .load true 2 (.t 1)⟩,
     ⟨(some 8), none, .mkfn fid_impl_Graph_isBridge [(.t 7)] []⟩,
     ⟨(some 9), none, .call fid_impl_Graph_edgesBy false [.im, .fn] [(.t 6), (.t 8)]⟩,
     ⟨(some 2), none, .mov (.t 9)⟩] [2])
  (.ret)))
theorem get_impl_BridgesOf : Go.Proofs.Try.prog.funcs[fid_impl_BridgesOf]? = some Go.Proofs.Try.f47 := Go.Proofs.Try.func47
theorem ok_impl_BridgesOf : okFn Go.Proofs.Try.prog Go.Proofs.Try.f47 10 [] [(2, none)] mc_impl_BridgesOf = true := by kernel_rfl
def mc_impl_ForestsOf : MCode :=
 .seq
  (.reg [
     ⟨(some 2), none, .box 2 (.t 0)⟩,
     ⟨(some 4), none, .mov (.v (.nl 1))⟩,
     ⟨(some 5), none, .mov (.v (.b false))⟩] [1, 2])
  (.seq
  (.seq
   (.reg [
      ⟨(some 8), none, .load true 2 (.t 2)⟩,
      ⟨(some 9), none, .call fid_impl_GraphValid false [.im] [(.t 8)]⟩,
      ⟨(some 10), none, .un .not (.t 9)⟩,
      ⟨(some 11), none, .mov (.t 10)⟩,
      ⟨(some 12), (some (11, false)), .mov (.t 1)⟩,
      ⟨(some 13), (some (11, false)), .bin .lss (.t 12) (.v (.i .i64 0))⟩,
      ⟨(some 14), none, .pick (.t 11) (.v (.b true)) (.t 13)⟩,
      ⟨(some 15), none, .mov (.t 14)⟩,
      ⟨(some 16), (some (15, false)), .mov (.t 1)⟩,
      ⟨(some 17), (some (15, false)), .bin .gtr (.t 16) (.v (.i .i64 40))⟩,
      ⟨(some 18), none, .pick (.t 15) (.v (.b true)) (.t 17)⟩] [1, 2, 18])
   (.cond (.t 18)
   (.seq
    (.reg [
       ⟨(some 4), none, .mov (.v (.nl 1))⟩,
       ⟨(some 5), none, .mov (.v (.b false))⟩] [4, 5])
    (.ret))
   (.skip)))
  (.seq
  (.reg [
     ⟨(some 19), none, .buildSlice 1 []⟩,
     ⟨(some 6), none, .mov (.t 19)⟩] [1, 2, 6])
  (.seq
  (.seq
   (.reg [
      ⟨(some 20), none, .mov (.t 1)⟩,
      ⟨(some 21), none, .mov (.v (.i .i64 0))⟩] [2, 6, 20, 21])
   (.block 0
   (.loop [2, 6, 20, 21]
    (.seq
     (.reg [
        ⟨(some 22), none, .bin .lss (.t 21) (.t 20)⟩] [2, 6, 20, 21, 22])
     (.seq
     (.cond (.t 22)
      (.skip)
      (.exit 0))
     (.seq
     (.block 1
      (.seq
       (.reg [
          ⟨(some 23), none, .load true 2 (.t 2)⟩,
          ⟨(some 24), none, .call fid_impl_Graph_forest false [.im] [(.t 23)]⟩,
          ⟨(some 7), none, .alloc [.nl 2]⟩,
          ⟨none, none, .store 1 (.t 7) (.t 24)⟩] [2, 6, 7, 20, 21])
       (.seq
       (.reg [
          ⟨(some 25), none, .mov (.t 6)⟩,
          ⟨(some 26), none, .load false 1 (.t 7)⟩,
          ⟨(some 27), none, .buildSlice 1 [(.t 26)]⟩,
          ⟨(some 28), none, .append 1 24 true (.t 25) (.t 27)⟩,
          ⟨(some 6), none, .mov (.t 28)⟩] [2, 6, 7, 20, 21])
       (.reg [
         ⟨(some 29), none, .load true 2 (.t 2)⟩,
         ⟨(some 30), none, .mkfn fid_impl_ForestsOf_1 [] [(.t 7)]⟩,
         ⟨(some 31), none, .call fid_impl_Graph_without false [.im, .fn] [(.t 29), (.t 30)]⟩,
         ⟨none, none, .store 2 (.t 2) (.t 31)⟩] [2, 6, 20, 21]))))
     (.reg [
       ⟨(some 32), none, .bin .add (.t 21) (.v (.i .i64 1))⟩,
       ⟨(some 21), none, .mov (.t 32)⟩] [2, 6, 20, 21])))))))
  (.seq
  (.reg [
     ⟨(some 33), none, .mov (.t 6)⟩,
     ⟨(some 4), none, .mov (.t 33)⟩,
     ⟨(some 5), none, .mov (.v (.b true))⟩] [4, 5])
  (.ret)))))
theorem get_impl_ForestsOf : Go.Proofs.Try.prog.funcs[fid_impl_ForestsOf]? = some Go.Proofs.Try.f49 := Go.Proofs.Try.func49
theorem ok_impl_ForestsOf : okFn Go.Proofs.Try.prog Go.Proofs.Try.f49 34 [] [(4, none), (5, none)] mc_impl_ForestsOf = true := by kernel_rfl
def mc_impl_ForestOf : MCode :=
 .seq
  (.reg [
     ⟨(some 1), none, .box 2 (.t 0)⟩,
     ⟨(some 2), none, .mov (.v (.nl 2))⟩] [1])
  (.seq
  (.seq
   (.reg [
      ⟨(some 3), none, .load true 2 (.t 1)⟩,
      ⟨(some 4), none, .call fid_impl_GraphValid false [.im] [(.t 3)]⟩,
      ⟨(some 5), none, .un .not (.t 4)⟩] [1, 5])
   (.cond (.t 5)
   (.seq
    (.reg [
       ⟨(some 2), none, .mov (.v (.nl 2))⟩] [2])
    (.ret))
   (.skip)))
  (.seq
  (.reg [
     ⟨(some 6), none, .load true 2 (.t 1)⟩,
     ⟨(some 7), none, .call fid_impl_Graph_forest false [.im] [(.t 6)]⟩,
     ⟨(some 2), none, .mov (.t 7)⟩] [2])
  (.ret)))
theorem get_impl_ForestOf : Go.Proofs.Try.prog.funcs[fid_impl_ForestOf]? = some Go.Proofs.Try.f55 := Go.Proofs.Try.func55
theorem ok_impl_ForestOf : okFn Go.Proofs.Try.prog Go.Proofs.Try.f55 8 [] [(2, none)] mc_impl_ForestOf = true := by kernel_rfl
def mc_impl_CutEdge : MCode :=
 .seq
  (.reg [
     ⟨(some 2), none, .box 2 (.t 0)⟩,
     ⟨(some 3), none, .box 2 (.t 1)⟩,
     ⟨(some 4), none, .alloc [.i .i64 0, .nl 2]⟩,
     ⟨(some 5), none, .mov (.v (.b false))⟩] [2, 3, 4])
  (.seq
  (.seq
   (.reg [
      ⟨(some 6), none, .load true 2 (.t 2)⟩,
      ⟨(some 7), none, .load true 2 (.t 3)⟩,
      ⟨(some 8), none, .call fid_impl_HasEdge false [.im, .im] [(.t 6), (.t 7)]⟩,
      ⟨(some 9), none, .un .not (.t 8)⟩] [2, 3, 4, 9])
   (.cond (.t 9)
   (.seq
    (.reg [
       ⟨(some 10), none, .build [.i .i64 0, .nl 2] []⟩,
       ⟨none, none, .store 2 (.t 4) (.t 10)⟩,
       ⟨(some 5), none, .mov (.v (.b false))⟩] [4, 5])
    (.ret))
   (.skip)))
  (.seq
  (.reg [
     ⟨(some 11), none, .load true 2 (.t 2)⟩,
     ⟨(some 12), none, .load true 2 (.t 3)⟩,
     ⟨(some 13), none, .call fid_impl_Graph_cut false [.im, .im] [(.t 11), (.t 12)]⟩,
     ⟨none, none, .store 2 (.t 4) (.t 13)⟩,
     ⟨(some 5), none, .mov (.v (.b true))⟩] [4, 5])
  (.ret)))
theorem get_impl_CutEdge : Go.Proofs.Try.prog.funcs[fid_impl_CutEdge]? = some Go.Proofs.Try.f56 := Go.Proofs.Try.func56
theorem ok_impl_CutEdge : okFn Go.Proofs.Try.prog Go.Proofs.Try.f56 14 [] [(4, some (true, 2)), (5, none)] mc_impl_CutEdge = true := by kernel_rfl
def mc_impl_ChainEdges : MCode :=
 .seq
  (.reg [
     ⟨(some 2), none, .mov (.v (.nl 2))⟩,
     ⟨(some 3), none, .mov (.v (.b false))⟩] [0])
  (.seq
  (.seq
   (.reg [
      ⟨(some 4), none, .mov (.t 0)⟩,
      ⟨(some 5), none, .len (.t 4)⟩,
      ⟨(some 6), none, .bin .gtr (.t 5) (.v (.i .i64 17))⟩,
      ⟨(some 7), none, .mov (.t 6)⟩,
      ⟨(some 8), (some (7, false)), .mov (.t 0)⟩,
      ⟨(some 9), (some (7, false)), .call fid_slices_ContainsFunc_int_int false [.im, .fn] [(.t 8), (.v (.clo fid_impl_ChainEdges_1 [] []))]⟩,
      ⟨(some 10), none, .pick (.t 7) (.v (.b true)) (.t 9)⟩] [0, 10])
   (.cond (.t 10)
   (.seq
    (.reg [
       ⟨(some 2), none, .mov (.v (.nl 2))⟩,
       ⟨(some 3), none, .mov (.v (.b false))⟩] [2, 3])
    (.ret))
   (.skip)))
  (.seq
  (.reg [
     ⟨(some 11), none, .mov (.t 0)⟩,
     ⟨(some 12), none, .call fid_impl_steps false [.im] [(.t 11)]⟩,
     ⟨(some 13), none, .extract (.t 12) 0⟩,
     ⟨(some 14), none, .extract (.t 12) 1⟩,
     ⟨(some 2), none, .mov (.t 13)⟩,
     ⟨(some 3), none, .mov (.t 14)⟩] [2, 3])
  (.ret)))
theorem get_impl_ChainEdges : Go.Proofs.Try.prog.funcs[fid_impl_ChainEdges]? = some Go.Proofs.Try.f58 := Go.Proofs.Try.func58
theorem ok_impl_ChainEdges : okFn Go.Proofs.Try.prog Go.Proofs.Try.f58 15 [] [(2, none), (3, none)] mc_impl_ChainEdges = true := by kernel_rfl
def mc_impl_EdgeOf : MCode :=
 .seq
  (.reg [
     ⟨(some 4), none, .alloc [.i .i64 0, .i .i64 0]⟩,
     ⟨(some 5), none, .mov (.v (.b false))⟩] [0, 1, 4])
  (.seq
  (.seq
   (.reg [
      ⟨(some 6), none, .mov (.t 0)⟩,
      ⟨(some 7), none, .mov (.t 1)⟩,
      ⟨(some 8), none, .bin .eql (.t 6) (.t 7)⟩,
      ⟨(some 9), none, .mov (.t 8)⟩,
      ⟨(some 10), (some (9, false)), .mov (.t 0)⟩,
      ⟨(some 11), (some (9, false)), .call fid_impl_isNode false [.im] [(.t 10)]⟩,
      ⟨(some 12), (some (9, false)), .un .not (.t 11)⟩,
      ⟨(some 13), none, .pick (.t 9) (.v (.b true)) (.t 12)⟩,
      ⟨(some 14), none, .mov (.t 13)⟩,
      ⟨(some 15), (some (14, false)), .mov (.t 1)⟩,
      ⟨(some 16), (some (14, false)), .call fid_impl_isNode false [.im] [(.t 15)]⟩,
      ⟨(some 17), (some (14, false)), .un .not (.t 16)⟩,
      ⟨(some 18), none, .pick (.t 14) (.v (.b true)) (.t 17)⟩] [0, 1, 4, 18])
   (.cond (.t 18)
   (.seq
    (.reg [
       ⟨(some 19), none, .build [.i .i64 0, .i .i64 0] []⟩,
       ⟨none, none, .store 2 (.t 4) (.t 19)⟩,
       ⟨(some 5), none, .mov (.v (.b false))⟩] [4, 5])
    (.ret))
   (.skip)))
  (.seq
  (.reg [
     ⟨(some 20), none, .mov (.t 0)⟩,
     ⟨(some 21), none, .mov (.t 1)⟩,
     ⟨(some 22), none, .minmax false (.t 20) (.t 21)⟩,
     ⟨(some 23), none, .mov (.t 0)⟩,
     ⟨(some 24), none, .mov (.t 1)⟩,
     ⟨(some 25), none, .minmax true (.t 23) (.t 24)⟩,
     ⟨(some 26), none, .build [.i .i64 0, .i .i64 0] [(0, 1, (.t 22)), (1, 1, (.t 25))]⟩,
     ⟨none, none, .store 2 (.t 4) (.t 26)⟩,
     ⟨(some 5), none, .mov (.v (.b true))⟩] [4, 5])
  (.ret)))
theorem get_impl_EdgeOf : Go.Proofs.Try.prog.funcs[fid_impl_EdgeOf]? = some Go.Proofs.Try.f60 := Go.Proofs.Try.func60
theorem ok_impl_EdgeOf : okFn Go.Proofs.Try.prog Go.Proofs.Try.f60 27 [] [(4, some (true, 2)), (5, none)] mc_impl_EdgeOf = true := by kernel_rfl
def mc_impl_graphsOf : MCode :=
 .seq
  (.reg [
     ⟨(some 2), none, .box 2 (.t 0)⟩,
     ⟨(some 4), none, .mov (.v (.nl 2))⟩,
     ⟨(some 5), none, .mov (.v (.b false))⟩] [1, 2])
  (.seq
  (.seq
   (.reg [
      ⟨(some 11), none, .load true 2 (.t 2)⟩,
      ⟨(some 12), none, .call fid_impl_GraphValid false [.im] [(.t 11)]⟩,
      ⟨(some 13), none, .un .not (.t 12)⟩,
      ⟨(some 14), none, .mov (.t 13)⟩,
      ⟨(some 15), (some (14, false)), .mov (.t 1)⟩,
      ⟨(some 16), (some (14, false)), .len (.t 15)⟩,
      ⟨(some 17), (some (14, false)), .bin .gtr (.t 16) (.v (.i .i64 60))⟩,
      ⟨(some 18), none, .pick (.t 14) (.v (.b true)) (.t 17)⟩] [1, 2, 18])
   (.cond (.t 18)
   (.seq
    (.reg [
       ⟨(some 4), none, .mov (.v (.nl 2))⟩,
       ⟨(some 5), none, .mov (.v (.b false))⟩] [4, 5])
    (.ret))
   (.skip)))
  (.seq
  (.reg [
     ⟨(some 19), none, .load true 2 (.t 2)⟩,
     ⟨(some 20), none, .buildSlice 2 [(.t 19)]⟩,
     ⟨(some 6), none, .mov (.t 20)⟩] [1, 6])
  (.seq
  (.seq
   (.reg [
      ⟨(some 21), none, .mov (.t 1)⟩,
      ⟨(some 22), none, .len (.t 21)⟩,
      ⟨(some 23), none, .mov (.v (.i .i64 0))⟩] [6, 21, 22, 23])
   (.block 0
   (.loop [6, 21, 22, 23]
    (.seq
     (.reg [
        ⟨(some 24), none, .bin .lss (.t 23) (.t 22)⟩] [6, 21, 22, 23, 24])
     (.seq
     (.cond (.t 24)
      (.skip)
      (.exit 0))
     (.seq
     (.block 1
      (.seq
       (.reg [
          ⟨(some 25), none, .mov (.t 23)⟩,
          ⟨(some 26), none, .indexAddr 2 (.t 21) (.t 23)⟩,
          ⟨(some 27), none, .load true 2 (.t 26)⟩,
          ⟨(some 8), none, .alloc [.i .i64 0, .i .i64 0]⟩,
          ⟨(some 7), none, .mov (.t 25)⟩,
          ⟨none, none, .store 2 (.t 8) (.t 27)⟩] [6, 7, 8, 21, 22, 23])
       (.seq
       (.draw [0, 0, 3, 7, 0, 16, 63, 127, 255, 255, 0, 1535, 4095] [
          ⟨(some 29), none, .mov (.t 6)⟩,
          ⟨(some 30), none, .mov (.t 7)⟩,
          ⟨(some 31), none, .indexAddr 2 (.t 29) (.t 30)⟩,
          ⟨(some 32), none, .load true 2 (.t 31)⟩,
          ⟨(some 33), none, .fieldAddr 0 (.t 8)⟩,
          ⟨(some 34), none, .load true 2 (.t 33)⟩,
          ⟨(some 35), none, .call fid_impl_TurnEdge false [.im, .im] [(.t 32), (.t 34)]⟩,
          ⟨(some 28), none, .mov (.t 35)⟩,
          ⟨(some 36), none, .extract (.t 28) 0⟩,
          ⟨(some 37), none, .extract (.t 28) 1⟩,
          ⟨(some 9), none, .alloc [.i .i64 0, .nl 2]⟩,
          ⟨none, none, .store 2 (.t 9) (.t 36)⟩,
          ⟨(some 10), none, .mov (.t 37)⟩] [6, 9, 10, 21, 22, 23])
       (.seq
       (.seq
        (.reg [
           ⟨(some 38), none, .mov (.t 10)⟩,
           ⟨(some 39), none, .un .not (.t 38)⟩] [6, 9, 21, 22, 23, 39])
        (.cond (.t 39)
        (.seq
         (.reg [
            ⟨(some 4), none, .mov (.v (.nl 2))⟩,
            ⟨(some 5), none, .mov (.v (.b false))⟩] [4, 5])
         (.ret))
        (.skip)))
       (.reg [
         ⟨(some 40), none, .mov (.t 6)⟩,
         ⟨(some 41), none, .load true 2 (.t 9)⟩,
         ⟨(some 42), none, .buildSlice 2 [(.t 41)]⟩,
         ⟨(some 43), none, .append 2 32 true (.t 40) (.t 42)⟩,
         ⟨(some 6), none, .mov (.t 43)⟩] [6, 21, 22, 23])))))
     (.reg [
       ⟨(some 44), none, .bin .add (.t 23) (.v (.i .i64 1))⟩,
       ⟨(some 23), none, .mov (.t 44)⟩] [6, 21, 22, 23])))))))
  (.seq
  (.reg [
     ⟨(some 45), none, .mov (.t 6)⟩,
     ⟨(some 4), none, .mov (.t 45)⟩,
     ⟨(some 5), none, .mov (.v (.b true))⟩] [4, 5])
  (.ret)))))
theorem get_impl_graphsOf : Go.Proofs.Try.prog.funcs[fid_impl_graphsOf]? = some Go.Proofs.Try.f65 := Go.Proofs.Try.func65
theorem ok_impl_graphsOf : okFn Go.Proofs.Try.prog Go.Proofs.Try.f65 46 [] [(4, none), (5, none)] mc_impl_graphsOf = true := by kernel_rfl
def mc_slices_Clone_impl_Edge_impl_Edge : MCode :=
 .seq
  (.reg [
     ⟨(some 2), none, .mov (.v (.nl 2))⟩] [0])
  (.seq
  (.seq
   (.reg [
      ⟨(some 3), none, .mov (.t 0)⟩,
      ⟨(some 4), none, .nilq false (.t 3)⟩] [0, 4])
   (.cond (.t 4)
   (.seq
    (.reg [
       ⟨(some 2), none, .mov (.v (.nl 2))⟩] [2])
    (.ret))
   (.skip)))
  (.seq
  (.reg [
     ⟨(some 5), none, .buildSlice 2 []⟩,
     ⟨(some 6), none, .mov (.t 0)⟩,
     ⟨(some 7), none, .append 2 16 false (.t 5) (.t 6)⟩,
     ⟨(some 2), none, .mov (.t 7)⟩] [2])
  (.ret)))
theorem get_slices_Clone_impl_Edge_impl_Edge : Go.Proofs.Try.prog.funcs[fid_slices_Clone_impl_Edge_impl_Edge]? = some Go.Proofs.Try.f66 := Go.Proofs.Try.func66
theorem ok_slices_Clone_impl_Edge_impl_Edge : okFn Go.Proofs.Try.prog Go.Proofs.Try.f66 8 [] [(2, none)] mc_slices_Clone_impl_Edge_impl_Edge = true := by kernel_rfl
def mc_slices_Equal_impl_Edge_impl_Edge : MCode :=
 .seq
  (.reg [
     ⟨(some 4), none, .mov (.v (.b false))⟩] [0, 1])
  (.seq
  (.seq
   (.reg [
      ⟨(some 6), none, .mov (.t 0)⟩,
      ⟨(some 7), none, .len (.t 6)⟩,
      ⟨(some 8), none, .mov (.t 1)⟩,
      ⟨(some 9), none, .len (.t 8)⟩,
      ⟨(some 10), none, .bin .neq (.t 7) (.t 9)⟩] [0, 1, 10])
   (.cond (.t 10)
   (.seq
    (.reg [
       ⟨(some 4), none, .mov (.v (.b false))⟩] [4])
    (.ret))
   (.skip)))
  (.seq
  (.seq
   (.reg [
      ⟨(some 11), none, .mov (.t 0)⟩,
      ⟨(some 12), none, .len (.t 11)⟩,
      ⟨(some 13), none, .mov (.v (.i .i64 0))⟩] [0, 1, 12, 13])
   (.block 0
   (.loop [0, 1, 12, 13]
    (.seq
     (.reg [
        ⟨(some 14), none, .bin .lss (.t 13) (.t 12)⟩] [0, 1, 12, 13, 14])
     (.seq
     (.cond (.t 14)
      (.skip)
      (.exit 0))
     (.seq
     (.block 1
      (.seq
       (.reg [
          ⟨(some 15), none, .mov (.t 13)⟩,
          ⟨(some 5), none, .mov (.t 15)⟩] [0, 1, 5, 12, 13])
       (.seq
       (.draw [0, 0, 3, 7, 0, 0, 48, 112, 255] [
          ⟨(some 16), none, .mov (.t 0)⟩,
          ⟨(some 17), none, .mov (.t 5)⟩,
          ⟨(some 18), none, .indexAddr 2 (.t 16) (.t 17)⟩,
          ⟨(some 19), none, .load true 2 (.t 18)⟩,
          ⟨(some 20), none, .mov (.t 1)⟩,
          ⟨(some 21), none, .mov (.t 5)⟩,
          ⟨(some 22), none, .indexAddr 2 (.t 20) (.t 21)⟩,
          ⟨(some 23), none, .load true 2 (.t 22)⟩,
          ⟨(some 24), none, .eqAgg true [true, true] (.t 19) (.t 23)⟩] [0, 1, 12, 13, 24])
       (.cond (.t 24)
       (.seq
        (.reg [
           ⟨(some 4), none, .mov (.v (.b false))⟩] [4])
        (.ret))
       (.skip)))))
     (.reg [
       ⟨(some 25), none, .bin .add (.t 13) (.v (.i .i64 1))⟩,
       ⟨(some 13), none, .mov (.t 25)⟩] [0, 1, 12, 13])))))))
  (.seq
  (.reg [
     ⟨(some 4), none, .mov (.v (.b true))⟩] [4])
  (.ret))))
theorem get_slices_Equal_impl_Edge_impl_Edge : Go.Proofs.Try.prog.funcs[fid_slices_Equal_impl_Edge_impl_Edge]? = some Go.Proofs.Try.f69 := Go.Proofs.Try.func69
theorem ok_slices_Equal_impl_Edge_impl_Edge : okFn Go.Proofs.Try.prog Go.Proofs.Try.f69 26 [] [(4, none)] mc_slices_Equal_impl_Edge_impl_Edge = true := by kernel_rfl
def mc_impl_compareEdges : MCode :=
 .seq
  (.reg [
     ⟨(some 2), none, .box 2 (.t 0)⟩,
     ⟨(some 3), none, .box 2 (.t 1)⟩,
     ⟨(some 4), none, .mov (.v (.i .i64 0))⟩] [2, 3])
  (.seq
  (.draw [0, 1, 0, 4, 15, 0, 32, 0, 128, 511, 1023, 2047, 4095] [
     ⟨(some 5), none, .fieldAddr 0 (.t 2)⟩,
     ⟨(some 6), none, .load false 1 (.t 5)⟩,
     ⟨(some 7), none, .fieldAddr 0 (.t 3)⟩,
     ⟨(some 8), none, .load false 1 (.t 7)⟩,
     ⟨(some 9), none, .call fid_cmp_Compare_int false [.im, .im] [(.t 6), (.t 8)]⟩,
     ⟨(some 10), none, .fieldAddr 1 (.t 2)⟩,
     ⟨(some 11), none, .load false 1 (.t 10)⟩,
     ⟨(some 12), none, .fieldAddr 1 (.t 3)⟩,
     ⟨(some 13), none, .load false 1 (.t 12)⟩,
     ⟨(some 14), none, .call fid_cmp_Compare_int false [.im, .im] [(.t 11), (.t 13)]⟩,
     ⟨(some 15), none, .buildSlice 1 [(.t 9), (.t 14)]⟩,
     ⟨(some 16), none, .call fid_cmp_Or_int false [.im] [(.t 15)]⟩,
     ⟨(some 4), none, .mov (.t 16)⟩] [4])
  (.ret))
theorem get_impl_compareEdges : Go.Proofs.Try.prog.funcs[fid_impl_compareEdges]? = some Go.Proofs.Try.f70 := Go.Proofs.Try.func70
theorem ok_impl_compareEdges : okFn Go.Proofs.Try.prog Go.Proofs.Try.f70 17 [] [(4, none)] mc_impl_compareEdges = true := by kernel_rfl
def mc_slices_BinarySearchFunc_impl_Edge_impl_Edge_impl_Edge : MCode :=
 .seq
  (.reg [
     ⟨(some 4), none, .box 2 (.t 1)⟩,
     ⟨(some 6), none, .mov (.v (.i .i64 0))⟩,
     ⟨(some 7), none, .mov (.v (.b false))⟩] [0, 2, 4])
  (.seq
  (.reg [
     ⟨(some 12), none, .mov (.t 0)⟩,
     ⟨(some 13), none, .len (.t 12)⟩,
     ⟨(some 8), none, .mov (.t 13)⟩] [0, 2, 4, 8])
  (.seq
  (.reg [
     ⟨(some 14), none, .mov (.t 8)⟩,
     ⟨(some 9), none, .mov (.v (.i .i64 0))⟩,
     ⟨(some 10), none, .mov (.t 14)⟩] [0, 2, 4, 8, 9, 10])
  (.seq
  (.block 0
   (.loop [0, 2, 4, 8, 9, 10]
    (.seq
     (.seq
      (.reg [
         ⟨(some 15), none, .mov (.t 9)⟩,
         ⟨(some 16), none, .mov (.t 10)⟩,
         ⟨(some 17), none, .bin .lss (.t 15) (.t 16)⟩] [0, 2, 4, 8, 9, 10, 17])
      (.cond (.t 17)
      (.skip)
      (.exit 0)))
     (.block 1
     (.seq
      (.reg [
         ⟨(some 18), none, .mov (.t 9)⟩,
         ⟨(some 19), none, .mov (.t 10)⟩,
         ⟨(some 20), none, .bin .add (.t 18) (.t 19)⟩,
         ⟨(some 21), none, .conv .u64 (.t 20)⟩,
         ⟨(some 22), none, .bin .shr (.t 21) (.v (.i .u64 1))⟩,
         ⟨(some 23), none, .conv .i64 (.t 22)⟩,
         ⟨(some 11), none, .mov (.t 23)⟩] [0, 2, 4, 8, 9, 10, 11])
      (.seq
      (.draw [0, 0, 0, 6, 14, 0, 63, 127] [
         ⟨(some 24), none, .mov (.t 2)⟩,
         ⟨(some 25), none, .mov (.t 0)⟩,
         ⟨(some 26), none, .mov (.t 11)⟩,
         ⟨(some 27), none, .indexAddr 2 (.t 25) (.t 26)⟩,
         ⟨(some 28), none, .load true 2 (.t 27)⟩,
         ⟨(some 29), none, .load true 2 (.t 4)⟩,
         ⟨(some 30), none, .callv (.t 24) [(.t 28), (.t 29)]⟩,
         ⟨(some 31), none, .bin .lss (.t 30) (.v (.i .i64 0))⟩] [0, 2, 4, 8, 9, 10, 11, 31])
      (.cond (.t 31)
      (.reg [
         ⟨(some 32), none, .mov (.t 11)⟩,
         ⟨(some 33), none, .bin .add (.t 32) (.v (.i .i64 1))⟩,
         ⟨(some 9), none, .mov (.t 33)⟩] [0, 2, 4, 8, 9, 10])
      (.reg [
         ⟨(some 34), none, .mov (.t 11)⟩,
         ⟨(some 10), none, .mov (.t 34)⟩] [0, 2, 4, 8, 9, 10]))))))))
  (.seq
  (.draw [0, 0, 0, 6, 14, 30, 30, 30, 222, 478, 30, 2046, 4094, 8190, 4095, 32767] [
     ⟨(some 35), none, .mov (.t 9)⟩,
     ⟨(some 36), none, .mov (.t 9)⟩,
     ⟨(some 37), none, .mov (.t 8)⟩,
     ⟨(some 38), none, .bin .lss (.t 36) (.t 37)⟩,
     ⟨(some 39), none, .mov (.t 38)⟩,
     ⟨(some 40), (some (39, true)), .mov (.t 2)⟩,
     ⟨(some 41), (some (39, true)), .mov (.t 0)⟩,
     ⟨(some 42), (some (39, true)), .mov (.t 9)⟩,
     ⟨(some 43), (some (39, true)), .indexAddr 2 (.t 41) (.t 42)⟩,
     ⟨(some 44), (some (39, true)), .load true 2 (.t 43)⟩,
     ⟨(some 45), (some (39, true)), .load true 2 (.t 4)⟩,
     ⟨(some 46), (some (39, true)), .callv (.t 40) [(.t 44), (.t 45)]⟩,
     ⟨(some 47), (some (39, true)), .bin .eql (.t 46) (.v (.i .i64 0))⟩,
     ⟨(some 48), none, .pick (.t 39) (.t 47) (.v (.b false))⟩,
     ⟨(some 6), none, .mov (.t 35)⟩,
     ⟨(some 7), none, .mov (.t 48)⟩] [6, 7])
  (.ret)))))
theorem get_slices_BinarySearchFunc_impl_Edge_impl_Edge_impl_Edge : Go.Proofs.Try.prog.funcs[fid_slices_BinarySearchFunc_impl_Edge_impl_Edge_impl_Edge]? = some Go.Proofs.Try.f77 := Go.Proofs.Try.func77
theorem ok_slices_BinarySearchFunc_impl_Edge_impl_Edge_impl_Edge : okFn Go.Proofs.Try.prog Go.Proofs.Try.f77 49 [] [(6, none), (7, none)] mc_slices_BinarySearchFunc_impl_Edge_impl_Edge_impl_Edge = true := by kernel_rfl
def mc_slices_Delete_impl_Edge_impl_Edge : MCode :=
 .seq
  (.reg [
     ⟨(some 6), none, .mov (.v (.nl 2))⟩] [0, 1, 2])
  (.seq
  (.reg [
     ⟨(some 8), none, .mov (.t 0)⟩,
     ⟨(some 9), none, .mov (.t 1)⟩,
     ⟨(some 10), none, .mov (.t 2)⟩,
     ⟨(some 11), none, .mov (.t 0)⟩,
     ⟨(some 12), none, .len (.t 11)⟩,
     ⟨(some 13), none, .slice3 (.t 8) (some (.t 9)) (some (.t 10)) (some (.t 12))⟩] [0, 1, 2])
  (.seq
  (.seq
   (.reg [
      ⟨(some 14), none, .mov (.t 1)⟩,
      ⟨(some 15), none, .mov (.t 2)⟩,
      ⟨(some 16), none, .bin .eql (.t 14) (.t 15)⟩] [0, 1, 2, 16])
   (.cond (.t 16)
   (.seq
    (.reg [
       ⟨(some 17), none, .mov (.t 0)⟩,
       ⟨(some 6), none, .mov (.t 17)⟩] [6])
    (.ret))
   (.skip)))
  (.seq
  (.reg [
     ⟨(some 18), none, .mov (.t 0)⟩,
     ⟨(some 19), none, .len (.t 18)⟩,
     ⟨(some 7), none, .mov (.t 19)⟩] [0, 1, 2, 7])
  (.seq
  (.draw [0, 0, 3, 0, 0, 24, 63, 127] [
     ⟨(some 20), none, .mov (.t 0)⟩,
     ⟨(some 21), none, .mov (.t 1)⟩,
     ⟨(some 22), none, .sliceHd 2 (.t 20) (some (.t 21))⟩,
     ⟨(some 23), none, .mov (.t 0)⟩,
     ⟨(some 24), none, .mov (.t 2)⟩,
     ⟨(some 25), none, .slice 2 (.t 23) (some (.t 24)) none⟩,
     ⟨(some 26), none, .appendIn 2 (.t 22) (.t 25)⟩,
     ⟨(some 0), none, .mov (.t 26)⟩] [0, 7])
  (.seq
  (.reg [
     ⟨(some 27), none, .mov (.t 0)⟩,
     ⟨(some 28), none, .mov (.t 0)⟩,
     ⟨(some 29), none, .len (.t 28)⟩,
     ⟨(some 30), none, .mov (.t 7)⟩,
     ⟨(some 31), none, .sliceUp 2 (.t 27) (some (.t 29)) (some (.t 30))⟩,
     ⟨none, none, .clear 2 [.i .i64 0, .i .i64 0] (.t 31)⟩] [0])
  (.seq
  (.reg [
     ⟨(some 32), none, .mov (.t 0)⟩,
     ⟨(some 6), none, .mov (.t 32)⟩] [6])
  (.ret)))))))
theorem get_slices_Delete_impl_Edge_impl_Edge : Go.Proofs.Try.prog.funcs[fid_slices_Delete_impl_Edge_impl_Edge]? = some Go.Proofs.Try.f78 := Go.Proofs.Try.func78
theorem ok_slices_Delete_impl_Edge_impl_Edge : okFn Go.Proofs.Try.prog Go.Proofs.Try.f78 33 [] [(6, none)] mc_slices_Delete_impl_Edge_impl_Edge = true := by kernel_rfl
def mc_slices_Insert_impl_Edge_impl_Edge : MCode :=
 .seq
  (.reg [
     ⟨(some 6), none, .mov (.v (.nl 2))⟩] [0, 1, 2])
  (.seq
  (.reg [
     ⟨(some 10), none, .mov (.t 0)⟩,
     ⟨(some 11), none, .mov (.t 1)⟩,
     ⟨(some 12), none, .slice 2 (.t 10) (some (.t 11)) none⟩] [0, 1, 2])
  (.seq
  (.reg [
     ⟨(some 13), none, .mov (.t 2)⟩,
     ⟨(some 14), none, .len (.t 13)⟩,
     ⟨(some 7), none, .mov (.t 14)⟩] [0, 1, 2, 7])
  (.seq
  (.seq
   (.reg [
      ⟨(some 15), none, .mov (.t 7)⟩,
      ⟨(some 16), none, .bin .eql (.t 15) (.v (.i .i64 0))⟩] [0, 1, 2, 7, 16])
   (.cond (.t 16)
   (.seq
    (.reg [
       ⟨(some 17), none, .mov (.t 0)⟩,
       ⟨(some 6), none, .mov (.t 17)⟩] [6])
    (.ret))
   (.skip)))
  (.seq
  (.reg [
     ⟨(some 18), none, .mov (.t 0)⟩,
     ⟨(some 19), none, .len (.t 18)⟩,
     ⟨(some 8), none, .mov (.t 19)⟩] [0, 1, 2, 7, 8])
  (.seq
  (.seq
   (.reg [
      ⟨(some 20), none, .mov (.t 1)⟩,
      ⟨(some 21), none, .mov (.t 8)⟩,
      ⟨(some 22), none, .bin .eql (.t 20) (.t 21)⟩] [0, 1, 2, 7, 8, 22])
   (.cond (.t 22)
   (.seq
    (.reg [
       ⟨(some 23), none, .mov (.t 0)⟩,
       ⟨(some 24), none, .mov (.t 2)⟩,
       ⟨(some 25), none, .append 2 16 false (.t 23) (.t 24)⟩,
       ⟨(some 6), none, .mov (.t 25)⟩] [6])
    (.ret))
   (.skip)))
  (.seq
  (.seq
   (.reg [
      ⟨(some 26), none, .mov (.t 8)⟩,
      ⟨(some 27), none, .mov (.t 7)⟩,
      ⟨(some 28), none, .bin .add (.t 26) (.t 27)⟩,
      ⟨(some 29), none, .mov (.t 0)⟩,
      ⟨(some 30), none, .cap (.t 29)⟩,
      ⟨(some 31), none, .bin .gtr (.t 28) (.t 30)⟩] [0, 1, 2, 7, 8, 31])
   (.cond (.t 31)
   (.seq
    (.reg [
       ⟨(some 32), none, .mov (.t 0)⟩,
       ⟨(some 33), none, .mov (.t 1)⟩,
       ⟨(some 34), none, .slice 2 (.t 32) none (some (.t 33))⟩,
       ⟨(some 35), none, .mov (.t 8)⟩,
       ⟨(some 36), none, .mov (.t 7)⟩,
       ⟨(some 37), none, .bin .add (.t 35) (.t 36)⟩,
       ⟨(some 38), none, .mov (.t 1)⟩,
       ⟨(some 39), none, .bin .sub (.t 37) (.t 38)⟩,
       ⟨(some 40), none, .appendMk 2 16 [.i .i64 0, .i .i64 0] (.t 34) (.t 39)⟩,
       ⟨(some 9), none, .mov (.t 40)⟩] [0, 1, 2, 7, 9])
    (.seq
    (.reg [
       ⟨(some 41), none, .mov (.t 9)⟩,
       ⟨(some 42), none, .mov (.t 1)⟩,
       ⟨(some 43), none, .slice 2 (.t 41) (some (.t 42)) none⟩,
       ⟨(some 44), none, .mov (.t 2)⟩,
       ⟨(some 45), none, .copy 2 (.t 43) (.t 44)⟩] [0, 1, 7, 9])
    (.seq
    (.draw [0, 0, 0, 6, 15, 0, 0, 96, 255] [
       ⟨(some 46), none, .mov (.t 9)⟩,
       ⟨(some 47), none, .mov (.t 1)⟩,
       ⟨(some 48), none, .mov (.t 7)⟩,
       ⟨(some 49), none, .bin .add (.t 47) (.t 48)⟩,
       ⟨(some 50), none, .slice 2 (.t 46) (some (.t 49)) none⟩,
       ⟨(some 51), none, .mov (.t 0)⟩,
       ⟨(some 52), none, .mov (.t 1)⟩,
       ⟨(some 53), none, .slice 2 (.t 51) (some (.t 52)) none⟩,
       ⟨(some 54), none, .copy 2 (.t 50) (.t 53)⟩] [9])
    (.seq
    (.reg [
       ⟨(some 55), none, .mov (.t 9)⟩,
       ⟨(some 6), none, .mov (.t 55)⟩] [6])
    (.ret)))))
   (.skip)))
  (.seq
  (.reg [
     ⟨(some 56), none, .mov (.t 0)⟩,
     ⟨(some 57), none, .mov (.t 8)⟩,
     ⟨(some 58), none, .mov (.t 7)⟩,
     ⟨(some 59), none, .bin .add (.t 57) (.t 58)⟩,
     ⟨(some 60), none, .slice 2 (.t 56) none (some (.t 59))⟩,
     ⟨(some 0), none, .mov (.t 60)⟩] [0, 1, 2, 7, 8])
  (.seq
  (.seq
   (.reg [
      ⟨(some 61), none, .mov (.t 2)⟩,
      ⟨(some 62), none, .mov (.t 0)⟩,
      ⟨(some 63), none, .mov (.t 1)⟩,
      ⟨(some 64), none, .mov (.t 7)⟩,
      ⟨(some 65), none, .bin .add (.t 63) (.t 64)⟩,
      ⟨(some 66), none, .slice 2 (.t 62) (some (.t 65)) none⟩,
      ⟨(some 67), none, .overlaps fid_slices_overlaps_impl_Edge (.t 61) (.t 66)⟩,
      ⟨(some 68), none, .un .not (.t 67)⟩] [0, 1, 2, 7, 8, 68])
   (.cond (.t 68)
   (.seq
    (.draw [0, 0, 0, 6, 15, 0, 0, 96, 255] [
       ⟨(some 69), none, .mov (.t 0)⟩,
       ⟨(some 70), none, .mov (.t 1)⟩,
       ⟨(some 71), none, .mov (.t 7)⟩,
       ⟨(some 72), none, .bin .add (.t 70) (.t 71)⟩,
       ⟨(some 73), none, .slice 2 (.t 69) (some (.t 72)) none⟩,
       ⟨(some 74), none, .mov (.t 0)⟩,
       ⟨(some 75), none, .mov (.t 1)⟩,
       ⟨(some 76), none, .slice 2 (.t 74) (some (.t 75)) none⟩,
       ⟨(some 77), none, .copy 2 (.t 73) (.t 76)⟩] [0, 1, 2])
    (.seq
    (.reg [
       ⟨(some 78), none, .mov (.t 0)⟩,
       ⟨(some 79), none, .mov (.t 1)⟩,
       ⟨(some 80), none, .slice 2 (.t 78) (some (.t 79)) none⟩,
       ⟨(some 81), none, .mov (.t 2)⟩,
       ⟨(some 82), none, .copy 2 (.t 80) (.t 81)⟩] [0])
    (.seq
    (.reg [
       ⟨(some 83), none, .mov (.t 0)⟩,
       ⟨(some 6), none, .mov (.t 83)⟩] [6])
    (.ret))))
   (.skip)))
  (.seq
  (.reg [
     ⟨(some 84), none, .mov (.t 0)⟩,
     ⟨(some 85), none, .mov (.t 8)⟩,
     ⟨(some 86), none, .slice 2 (.t 84) (some (.t 85)) none⟩,
     ⟨(some 87), none, .mov (.t 2)⟩,
     ⟨(some 88), none, .copy 2 (.t 86) (.t 87)⟩] [0, 1, 7])
  (.seq
  (.reg [
     ⟨(some 89), none, .mov (.t 0)⟩,
     ⟨(some 90), none, .mov (.t 1)⟩,
     ⟨(some 91), none, .slice 2 (.t 89) (some (.t 90)) none⟩,
     ⟨(some 92), none, .mov (.t 7)⟩,
     ⟨(some 93), none, .call fid_slices_rotateRight_impl_Edge false [.im, .im] [(.t 91), (.t 92)]⟩] [0])
  (.seq
  (.reg [
     ⟨(some 94), none, .mov (.t 0)⟩,
     ⟨(some 6), none, .mov (.t 94)⟩] [6])
  (.ret))))))))))))
theorem get_slices_Insert_impl_Edge_impl_Edge : Go.Proofs.Try.prog.funcs[fid_slices_Insert_impl_Edge_impl_Edge]? = some Go.Proofs.Try.f79 := Go.Proofs.Try.func79
theorem ok_slices_Insert_impl_Edge_impl_Edge : okFn Go.Proofs.Try.prog Go.Proofs.Try.f79 95 [] [(6, none)] mc_slices_Insert_impl_Edge_impl_Edge = true := by kernel_rfl
def mc_impl_bridgesOnly : MCode :=
 .seq
  (.reg [
     ⟨(some 2), none, .box 2 (.t 0)⟩,
     ⟨(some 3), none, .box 2 (.t 1)⟩,
     ⟨(some 4), none, .mov (.v (.nl 2))⟩] [2, 3])
  (.seq
  (.reg [
     ⟨(some 5), none, .load true 2 (.t 2)⟩,
     ⟨(some 6), none, .mkfn fid_impl_bridgesOnly_1 [] [(.t 2), (.t 3)]⟩,
     ⟨(some 7), none, .call fid_impl_Graph_edgesBy false [.im, .fn] [(.t 5), (.t 6)]⟩,
     ⟨(some 4), none, .mov (.t 7)⟩] [4])
  (.ret))
theorem get_impl_bridgesOnly : Go.Proofs.Try.prog.funcs[fid_impl_bridgesOnly]? = some Go.Proofs.Try.f86 := Go.Proofs.Try.func86
theorem ok_impl_bridgesOnly : okFn Go.Proofs.Try.prog Go.Proofs.Try.f86 8 [] [(4, none)] mc_impl_bridgesOnly = true := by kernel_rfl
def mc_impl_Graph_edgesBy : MCode :=
 .seq
  (.reg [
     ⟨(some 2), none, .box 2 (.t 0)⟩,
     ⟨(some 3), none, .box 1 (.t 1)⟩,
     ⟨(some 4), none, .mov (.v (.nl 2))⟩] [2, 3])
  (.seq
  (.reg [
     ⟨(some 5), none, .load true 2 (.t 2)⟩,
     ⟨(some 6), none, .mkfn fid_impl_Graph_edgesBy_1 [] [(.t 3)]⟩,
     ⟨(some 7), none, .call fid_impl_Graph_without false [.im, .fn] [(.t 5), (.t 6)]⟩,
     ⟨(some 8), none, .field false 1 1 (.t 7)⟩,
     ⟨(some 4), none, .mov (.t 8)⟩] [4])
  (.ret))
theorem get_impl_Graph_edgesBy : Go.Proofs.Try.prog.funcs[fid_impl_Graph_edgesBy]? = some Go.Proofs.Try.f87 := Go.Proofs.Try.func87
theorem ok_impl_Graph_edgesBy : okFn Go.Proofs.Try.prog Go.Proofs.Try.f87 9 [] [(4, none)] mc_impl_Graph_edgesBy = true := by kernel_rfl
def mc_impl_Graph_isBridge : MCode :=
 .seq
  (.reg [
     ⟨(some 2), none, .box 2 (.t 0)⟩,
     ⟨(some 3), none, .box 2 (.t 1)⟩,
     ⟨(some 4), none, .mov (.v (.b false))⟩] [2, 3])
  (.seq
  (.draw [0, 0, 3, 0, 8, 0, 32, 127, 255, 511] [
     ⟨(some 5), none, .load true 2 (.t 2)⟩,
     ⟨(some 6), none, .load true 2 (.t 3)⟩,
     ⟨(some 7), none, .call fid_impl_Graph_cut false [.im, .im] [(.t 5), (.t 6)]⟩,
     ⟨(some 8), none, .fieldAddr 0 (.t 3)⟩,
     ⟨(some 9), none, .load false 1 (.t 8)⟩,
     ⟨(some 10), none, .fieldAddr 1 (.t 3)⟩,
     ⟨(some 11), none, .load false 1 (.t 10)⟩,
     ⟨(some 12), none, .call fid_impl_Graph_connected false [.im, .im, .im] [(.t 7), (.t 9), (.t 11)]⟩,
     ⟨(some 13), none, .un .not (.t 12)⟩,
     ⟨(some 4), none, .mov (.t 13)⟩] [4])
  (.ret))
theorem get_impl_Graph_isBridge : Go.Proofs.Try.prog.funcs[fid_impl_Graph_isBridge]? = some Go.Proofs.Try.f88 := Go.Proofs.Try.func88
theorem ok_impl_Graph_isBridge : okFn Go.Proofs.Try.prog Go.Proofs.Try.f88 14 [] [(4, none)] mc_impl_Graph_isBridge = true := by kernel_rfl
def mc_impl_Graph_forest : MCode :=
 .seq
  (.reg [
     ⟨(some 1), none, .box 2 (.t 0)⟩,
     ⟨(some 2), none, .mov (.v (.nl 2))⟩] [1])
  (.seq
  (.reg [
     ⟨(some 6), none, .fieldAddr 0 (.t 1)⟩,
     ⟨(some 7), none, .load false 1 (.t 6)⟩,
     ⟨(some 8), none, .build [.i .i64 0, .nl 2] [(0, 1, (.t 7))]⟩,
     ⟨(some 3), none, .alloc [.i .i64 0, .nl 2]⟩,
     ⟨none, none, .store 2 (.t 3) (.t 8)⟩] [1, 3])
  (.seq
  (.seq
   (.reg [
      ⟨(some 9), none, .fieldAddr 1 (.t 1)⟩,
      ⟨(some 10), none, .load false 1 (.t 9)⟩,
      ⟨(some 11), none, .len (.t 10)⟩,
      ⟨(some 12), none, .mov (.v (.i .i64 0))⟩] [3, 10, 11, 12])
   (.block 0
   (.loop [3, 10, 11, 12]
    (.seq
     (.reg [
        ⟨(some 13), none, .bin .lss (.t 12) (.t 11)⟩] [3, 10, 11, 12, 13])
     (.seq
     (.cond (.t 13)
      (.skip)
      (.exit 0))
     (.seq
     (.block 1
      (.seq
       (.reg [
          ⟨(some 14), none, .indexAddr 2 (.t 10) (.t 12)⟩,
          ⟨(some 15), none, .load true 2 (.t 14)⟩,
          ⟨(some 5), none, .alloc [.i .i64 0, .i .i64 0]⟩,
          ⟨none, none, .store 2 (.t 5) (.t 15)⟩] [3, 5, 10, 11, 12])
       (.seq
       (.reg [
          ⟨(some 16), none, .load true 2 (.t 3)⟩,
          ⟨(some 17), none, .fieldAddr 0 (.t 5)⟩,
          ⟨(some 18), none, .load false 1 (.t 17)⟩,
          ⟨(some 19), none, .fieldAddr 1 (.t 5)⟩,
          ⟨(some 20), none, .load false 1 (.t 19)⟩,
          ⟨(some 21), none, .call fid_impl_Graph_connected false [.im, .im, .im] [(.t 16), (.t 18), (.t 20)]⟩,
          ⟨(some 22), none, .un .not (.t 21)⟩] [3, 5, 10, 11, 12, 22])
       (.cond (.t 22)
       (.reg [
          ⟨(some 23), none, .fieldAddr 1 (.t 3)⟩,
          ⟨(some 24), none, .load false 1 (.t 23)⟩,
          ⟨(some 25), none, .load true 2 (.t 5)⟩,
          ⟨(some 26), none, .buildSlice 2 [(.t 25)]⟩,
          ⟨(some 27), none, .append 2 16 true (.t 24) (.t 26)⟩,
          ⟨(some 28), none, .fieldAddr 1 (.t 3)⟩,
          ⟨none, none, .store 1 (.t 28) (.t 27)⟩] [3, 10, 11, 12])
       (.skip)))))
     (.reg [
       ⟨(some 29), none, .bin .add (.t 12) (.v (.i .i64 1))⟩,
       ⟨(some 12), none, .mov (.t 29)⟩] [3, 10, 11, 12])))))))
  (.seq
  (.reg [
     ⟨(some 30), none, .fieldAddr 1 (.t 3)⟩,
     ⟨(some 31), none, .load false 1 (.t 30)⟩,
     ⟨(some 2), none, .mov (.t 31)⟩] [2])
  (.ret))))
theorem get_impl_Graph_forest : Go.Proofs.Try.prog.funcs[fid_impl_Graph_forest]? = some Go.Proofs.Try.f90 := Go.Proofs.Try.func90
theorem ok_impl_Graph_forest : okFn Go.Proofs.Try.prog Go.Proofs.Try.f90 32 [] [(2, none)] mc_impl_Graph_forest = true := by kernel_rfl
def mc_impl_Graph_without : MCode :=
 .seq
  (.reg [
     ⟨(some 2), none, .box 2 (.t 0)⟩,
     ⟨(some 4), none, .alloc [.i .i64 0, .nl 2]⟩] [1, 2, 4])
  (.seq
  (.draw [0, 1, 0, 4, 12, 0, 60, 127, 255] [
     ⟨(some 5), none, .fieldAddr 0 (.t 2)⟩,
     ⟨(some 6), none, .load false 1 (.t 5)⟩,
     ⟨(some 7), none, .fieldAddr 1 (.t 2)⟩,
     ⟨(some 8), none, .load false 1 (.t 7)⟩,
     ⟨(some 9), none, .call fid_slices_Clone_impl_Edge_impl_Edge false [.im] [(.t 8)]⟩,
     ⟨(some 10), none, .mov (.t 1)⟩,
     ⟨(some 11), none, .call fid_slices_DeleteFunc_impl_Edge_impl_Edge false [.co, .fn] [(.t 9), (.t 10)]⟩,
     ⟨(some 12), none, .build [.i .i64 0, .nl 2] [(0, 1, (.t 6)), (1, 1, (.t 11))]⟩,
     ⟨none, none, .store 2 (.t 4) (.t 12)⟩] [4])
  (.ret))
theorem get_impl_Graph_without : Go.Proofs.Try.prog.funcs[fid_impl_Graph_without]? = some Go.Proofs.Try.f91 := Go.Proofs.Try.func91
theorem ok_impl_Graph_without : okFn Go.Proofs.Try.prog Go.Proofs.Try.f91 13 [] [(4, some (true, 2))] mc_impl_Graph_without = true := by kernel_rfl
def mc_impl_ForestsOf_1 : MCode :=
 .seq
  (.reg [
     ⟨(some 2), none, .box 2 (.t 0)⟩,
     ⟨(some 3), none, .mov (.v (.b false))⟩] [1, 2])
  (.seq
  (.reg [
     ⟨(some 4), none, .load false 1 (.t 1)⟩,
     ⟨(some 5), none, .load true 2 (.t 2)⟩,
     ⟨(some 6), none, .call fid_slices_Contains_impl_Edge_impl_Edge false [.im, .im] [(.t 4), (.t 5)]⟩,
     ⟨(some 3), none, .mov (.t 6)⟩] [3])
  (.ret))
theorem get_impl_ForestsOf_1 : Go.Proofs.Try.prog.funcs[fid_impl_ForestsOf_1]? = some Go.Proofs.Try.f92 := Go.Proofs.Try.func92
theorem ok_impl_ForestsOf_1 : okFn Go.Proofs.Try.prog Go.Proofs.Try.f92 7 [] [(3, none)] mc_impl_ForestsOf_1 = true := by kernel_rfl
def mc_slices_Contains_impl_Edge_impl_Edge : MCode :=
 .seq
  (.reg [
     ⟨(some 3), none, .box 2 (.t 1)⟩,
     ⟨(some 4), none, .mov (.v (.b false))⟩] [0, 3])
  (.seq
  (.reg [
     ⟨(some 5), none, .mov (.t 0)⟩,
     ⟨(some 6), none, .load true 2 (.t 3)⟩,
     ⟨(some 7), none, .call fid_slices_Index_impl_Edge_impl_Edge false [.im, .im] [(.t 5), (.t 6)]⟩,
     ⟨(some 8), none, .bin .geq (.t 7) (.v (.i .i64 0))⟩,
     ⟨(some 4), none, .mov (.t 8)⟩] [4])
  (.ret))
theorem get_slices_Contains_impl_Edge_impl_Edge : Go.Proofs.Try.prog.funcs[fid_slices_Contains_impl_Edge_impl_Edge]? = some Go.Proofs.Try.f93 := Go.Proofs.Try.func93
theorem ok_slices_Contains_impl_Edge_impl_Edge : okFn Go.Proofs.Try.prog Go.Proofs.Try.f93 9 [] [(4, none)] mc_slices_Contains_impl_Edge_impl_Edge = true := by kernel_rfl
def mc_impl_HasEdge : MCode :=
 .seq
  (.reg [
     ⟨(some 2), none, .box 2 (.t 0)⟩,
     ⟨(some 3), none, .box 2 (.t 1)⟩,
     ⟨(some 4), none, .mov (.v (.b false))⟩] [2, 3])
  (.seq
  (.reg [
     ⟨(some 5), none, .load true 2 (.t 2)⟩,
     ⟨(some 6), none, .call fid_impl_GraphValid false [.im] [(.t 5)]⟩,
     ⟨(some 7), none, .mov (.t 6)⟩,
     ⟨(some 8), (some (7, true)), .load true 2 (.t 2)⟩,
     ⟨(some 9), (some (7, true)), .load true 2 (.t 3)⟩,
     ⟨(some 10), (some (7, true)), .call fid_impl_Graph_has false [.im, .im] [(.t 8), (.t 9)]⟩,
     ⟨(some 11), none, .pick (.t 7) (.t 10) (.v (.b false))⟩,
     ⟨(some 4), none, .mov (.t 11)⟩] [4])
  (.ret))
theorem get_impl_HasEdge : Go.Proofs.Try.prog.funcs[fid_impl_HasEdge]? = some Go.Proofs.Try.f97 := Go.Proofs.Try.func97
theorem ok_impl_HasEdge : okFn Go.Proofs.Try.prog Go.Proofs.Try.f97 12 [] [(4, none)] mc_impl_HasEdge = true := by kernel_rfl
def mc_impl_Graph_cut : MCode :=
 .seq
  (.reg [
     ⟨(some 2), none, .box 2 (.t 0)⟩,
     ⟨(some 3), none, .box 2 (.t 1)⟩,
     ⟨(some 4), none, .alloc [.i .i64 0, .nl 2]⟩] [2, 3, 4])
  (.seq
  (.reg [
     ⟨(some 5), none, .load true 2 (.t 2)⟩,
     ⟨(some 6), none, .mkfn fid_impl_Graph_cut_1 [] [(.t 3)]⟩,
     ⟨(some 7), none, .call fid_impl_Graph_without false [.im, .fn] [(.t 5), (.t 6)]⟩,
     ⟨none, none, .store 2 (.t 4) (.t 7)⟩] [4])
  (.ret))
theorem get_impl_Graph_cut : Go.Proofs.Try.prog.funcs[fid_impl_Graph_cut]? = some Go.Proofs.Try.f98 := Go.Proofs.Try.func98
theorem ok_impl_Graph_cut : okFn Go.Proofs.Try.prog Go.Proofs.Try.f98 8 [] [(4, some (true, 2))] mc_impl_Graph_cut = true := by kernel_rfl
def mc_slices_ContainsFunc_int_int : MCode :=
 .seq
  (.reg [
     ⟨(some 4), none, .mov (.v (.b false))⟩] [0, 1])
  (.seq
  (.reg [
     ⟨(some 5), none, .mov (.t 0)⟩,
     ⟨(some 6), none, .mov (.t 1)⟩,
     ⟨(some 7), none, .call fid_slices_IndexFunc_int_int false [.im, .fn] [(.t 5), (.t 6)]⟩,
     ⟨(some 8), none, .bin .geq (.t 7) (.v (.i .i64 0))⟩,
     ⟨(some 4), none, .mov (.t 8)⟩] [4])
  (.ret))
theorem get_slices_ContainsFunc_int_int : Go.Proofs.Try.prog.funcs[fid_slices_ContainsFunc_int_int]? = some Go.Proofs.Try.f101 := Go.Proofs.Try.func101
theorem ok_slices_ContainsFunc_int_int : okFn Go.Proofs.Try.prog Go.Proofs.Try.f101 9 [] [(4, none)] mc_slices_ContainsFunc_int_int = true := by kernel_rfl
def mc_impl_ChainEdges_1 : MCode :=
 .seq
  (.reg [
     ⟨(some 2), none, .mov (.v (.b false))⟩] [0])
  (.seq
  (.reg [
     ⟨(some 3), none, .mov (.t 0)⟩,
     ⟨(some 4), none, .call fid_impl_isNode false [.im] [(.t 3)]⟩,
     ⟨(some 5), none, .un .not (.t 4)⟩,
     ⟨(some 2), none, .mov (.t 5)⟩] [2])
  (.ret))
theorem get_impl_ChainEdges_1 : Go.Proofs.Try.prog.funcs[fid_impl_ChainEdges_1]? = some Go.Proofs.Try.f102 := Go.Proofs.Try.func102
theorem ok_impl_ChainEdges_1 : okFn Go.Proofs.Try.prog Go.Proofs.Try.f102 6 [] [(2, none)] mc_impl_ChainEdges_1 = true := by kernel_rfl
def mc_impl_isNode : MCode :=
 .seq
  (.reg [
     ⟨(some 2), none, .mov (.v (.b false))⟩] [0])
  (.seq
  (.reg [
     ⟨(some 3), none, .mov (.t 0)⟩,
     ⟨(some 4), none, .bin .geq (.t 3) (.v (.i .i64 0))⟩,
     ⟨(some 5), none, .mov (.t 4)⟩,
     ⟨(some 6), (some (5, true)), .mov (.t 0)⟩,
     ⟨(some 7), (some (5, true)), .bin .lss (.t 6) (.v (.i .i64 16))⟩,
     ⟨(some 8), none, .pick (.t 5) (.t 7) (.v (.b false))⟩,
     ⟨(some 2), none, .mov (.t 8)⟩] [2])
  (.ret))
theorem get_impl_isNode : Go.Proofs.Try.prog.funcs[fid_impl_isNode]? = some Go.Proofs.Try.f103 := Go.Proofs.Try.func103
theorem ok_impl_isNode : okFn Go.Proofs.Try.prog Go.Proofs.Try.f103 9 [] [(2, none)] mc_impl_isNode = true := by kernel_rfl
def mc_impl_steps : MCode :=
 .seq
  (.reg [
     ⟨(some 2), none, .mov (.v (.nl 2))⟩,
     ⟨(some 3), none, .mov (.v (.b false))⟩] [0])
  (.seq
  (.reg [
     ⟨(some 8), none, .buildSlice 2 []⟩,
     ⟨(some 4), none, .mov (.t 8)⟩] [0, 4])
  (.seq
  (.seq
   (.reg [
      ⟨(some 5), none, .mov (.v (.i .i64 1))⟩] [0, 4, 5])
   (.block 0
   (.loop [0, 4, 5]
    (.seq
     (.seq
      (.reg [
         ⟨(some 9), none, .mov (.t 5)⟩,
         ⟨(some 10), none, .mov (.t 0)⟩,
         ⟨(some 11), none, .len (.t 10)⟩,
         ⟨(some 12), none, .bin .lss (.t 9) (.t 11)⟩] [0, 4, 5, 12])
      (.cond (.t 12)
      (.skip)
      (.exit 0)))
     (.seq
     (.block 1
      (.seq
       (.draw [0, 0, 2, 7, 15, 0, 0, 96, 224, 511, 1023, 2047, 2047, 0, 12287, 32767] [
          ⟨(some 16), none, .mov (.t 0)⟩,
          ⟨(some 17), none, .mov (.t 5)⟩,
          ⟨(some 18), none, .bin .sub (.t 17) (.v (.i .i64 1))⟩,
          ⟨(some 19), none, .indexAddr 1 (.t 16) (.t 18)⟩,
          ⟨(some 20), none, .load false 1 (.t 19)⟩,
          ⟨(some 21), none, .mov (.t 0)⟩,
          ⟨(some 22), none, .mov (.t 5)⟩,
          ⟨(some 23), none, .indexAddr 1 (.t 21) (.t 22)⟩,
          ⟨(some 24), none, .load false 1 (.t 23)⟩,
          ⟨(some 25), none, .call fid_impl_EdgeOf false [.im, .im] [(.t 20), (.t 24)]⟩,
          ⟨(some 15), none, .mov (.t 25)⟩,
          ⟨(some 26), none, .extract (.t 15) 0⟩,
          ⟨(some 27), none, .extract (.t 15) 1⟩,
          ⟨(some 6), none, .alloc [.i .i64 0, .i .i64 0]⟩,
          ⟨none, none, .store 2 (.t 6) (.t 26)⟩,
          ⟨(some 7), none, .mov (.t 27)⟩] [0, 4, 5, 6, 7])
       (.seq
       (.seq
        (.reg [
           ⟨(some 28), none, .mov (.t 7)⟩,
           ⟨(some 29), none, .un .not (.t 28)⟩] [0, 4, 5, 6, 29])
        (.cond (.t 29)
        (.seq
         (.reg [
            ⟨(some 2), none, .mov (.v (.nl 2))⟩,
            ⟨(some 3), none, .mov (.v (.b false))⟩] [2, 3])
         (.ret))
        (.skip)))
       (.reg [
         ⟨(some 30), none, .mov (.t 4)⟩,
         ⟨(some 31), none, .load true 2 (.t 6)⟩,
         ⟨(some 32), none, .buildSlice 2 [(.t 31)]⟩,
         ⟨(some 33), none, .append 2 16 true (.t 30) (.t 32)⟩,
         ⟨(some 4), none, .mov (.t 33)⟩] [0, 4, 5]))))
     (.reg [
       ⟨(some 13), none, .mov (.t 5)⟩,
       ⟨(some 14), none, .bin .add (.t 13) (.v (.i .i64 1))⟩,
       ⟨(some 5), none, .mov (.t 14)⟩] [0, 4, 5]))))))
  (.seq
  (.reg [
     ⟨(some 34), none, .mov (.t 4)⟩,
     ⟨(some 2), none, .mov (.t 34)⟩,
     ⟨(some 3), none, .mov (.v (.b true))⟩] [2, 3])
  (.ret))))
theorem get_impl_steps : Go.Proofs.Try.prog.funcs[fid_impl_steps]? = some Go.Proofs.Try.f104 := Go.Proofs.Try.func104
theorem ok_impl_steps : okFn Go.Proofs.Try.prog Go.Proofs.Try.f104 35 [] [(2, none), (3, none)] mc_impl_steps = true := by kernel_rfl
def mc_impl_TurnEdge : MCode :=
 .seq
  (.reg [
     ⟨(some 2), none, .box 2 (.t 0)⟩,
     ⟨(some 3), none, .box 2 (.t 1)⟩,
     ⟨(some 4), none, .alloc [.i .i64 0, .nl 2]⟩,
     ⟨(some 5), none, .mov (.v (.b false))⟩] [2, 3, 4])
  (.seq
  (.seq
   (.reg [
      ⟨(some 6), none, .load true 2 (.t 2)⟩,
      ⟨(some 7), none, .load true 2 (.t 3)⟩,
      ⟨(some 8), none, .call fid_impl_HasEdge false [.im, .im] [(.t 6), (.t 7)]⟩] [2, 3, 4, 8])
   (.cond (.t 8)
   (.seq
    (.reg [
       ⟨(some 9), none, .load true 2 (.t 2)⟩,
       ⟨(some 10), none, .load true 2 (.t 3)⟩,
       ⟨(some 11), none, .call fid_impl_CutEdge false [.im, .im] [(.t 9), (.t 10)]⟩,
       ⟨(some 12), none, .extract (.t 11) 0⟩,
       ⟨(some 13), none, .extract (.t 11) 1⟩,
       ⟨none, none, .store 2 (.t 4) (.t 12)⟩,
       ⟨(some 5), none, .mov (.t 13)⟩] [4, 5])
    (.ret))
   (.skip)))
  (.seq
  (.reg [
     ⟨(some 14), none, .load true 2 (.t 2)⟩,
     ⟨(some 15), none, .load true 2 (.t 3)⟩,
     ⟨(some 16), none, .call fid_impl_PutEdge false [.im, .im] [(.t 14), (.t 15)]⟩,
     ⟨(some 17), none, .extract (.t 16) 0⟩,
     ⟨(some 18), none, .extract (.t 16) 1⟩,
     ⟨none, none, .store 2 (.t 4) (.t 17)⟩,
     ⟨(some 5), none, .mov (.t 18)⟩] [4, 5])
  (.ret)))
theorem get_impl_TurnEdge : Go.Proofs.Try.prog.funcs[fid_impl_TurnEdge]? = some Go.Proofs.Try.f109 := Go.Proofs.Try.func109
theorem ok_impl_TurnEdge : okFn Go.Proofs.Try.prog Go.Proofs.Try.f109 19 [] [(4, some (true, 2)), (5, none)] mc_impl_TurnEdge = true := by kernel_rfl
def mc_cmp_Or_int : MCode :=
 .seq
  (.reg [
     ⟨(some 2), none, .mov (.v (.i .i64 0))⟩] [0])
  (.seq
  (.reg [
     ⟨(some 3), none, .mov (.v (.i .i64 0))⟩] [0, 3])
  (.seq
  (.seq
   (.reg [
      ⟨(some 6), none, .mov (.t 0)⟩,
      ⟨(some 7), none, .len (.t 6)⟩,
      ⟨(some 8), none, .mov (.v (.i .i64 0))⟩] [3, 6, 7, 8])
   (.block 0
   (.loop [3, 6, 7, 8]
    (.seq
     (.reg [
        ⟨(some 9), none, .bin .lss (.t 8) (.t 7)⟩] [3, 6, 7, 8, 9])
     (.seq
     (.cond (.t 9)
      (.skip)
      (.exit 0))
     (.seq
     (.block 1
      (.seq
       (.reg [
          ⟨(some 10), none, .indexAddr 1 (.t 6) (.t 8)⟩,
          ⟨(some 11), none, .load false 1 (.t 10)⟩,
          ⟨(some 5), none, .mov (.t 11)⟩] [3, 5, 6, 7, 8])
       (.seq
       (.reg [
          ⟨(some 12), none, .mov (.t 5)⟩,
          ⟨(some 13), none, .mov (.t 3)⟩,
          ⟨(some 14), none, .bin .neq (.t 12) (.t 13)⟩] [3, 5, 6, 7, 8, 14])
       (.cond (.t 14)
       (.seq
        (.reg [
           ⟨(some 15), none, .mov (.t 5)⟩,
           ⟨(some 2), none, .mov (.t 15)⟩] [2])
        (.ret))
       (.skip)))))
     (.reg [
       ⟨(some 16), none, .bin .add (.t 8) (.v (.i .i64 1))⟩,
       ⟨(some 8), none, .mov (.t 16)⟩] [3, 6, 7, 8])))))))
  (.seq
  (.reg [
     ⟨(some 17), none, .mov (.t 3)⟩,
     ⟨(some 2), none, .mov (.t 17)⟩] [2])
  (.ret))))
theorem get_cmp_Or_int : Go.Proofs.Try.prog.funcs[fid_cmp_Or_int]? = some Go.Proofs.Try.f112 := Go.Proofs.Try.func112
theorem ok_cmp_Or_int : okFn Go.Proofs.Try.prog Go.Proofs.Try.f112 18 [] [(2, none)] mc_cmp_Or_int = true := by kernel_rfl
def mc_cmp_Compare_int : MCode :=
 .seq
  (.reg [
     ⟨(some 4), none, .mov (.v (.i .i64 0))⟩] [0, 1])
  (.seq
  (.reg [
     ⟨(some 7), none, .mov (.t 0)⟩,
     ⟨(some 8), none, .call fid_cmp_isNaN_int false [.im] [(.t 7)]⟩,
     ⟨(some 5), none, .mov (.t 8)⟩] [0, 1, 5])
  (.seq
  (.reg [
     ⟨(some 9), none, .mov (.t 1)⟩,
     ⟨(some 10), none, .call fid_cmp_isNaN_int false [.im] [(.t 9)]⟩,
     ⟨(some 6), none, .mov (.t 10)⟩] [0, 1, 5, 6])
  (.seq
  (.seq
   (.reg [
      ⟨(some 11), none, .mov (.t 5)⟩] [0, 1, 6, 11])
   (.cond (.t 11)
   (.seq
    (.seq
     (.reg [
        ⟨(some 12), none, .mov (.t 6)⟩] [12])
     (.cond (.t 12)
     (.seq
      (.reg [
         ⟨(some 4), none, .mov (.v (.i .i64 0))⟩] [4])
      (.ret))
     (.skip)))
    (.seq
    (.reg [
       ⟨(some 4), none, .mov (.v (.i .i64 (-1)))⟩] [4])
    (.ret)))
   (.skip)))
  (.seq
  (.seq
   (.reg [
      ⟨(some 13), none, .mov (.t 6)⟩] [0, 1, 13])
   (.cond (.t 13)
   (.seq
    (.reg [
       ⟨(some 4), none, .mov (.v (.i .i64 1))⟩] [4])
    (.ret))
   (.skip)))
  (.seq
  (.seq
   (.reg [
      ⟨(some 14), none, .mov (.t 0)⟩,
      ⟨(some 15), none, .mov (.t 1)⟩,
      ⟨(some 16), none, .bin .lss (.t 14) (.t 15)⟩] [0, 1, 16])
   (.cond (.t 16)
   (.seq
    (.reg [
       ⟨(some 4), none, .mov (.v (.i .i64 (-1)))⟩] [4])
    (.ret))
   (.skip)))
  (.seq
  (.seq
   (.reg [
      ⟨(some 17), none, .mov (.t 0)⟩,
      ⟨(some 18), none, .mov (.t 1)⟩,
      ⟨(some 19), none, .bin .gtr (.t 17) (.t 18)⟩] [19])
   (.cond (.t 19)
   (.seq
    (.reg [
       ⟨(some 4), none, .mov (.v (.i .i64 1))⟩] [4])
    (.ret))
   (.skip)))
  (.seq
  (.reg [
     ⟨(some 4), none, .mov (.v (.i .i64 0))⟩] [4])
  (.ret))))))))
theorem get_cmp_Compare_int : Go.Proofs.Try.prog.funcs[fid_cmp_Compare_int]? = some Go.Proofs.Try.f113 := Go.Proofs.Try.func113
theorem ok_cmp_Compare_int : okFn Go.Proofs.Try.prog Go.Proofs.Try.f113 20 [] [(4, none)] mc_cmp_Compare_int = true := by kernel_rfl
def mc_slices_overlaps_impl_Edge : MCode :=
 .skip
theorem get_slices_overlaps_impl_Edge : Go.Proofs.Try.prog.funcs[fid_slices_overlaps_impl_Edge]? = some Go.Proofs.Try.f114 := Go.Proofs.Try.func114
abbrev ovT_slices_overlaps_impl_Edge : Nat := 28
abbrev ovR_slices_overlaps_impl_Edge : Nat := 4
abbrev ove_slices_overlaps_impl_Edge : Nat := 47
def mc_slices_rotateRight_impl_Edge : MCode :=
 .reg [
    ⟨(some 4), none, .mov (.t 0)⟩,
    ⟨(some 5), none, .mov (.t 0)⟩,
    ⟨(some 6), none, .len (.t 5)⟩,
    ⟨(some 7), none, .mov (.t 1)⟩,
    ⟨(some 8), none, .bin .sub (.t 6) (.t 7)⟩,
    ⟨(some 9), none, .call fid_slices_rotateLeft_impl_Edge false [.im, .im] [(.t 4), (.t 8)]⟩] []
theorem get_slices_rotateRight_impl_Edge : Go.Proofs.Try.prog.funcs[fid_slices_rotateRight_impl_Edge]? = some Go.Proofs.Try.f115 := Go.Proofs.Try.func115
theorem ok_slices_rotateRight_impl_Edge : okFn Go.Proofs.Try.prog Go.Proofs.Try.f115 10 [] [] mc_slices_rotateRight_impl_Edge = true := by kernel_rfl
def mc_impl_bridgesOnly_1 : MCode :=
 .seq
  (.reg [
     ⟨(some 3), none, .box 2 (.t 0)⟩,
     ⟨(some 4), none, .mov (.v (.b false))⟩] [1, 2, 3])
  (.seq
  (.reg [
     ⟨(some 5), none, .load true 2 (.t 1)⟩,
     ⟨(some 6), none, .load true 2 (.t 3)⟩,
     ⟨(some 7), none, .call fid_impl_Graph_isBridge false [.im, .im] [(.t 5), (.t 6)]⟩,
     ⟨(some 8), none, .mov (.t 7)⟩,
     ⟨(some 9), (some (8, true)), .load true 2 (.t 2)⟩,
     ⟨(some 10), (some (8, true)), .load true 2 (.t 3)⟩,
     ⟨(some 11), (some (8, true)), .call fid_impl_Graph_has false [.im, .im] [(.t 9), (.t 10)]⟩,
     ⟨(some 12), (some (8, true)), .mov (.t 11)⟩,
     ⟨(some 13), (some (12, true)), .load true 2 (.t 2)⟩,
     ⟨(some 14), (some (12, true)), .load true 2 (.t 3)⟩,
     ⟨(some 15), (some (12, true)), .call fid_impl_Graph_isBridge false [.im, .im] [(.t 13), (.t 14)]⟩,
     ⟨(some 16), (some (8, true)), .pick (.t 12) (.t 15) (.v (.b false))⟩,
     ⟨(some 17), (some (8, true)), .un .not (.t 16)⟩,
     ⟨(some 18), none, .pick (.t 8) (.t 17) (.v (.b false))⟩,
     ⟨(some 4), none, .mov (.t 18)⟩] [4])
  (.ret))
theorem get_impl_bridgesOnly_1 : Go.Proofs.Try.prog.funcs[fid_impl_bridgesOnly_1]? = some Go.Proofs.Try.f117 := Go.Proofs.Try.func117
theorem ok_impl_bridgesOnly_1 : okFn Go.Proofs.Try.prog Go.Proofs.Try.f117 19 [] [(4, none)] mc_impl_bridgesOnly_1 = true := by kernel_rfl
def mc_impl_Graph_has : MCode :=
 .seq
  (.reg [
     ⟨(some 2), none, .box 2 (.t 0)⟩,
     ⟨(some 3), none, .box 2 (.t 1)⟩,
     ⟨(some 4), none, .mov (.v (.b false))⟩] [2, 3])
  (.seq
  (.reg [
     ⟨(some 5), none, .fieldAddr 1 (.t 2)⟩,
     ⟨(some 6), none, .load false 1 (.t 5)⟩,
     ⟨(some 7), none, .load true 2 (.t 3)⟩,
     ⟨(some 8), none, .call fid_slices_Contains_impl_Edge_impl_Edge false [.im, .im] [(.t 6), (.t 7)]⟩,
     ⟨(some 4), none, .mov (.t 8)⟩] [4])
  (.ret))
theorem get_impl_Graph_has : Go.Proofs.Try.prog.funcs[fid_impl_Graph_has]? = some Go.Proofs.Try.f118 := Go.Proofs.Try.func118
theorem ok_impl_Graph_has : okFn Go.Proofs.Try.prog Go.Proofs.Try.f118 9 [] [(4, none)] mc_impl_Graph_has = true := by kernel_rfl
def mc_impl_Graph_edgesBy_1 : MCode :=
 .seq
  (.reg [
     ⟨(some 2), none, .box 2 (.t 0)⟩,
     ⟨(some 3), none, .mov (.v (.b false))⟩] [1, 2])
  (.seq
  (.reg [
     ⟨(some 4), none, .load false 1 (.t 1)⟩,
     ⟨(some 5), none, .load true 2 (.t 2)⟩,
     ⟨(some 6), none, .callv (.t 4) [(.t 5)]⟩,
     ⟨(some 7), none, .un .not (.t 6)⟩,
     ⟨(some 3), none, .mov (.t 7)⟩] [3])
  (.ret))
theorem get_impl_Graph_edgesBy_1 : Go.Proofs.Try.prog.funcs[fid_impl_Graph_edgesBy_1]? = some Go.Proofs.Try.f119 := Go.Proofs.Try.func119
theorem ok_impl_Graph_edgesBy_1 : okFn Go.Proofs.Try.prog Go.Proofs.Try.f119 8 [] [(3, none)] mc_impl_Graph_edgesBy_1 = true := by kernel_rfl
def mc_impl_Graph_connected : MCode :=
 .seq
  (.reg [
     ⟨(some 3), none, .box 2 (.t 0)⟩,
     ⟨(some 6), none, .mov (.v (.b false))⟩] [1, 2, 3])
  (.seq
  (.reg [
     ⟨(some 8), none, .load true 2 (.t 3)⟩,
     ⟨(some 9), none, .call fid_impl_Graph_parts false [.im] [(.t 8)]⟩,
     ⟨(some 7), none, .mov (.t 9)⟩] [1, 2, 7])
  (.seq
  (.draw [0, 0, 3, 7, 0, 0, 48, 112, 255, 511] [
     ⟨(some 10), none, .mov (.t 7)⟩,
     ⟨(some 11), none, .mov (.t 1)⟩,
     ⟨(some 12), none, .indexAddr 1 (.t 10) (.t 11)⟩,
     ⟨(some 13), none, .load false 1 (.t 12)⟩,
     ⟨(some 14), none, .mov (.t 7)⟩,
     ⟨(some 15), none, .mov (.t 2)⟩,
     ⟨(some 16), none, .indexAddr 1 (.t 14) (.t 15)⟩,
     ⟨(some 17), none, .load false 1 (.t 16)⟩,
     ⟨(some 18), none, .bin .eql (.t 13) (.t 17)⟩,
     ⟨(some 6), none, .mov (.t 18)⟩] [6])
  (.ret)))
theorem get_impl_Graph_connected : Go.Proofs.Try.prog.funcs[fid_impl_Graph_connected]? = some Go.Proofs.Try.f120 := Go.Proofs.Try.func120
theorem ok_impl_Graph_connected : okFn Go.Proofs.Try.prog Go.Proofs.Try.f120 19 [] [(6, none)] mc_impl_Graph_connected = true := by kernel_rfl
def mc_slices_DeleteFunc_impl_Edge_impl_Edge : MCode :=
 .seq
  (.reg [
     ⟨(some 4), none, .mov (.v (.nl 2))⟩] [0, 1])
  (.seq
  (.reg [
     ⟨(some 8), none, .mov (.t 0)⟩,
     ⟨(some 9), none, .mov (.t 1)⟩,
     ⟨(some 10), none, .call fid_slices_IndexFunc_impl_Edge_impl_Edge false [.im, .fn] [(.t 8), (.t 9)]⟩,
     ⟨(some 5), none, .mov (.t 10)⟩] [0, 1, 5])
  (.seq
  (.seq
   (.reg [
      ⟨(some 11), none, .mov (.t 5)⟩,
      ⟨(some 12), none, .bin .eql (.t 11) (.v (.i .i64 (-1)))⟩] [0, 1, 5, 12])
   (.cond (.t 12)
   (.seq
    (.reg [
       ⟨(some 13), none, .mov (.t 0)⟩,
       ⟨(some 4), none, .mov (.t 13)⟩] [4])
    (.ret))
   (.skip)))
  (.seq
  (.seq
   (.reg [
      ⟨(some 14), none, .mov (.t 5)⟩,
      ⟨(some 15), none, .bin .add (.t 14) (.v (.i .i64 1))⟩,
      ⟨(some 6), none, .mov (.t 15)⟩] [0, 1, 5, 6])
   (.block 0
   (.loop [0, 1, 5, 6]
    (.seq
     (.seq
      (.reg [
         ⟨(some 16), none, .mov (.t 6)⟩,
         ⟨(some 17), none, .mov (.t 0)⟩,
         ⟨(some 18), none, .len (.t 17)⟩,
         ⟨(some 19), none, .bin .lss (.t 16) (.t 18)⟩] [0, 1, 5, 6, 19])
      (.cond (.t 19)
      (.skip)
      (.exit 0)))
     (.seq
     (.block 1
      (.seq
       (.reg [
          ⟨(some 22), none, .mov (.t 0)⟩,
          ⟨(some 23), none, .mov (.t 6)⟩,
          ⟨(some 24), none, .indexAddr 2 (.t 22) (.t 23)⟩,
          ⟨(some 25), none, .load true 2 (.t 24)⟩,
          ⟨(some 7), none, .alloc [.i .i64 0, .i .i64 0]⟩,
          ⟨none, none, .store 2 (.t 7) (.t 25)⟩] [0, 1, 5, 6, 7])
       (.seq
       (.reg [
          ⟨(some 26), none, .mov (.t 1)⟩,
          ⟨(some 27), none, .load true 2 (.t 7)⟩,
          ⟨(some 28), none, .callv (.t 26) [(.t 27)]⟩,
          ⟨(some 29), none, .un .not (.t 28)⟩] [0, 1, 5, 6, 7, 29])
       (.cond (.t 29)
       (.seq
        (.reg [
           ⟨(some 30), none, .mov (.t 0)⟩,
           ⟨(some 31), none, .mov (.t 5)⟩,
           ⟨(some 32), none, .load true 2 (.t 7)⟩,
           ⟨(some 33), none, .indexAddr 2 (.t 30) (.t 31)⟩,
           ⟨none, none, .store 2 (.t 33) (.t 32)⟩] [0, 1, 5, 6])
        (.reg [
          ⟨(some 34), none, .mov (.t 5)⟩,
          ⟨(some 35), none, .bin .add (.t 34) (.v (.i .i64 1))⟩,
          ⟨(some 5), none, .mov (.t 35)⟩] [0, 1, 5, 6]))
       (.skip)))))
     (.reg [
       ⟨(some 20), none, .mov (.t 6)⟩,
       ⟨(some 21), none, .bin .add (.t 20) (.v (.i .i64 1))⟩,
       ⟨(some 6), none, .mov (.t 21)⟩] [0, 1, 5, 6]))))))
  (.seq
  (.reg [
     ⟨(some 36), none, .mov (.t 0)⟩,
     ⟨(some 37), none, .mov (.t 5)⟩,
     ⟨(some 38), none, .slice 2 (.t 36) (some (.t 37)) none⟩,
     ⟨none, none, .clear 2 [.i .i64 0, .i .i64 0] (.t 38)⟩] [0, 5])
  (.seq
  (.reg [
     ⟨(some 39), none, .mov (.t 0)⟩,
     ⟨(some 40), none, .mov (.t 5)⟩,
     ⟨(some 41), none, .slice 2 (.t 39) none (some (.t 40))⟩,
     ⟨(some 4), none, .mov (.t 41)⟩] [4])
  (.ret))))))
theorem get_slices_DeleteFunc_impl_Edge_impl_Edge : Go.Proofs.Try.prog.funcs[fid_slices_DeleteFunc_impl_Edge_impl_Edge]? = some Go.Proofs.Try.f122 := Go.Proofs.Try.func122
theorem ok_slices_DeleteFunc_impl_Edge_impl_Edge : okFn Go.Proofs.Try.prog Go.Proofs.Try.f122 42 [] [(4, none)] mc_slices_DeleteFunc_impl_Edge_impl_Edge = true := by kernel_rfl
def mc_slices_Index_impl_Edge_impl_Edge : MCode :=
 .seq
  (.reg [
     ⟨(some 3), none, .box 2 (.t 1)⟩,
     ⟨(some 4), none, .mov (.v (.i .i64 0))⟩] [0, 3])
  (.seq
  (.seq
   (.reg [
      ⟨(some 6), none, .mov (.t 0)⟩,
      ⟨(some 7), none, .len (.t 6)⟩,
      ⟨(some 8), none, .mov (.v (.i .i64 0))⟩] [0, 3, 7, 8])
   (.block 0
   (.loop [0, 3, 7, 8]
    (.seq
     (.reg [
        ⟨(some 9), none, .bin .lss (.t 8) (.t 7)⟩] [0, 3, 7, 8, 9])
     (.seq
     (.cond (.t 9)
      (.skip)
      (.exit 0))
     (.seq
     (.block 1
      (.seq
       (.reg [
          ⟨(some 10), none, .mov (.t 8)⟩,
          ⟨(some 5), none, .mov (.t 10)⟩] [0, 3, 5, 7, 8])
       (.seq
       (.draw [0, 0, 0, 6, 14, 31] [
          ⟨(some 11), none, .load true 2 (.t 3)⟩,
          ⟨(some 12), none, .mov (.t 0)⟩,
          ⟨(some 13), none, .mov (.t 5)⟩,
          ⟨(some 14), none, .indexAddr 2 (.t 12) (.t 13)⟩,
          ⟨(some 15), none, .load true 2 (.t 14)⟩,
          ⟨(some 16), none, .eqAgg false [true, true] (.t 11) (.t 15)⟩] [0, 3, 5, 7, 8, 16])
       (.cond (.t 16)
       (.seq
        (.reg [
           ⟨(some 17), none, .mov (.t 5)⟩,
           ⟨(some 4), none, .mov (.t 17)⟩] [4])
        (.ret))
       (.skip)))))
     (.reg [
       ⟨(some 18), none, .bin .add (.t 8) (.v (.i .i64 1))⟩,
       ⟨(some 8), none, .mov (.t 18)⟩] [0, 3, 7, 8])))))))
  (.seq
  (.reg [
     ⟨(some 4), none, .mov (.v (.i .i64 (-1)))⟩] [4])
  (.ret)))
theorem get_slices_Index_impl_Edge_impl_Edge : Go.Proofs.Try.prog.funcs[fid_slices_Index_impl_Edge_impl_Edge]? = some Go.Proofs.Try.f123 := Go.Proofs.Try.func123
theorem ok_slices_Index_impl_Edge_impl_Edge : okFn Go.Proofs.Try.prog Go.Proofs.Try.f123 19 [] [(4, none)] mc_slices_Index_impl_Edge_impl_Edge = true := by kernel_rfl
def mc_impl_Graph_cut_1 : MCode :=
 .seq
  (.reg [
     ⟨(some 2), none, .box 2 (.t 0)⟩,
     ⟨(some 3), none, .mov (.v (.b false))⟩] [1, 2])
  (.seq
  (.reg [
     ⟨(some 4), none, .load true 2 (.t 2)⟩,
     ⟨(some 5), none, .load true 2 (.t 1)⟩,
     ⟨(some 6), none, .eqAgg false [true, true] (.t 4) (.t 5)⟩,
     ⟨(some 3), none, .mov (.t 6)⟩] [3])
  (.ret))
theorem get_impl_Graph_cut_1 : Go.Proofs.Try.prog.funcs[fid_impl_Graph_cut_1]? = some Go.Proofs.Try.f124 := Go.Proofs.Try.func124
theorem ok_impl_Graph_cut_1 : okFn Go.Proofs.Try.prog Go.Proofs.Try.f124 7 [] [(3, none)] mc_impl_Graph_cut_1 = true := by kernel_rfl
def mc_slices_IndexFunc_int_int : MCode :=
 .seq
  (.reg [
     ⟨(some 4), none, .mov (.v (.i .i64 0))⟩] [0, 1])
  (.seq
  (.seq
   (.reg [
      ⟨(some 6), none, .mov (.t 0)⟩,
      ⟨(some 7), none, .len (.t 6)⟩,
      ⟨(some 8), none, .mov (.v (.i .i64 0))⟩] [0, 1, 7, 8])
   (.block 0
   (.loop [0, 1, 7, 8]
    (.seq
     (.reg [
        ⟨(some 9), none, .bin .lss (.t 8) (.t 7)⟩] [0, 1, 7, 8, 9])
     (.seq
     (.cond (.t 9)
      (.skip)
      (.exit 0))
     (.seq
     (.block 1
      (.seq
       (.reg [
          ⟨(some 10), none, .mov (.t 8)⟩,
          ⟨(some 5), none, .mov (.t 10)⟩] [0, 1, 5, 7, 8])
       (.seq
       (.reg [
          ⟨(some 11), none, .mov (.t 1)⟩,
          ⟨(some 12), none, .mov (.t 0)⟩,
          ⟨(some 13), none, .mov (.t 5)⟩,
          ⟨(some 14), none, .indexAddr 1 (.t 12) (.t 13)⟩,
          ⟨(some 15), none, .load false 1 (.t 14)⟩,
          ⟨(some 16), none, .callv (.t 11) [(.t 15)]⟩] [0, 1, 5, 7, 8, 16])
       (.cond (.t 16)
       (.seq
        (.reg [
           ⟨(some 17), none, .mov (.t 5)⟩,
           ⟨(some 4), none, .mov (.t 17)⟩] [4])
        (.ret))
       (.skip)))))
     (.reg [
       ⟨(some 18), none, .bin .add (.t 8) (.v (.i .i64 1))⟩,
       ⟨(some 8), none, .mov (.t 18)⟩] [0, 1, 7, 8])))))))
  (.seq
  (.reg [
     ⟨(some 4), none, .mov (.v (.i .i64 (-1)))⟩] [4])
  (.ret)))
theorem get_slices_IndexFunc_int_int : Go.Proofs.Try.prog.funcs[fid_slices_IndexFunc_int_int]? = some Go.Proofs.Try.f126 := Go.Proofs.Try.func126
theorem ok_slices_IndexFunc_int_int : okFn Go.Proofs.Try.prog Go.Proofs.Try.f126 19 [] [(4, none)] mc_slices_IndexFunc_int_int = true := by kernel_rfl
def mc_impl_PutEdge : MCode :=
 .seq
  (.reg [
     ⟨(some 2), none, .box 2 (.t 0)⟩,
     ⟨(some 3), none, .box 2 (.t 1)⟩,
     ⟨(some 4), none, .alloc [.i .i64 0, .nl 2]⟩,
     ⟨(some 5), none, .mov (.v (.b false))⟩] [2, 3, 4])
  (.seq
  (.seq
   (.reg [
      ⟨(some 9), none, .load true 2 (.t 2)⟩,
      ⟨(some 10), none, .call fid_impl_GraphValid false [.im] [(.t 9)]⟩,
      ⟨(some 11), none, .un .not (.t 10)⟩,
      ⟨(some 12), none, .mov (.t 11)⟩,
      ⟨(some 13), (some (12, false)), .load true 2 (.t 2)⟩,
      ⟨(some 14), (some (12, false)), .load true 2 (.t 3)⟩,
      ⟨(some 15), (some (12, false)), .call fid_impl_Graph_has false [.im, .im] [(.t 13), (.t 14)]⟩,
      ⟨(some 16), none, .pick (.t 12) (.v (.b true)) (.t 15)⟩] [2, 3, 4, 16])
   (.cond (.t 16)
   (.seq
    (.reg [
       ⟨(some 17), none, .build [.i .i64 0, .nl 2] []⟩,
       ⟨none, none, .store 2 (.t 4) (.t 17)⟩,
       ⟨(some 5), none, .mov (.v (.b false))⟩] [4, 5])
    (.ret))
   (.skip)))
  (.seq
  (.reg [
     ⟨(some 19), none, .fieldAddr 1 (.t 2)⟩,
     ⟨(some 20), none, .load false 1 (.t 19)⟩,
     ⟨(some 21), none, .load true 2 (.t 3)⟩,
     ⟨(some 22), none, .call fid_slices_BinarySearchFunc_impl_Edge_impl_Edge_impl_Edge false [.im, .im, .fn] [(.t 20), (.t 21), (.v (.clo fid_impl_compareEdges [] []))]⟩,
     ⟨(some 18), none, .mov (.t 22)⟩,
     ⟨(some 23), none, .extract (.t 18) 0⟩,
     ⟨(some 24), none, .extract (.t 18) 1⟩,
     ⟨(some 6), none, .mov (.t 23)⟩,
     ⟨(some 7), none, .mov (.t 24)⟩] [2, 3, 4, 6])
  (.seq
  (.draw [0, 1, 0, 4, 12, 0, 0, 64, 252, 511, 0, 2047] [
     ⟨(some 25), none, .fieldAddr 0 (.t 2)⟩,
     ⟨(some 26), none, .load false 1 (.t 25)⟩,
     ⟨(some 27), none, .fieldAddr 1 (.t 2)⟩,
     ⟨(some 28), none, .load false 1 (.t 27)⟩,
     ⟨(some 29), none, .call fid_slices_Clone_impl_Edge_impl_Edge false [.im] [(.t 28)]⟩,
     ⟨(some 30), none, .mov (.t 6)⟩,
     ⟨(some 31), none, .load true 2 (.t 3)⟩,
     ⟨(some 32), none, .buildSlice 2 [(.t 31)]⟩,
     ⟨(some 33), none, .call fid_slices_Insert_impl_Edge_impl_Edge false [.co, .im, .co] [(.t 29), (.t 30), (.t 32)]⟩,
     ⟨(some 34), none, .build [.i .i64 0, .nl 2] [(0, 1, (.t 26)), (1, 1, (.t 33))]⟩,
     ⟨(some 8), none, .alloc [.i .i64 0, .nl 2]⟩,
     ⟨none, none, .store 2 (.t 8) (.t 34)⟩] [4, 8])
  (.seq
  (.seq
   (.reg [
      ⟨(some 35), none, .load true 2 (.t 8)⟩,
      ⟨(some 36), none, .call fid_impl_GraphValid false [.im] [(.t 35)]⟩,
      ⟨(some 37), none, .un .not (.t 36)⟩] [4, 8, 37])
   (.cond (.t 37)
   (.seq
    (.reg [
       ⟨(some 38), none, .build [.i .i64 0, .nl 2] []⟩,
       ⟨none, none, .store 2 (.t 4) (.t 38)⟩,
       ⟨(some 5), none, .mov (.v (.b false))⟩] [4, 5])
    (.ret))
   (.skip)))
  (.seq
  (.reg [
     ⟨(some 39), none, .load true 2 (.t 8)⟩,
     ⟨none, none, .store 2 (.t 4) (.t 39)⟩,
     ⟨(some 5), none, .mov (.v (.b true))⟩] [4, 5])
  (.ret))))))
theorem get_impl_PutEdge : Go.Proofs.Try.prog.funcs[fid_impl_PutEdge]? = some Go.Proofs.Try.f127 := Go.Proofs.Try.func127
theorem ok_impl_PutEdge : okFn Go.Proofs.Try.prog Go.Proofs.Try.f127 40 [] [(4, some (true, 2)), (5, none)] mc_impl_PutEdge = true := by kernel_rfl
def mc_cmp_isNaN_int : MCode :=
 .seq
  (.reg [
     ⟨(some 2), none, .mov (.v (.b false))⟩] [0])
  (.seq
  (.reg [
     ⟨(some 3), none, .mov (.t 0)⟩,
     ⟨(some 4), none, .mov (.t 0)⟩,
     ⟨(some 5), none, .bin .neq (.t 3) (.t 4)⟩,
     ⟨(some 2), none, .mov (.t 5)⟩] [2])
  (.ret))
theorem get_cmp_isNaN_int : Go.Proofs.Try.prog.funcs[fid_cmp_isNaN_int]? = some Go.Proofs.Try.f128 := Go.Proofs.Try.func128
theorem ok_cmp_isNaN_int : okFn Go.Proofs.Try.prog Go.Proofs.Try.f128 6 [] [(2, none)] mc_cmp_isNaN_int = true := by kernel_rfl
def mc_slices_rotateLeft_impl_Edge : MCode :=
 .seq
  (.reg [
     ⟨(some 4), none, .mov (.t 0)⟩,
     ⟨(some 5), none, .mov (.t 1)⟩,
     ⟨(some 6), none, .slice 2 (.t 4) none (some (.t 5))⟩,
     ⟨(some 7), none, .call fid_slices_Reverse_impl_Edge_impl_Edge false [.im] [(.t 6)]⟩] [0, 1])
  (.seq
  (.reg [
     ⟨(some 8), none, .mov (.t 0)⟩,
     ⟨(some 9), none, .mov (.t 1)⟩,
     ⟨(some 10), none, .slice 2 (.t 8) (some (.t 9)) none⟩,
     ⟨(some 11), none, .call fid_slices_Reverse_impl_Edge_impl_Edge false [.im] [(.t 10)]⟩] [0])
  (.reg [
    ⟨(some 12), none, .mov (.t 0)⟩,
    ⟨(some 13), none, .call fid_slices_Reverse_impl_Edge_impl_Edge false [.im] [(.t 12)]⟩] []))
theorem get_slices_rotateLeft_impl_Edge : Go.Proofs.Try.prog.funcs[fid_slices_rotateLeft_impl_Edge]? = some Go.Proofs.Try.f129 := Go.Proofs.Try.func129
theorem ok_slices_rotateLeft_impl_Edge : okFn Go.Proofs.Try.prog Go.Proofs.Try.f129 14 [] [] mc_slices_rotateLeft_impl_Edge = true := by kernel_rfl
def mc_impl_Graph_parts : MCode :=
 .seq
  (.reg [
     ⟨(some 1), none, .box 2 (.t 0)⟩,
     ⟨(some 2), none, .mov (.v (.nl 1))⟩] [1])
  (.seq
  (.reg [
     ⟨(some 8), none, .buildSlice 1 []⟩,
     ⟨(some 3), none, .mov (.t 8)⟩] [1, 3])
  (.seq
  (.seq
   (.reg [
      ⟨(some 9), none, .fieldAddr 0 (.t 1)⟩,
      ⟨(some 10), none, .load false 1 (.t 9)⟩,
      ⟨(some 11), none, .mov (.v (.i .i64 0))⟩] [1, 3, 10, 11])
   (.block 0
   (.loop [1, 3, 10, 11]
    (.seq
     (.reg [
        ⟨(some 12), none, .bin .lss (.t 11) (.t 10)⟩] [1, 3, 10, 11, 12])
     (.seq
     (.cond (.t 12)
      (.skip)
      (.exit 0))
     (.seq
     (.block 1
      (.seq
       (.reg [
          ⟨(some 13), none, .mov (.t 11)⟩,
          ⟨(some 4), none, .mov (.t 13)⟩] [1, 3, 4, 10, 11])
       (.reg [
         ⟨(some 14), none, .mov (.t 3)⟩,
         ⟨(some 15), none, .mov (.t 4)⟩,
         ⟨(some 16), none, .buildSlice 1 [(.t 15)]⟩,
         ⟨(some 17), none, .append 1 8 true (.t 14) (.t 16)⟩,
         ⟨(some 3), none, .mov (.t 17)⟩] [1, 3, 10, 11])))
     (.reg [
       ⟨(some 18), none, .bin .add (.t 11) (.v (.i .i64 1))⟩,
       ⟨(some 11), none, .mov (.t 18)⟩] [1, 3, 10, 11])))))))
  (.seq
  (.seq
   (.reg [
      ⟨(some 19), none, .fieldAddr 0 (.t 1)⟩,
      ⟨(some 20), none, .load false 1 (.t 19)⟩,
      ⟨(some 21), none, .mov (.v (.i .i64 0))⟩] [1, 3, 20, 21])
   (.block 2
   (.loop [1, 3, 20, 21]
    (.seq
     (.reg [
        ⟨(some 22), none, .bin .lss (.t 21) (.t 20)⟩] [1, 3, 20, 21, 22])
     (.seq
     (.cond (.t 22)
      (.skip)
      (.exit 2))
     (.seq
     (.block 3
      (.seq
       (.reg [
          ⟨(some 23), none, .fieldAddr 1 (.t 1)⟩,
          ⟨(some 24), none, .load false 1 (.t 23)⟩,
          ⟨(some 25), none, .len (.t 24)⟩,
          ⟨(some 26), none, .mov (.v (.i .i64 0))⟩] [1, 3, 20, 21, 24, 25, 26])
       (.block 4
       (.loop [1, 3, 20, 21, 24, 25, 26]
        (.seq
         (.reg [
            ⟨(some 27), none, .bin .lss (.t 26) (.t 25)⟩] [1, 3, 20, 21, 24, 25, 26, 27])
         (.seq
         (.cond (.t 27)
          (.skip)
          (.exit 4))
         (.seq
         (.block 5
          (.seq
           (.reg [
              ⟨(some 28), none, .indexAddr 2 (.t 24) (.t 26)⟩,
              ⟨(some 29), none, .load true 2 (.t 28)⟩,
              ⟨(some 6), none, .alloc [.i .i64 0, .i .i64 0]⟩,
              ⟨none, none, .store 2 (.t 6) (.t 29)⟩] [1, 3, 6, 20, 21, 24, 25, 26])
           (.seq
           (.draw [0, 0, 2, 7, 15, 0, 0, 64, 224, 480, 1023, 2047] [
              ⟨(some 30), none, .mov (.t 3)⟩,
              ⟨(some 31), none, .fieldAddr 0 (.t 6)⟩,
              ⟨(some 32), none, .load false 1 (.t 31)⟩,
              ⟨(some 33), none, .indexAddr 1 (.t 30) (.t 32)⟩,
              ⟨(some 34), none, .load false 1 (.t 33)⟩,
              ⟨(some 35), none, .mov (.t 3)⟩,
              ⟨(some 36), none, .fieldAddr 1 (.t 6)⟩,
              ⟨(some 37), none, .load false 1 (.t 36)⟩,
              ⟨(some 38), none, .indexAddr 1 (.t 35) (.t 37)⟩,
              ⟨(some 39), none, .load false 1 (.t 38)⟩,
              ⟨(some 40), none, .minmax false (.t 34) (.t 39)⟩,
              ⟨(some 7), none, .mov (.t 40)⟩] [1, 3, 6, 7, 20, 21, 24, 25, 26])
           (.draw [0, 0, 2, 0, 0, 16, 0, 0, 71, 327, 1023, 2047] [
             ⟨(some 41), none, .mov (.t 3)⟩,
             ⟨(some 42), none, .fieldAddr 0 (.t 6)⟩,
             ⟨(some 43), none, .load false 1 (.t 42)⟩,
             ⟨(some 44), none, .mov (.t 3)⟩,
             ⟨(some 45), none, .fieldAddr 1 (.t 6)⟩,
             ⟨(some 46), none, .load false 1 (.t 45)⟩,
             ⟨(some 47), none, .mov (.t 7)⟩,
             ⟨(some 48), none, .mov (.t 7)⟩,
             ⟨(some 49), none, .indexAddr 1 (.t 41) (.t 43)⟩,
             ⟨none, none, .store 1 (.t 49) (.t 47)⟩,
             ⟨(some 50), none, .indexAddr 1 (.t 44) (.t 46)⟩,
             ⟨none, none, .store 1 (.t 50) (.t 48)⟩] [1, 3, 20, 21, 24, 25, 26]))))
         (.reg [
           ⟨(some 51), none, .bin .add (.t 26) (.v (.i .i64 1))⟩,
           ⟨(some 26), none, .mov (.t 51)⟩] [1, 3, 20, 21, 24, 25, 26]))))))))
     (.reg [
       ⟨(some 52), none, .bin .add (.t 21) (.v (.i .i64 1))⟩,
       ⟨(some 21), none, .mov (.t 52)⟩] [1, 3, 20, 21])))))))
  (.seq
  (.reg [
     ⟨(some 53), none, .mov (.t 3)⟩,
     ⟨(some 2), none, .mov (.t 53)⟩] [2])
  (.ret)))))
theorem get_impl_Graph_parts : Go.Proofs.Try.prog.funcs[fid_impl_Graph_parts]? = some Go.Proofs.Try.f130 := Go.Proofs.Try.func130
theorem ok_impl_Graph_parts : okFn Go.Proofs.Try.prog Go.Proofs.Try.f130 54 [] [(2, none)] mc_impl_Graph_parts = true := by kernel_rfl
def mc_slices_IndexFunc_impl_Edge_impl_Edge : MCode :=
 .seq
  (.reg [
     ⟨(some 4), none, .mov (.v (.i .i64 0))⟩] [0, 1])
  (.seq
  (.seq
   (.reg [
      ⟨(some 6), none, .mov (.t 0)⟩,
      ⟨(some 7), none, .len (.t 6)⟩,
      ⟨(some 8), none, .mov (.v (.i .i64 0))⟩] [0, 1, 7, 8])
   (.block 0
   (.loop [0, 1, 7, 8]
    (.seq
     (.reg [
        ⟨(some 9), none, .bin .lss (.t 8) (.t 7)⟩] [0, 1, 7, 8, 9])
     (.seq
     (.cond (.t 9)
      (.skip)
      (.exit 0))
     (.seq
     (.block 1
      (.seq
       (.reg [
          ⟨(some 10), none, .mov (.t 8)⟩,
          ⟨(some 5), none, .mov (.t 10)⟩] [0, 1, 5, 7, 8])
       (.seq
       (.reg [
          ⟨(some 11), none, .mov (.t 1)⟩,
          ⟨(some 12), none, .mov (.t 0)⟩,
          ⟨(some 13), none, .mov (.t 5)⟩,
          ⟨(some 14), none, .indexAddr 2 (.t 12) (.t 13)⟩,
          ⟨(some 15), none, .load true 2 (.t 14)⟩,
          ⟨(some 16), none, .callv (.t 11) [(.t 15)]⟩] [0, 1, 5, 7, 8, 16])
       (.cond (.t 16)
       (.seq
        (.reg [
           ⟨(some 17), none, .mov (.t 5)⟩,
           ⟨(some 4), none, .mov (.t 17)⟩] [4])
        (.ret))
       (.skip)))))
     (.reg [
       ⟨(some 18), none, .bin .add (.t 8) (.v (.i .i64 1))⟩,
       ⟨(some 8), none, .mov (.t 18)⟩] [0, 1, 7, 8])))))))
  (.seq
  (.reg [
     ⟨(some 4), none, .mov (.v (.i .i64 (-1)))⟩] [4])
  (.ret)))
theorem get_slices_IndexFunc_impl_Edge_impl_Edge : Go.Proofs.Try.prog.funcs[fid_slices_IndexFunc_impl_Edge_impl_Edge]? = some Go.Proofs.Try.f132 := Go.Proofs.Try.func132
theorem ok_slices_IndexFunc_impl_Edge_impl_Edge : okFn Go.Proofs.Try.prog Go.Proofs.Try.f132 19 [] [(4, none)] mc_slices_IndexFunc_impl_Edge_impl_Edge = true := by kernel_rfl
def mc_slices_Reverse_impl_Edge_impl_Edge : MCode :=
 .seq
  (.reg [
     ⟨(some 4), none, .mov (.t 0)⟩,
     ⟨(some 5), none, .len (.t 4)⟩,
     ⟨(some 6), none, .bin .sub (.t 5) (.v (.i .i64 1))⟩,
     ⟨(some 2), none, .mov (.v (.i .i64 0))⟩,
     ⟨(some 3), none, .mov (.t 6)⟩] [0, 2, 3])
  (.block 0
  (.loop [0, 2, 3]
   (.seq
    (.seq
     (.reg [
        ⟨(some 7), none, .mov (.t 2)⟩,
        ⟨(some 8), none, .mov (.t 3)⟩,
        ⟨(some 9), none, .bin .lss (.t 7) (.t 8)⟩] [0, 2, 3, 9])
     (.cond (.t 9)
     (.skip)
     (.exit 0)))
    (.seq
    (.block 1
     (.draw [0, 0, 0, 0, 0, 0, 48, 112, 0, 0, 768, 1792, 4083, 8179, 16383, 32767] [
        ⟨(some 14), none, .mov (.t 0)⟩,
        ⟨(some 15), none, .mov (.t 2)⟩,
        ⟨(some 16), none, .mov (.t 0)⟩,
        ⟨(some 17), none, .mov (.t 3)⟩,
        ⟨(some 18), none, .mov (.t 0)⟩,
        ⟨(some 19), none, .mov (.t 3)⟩,
        ⟨(some 20), none, .indexAddr 2 (.t 18) (.t 19)⟩,
        ⟨(some 21), none, .load true 2 (.t 20)⟩,
        ⟨(some 22), none, .mov (.t 0)⟩,
        ⟨(some 23), none, .mov (.t 2)⟩,
        ⟨(some 24), none, .indexAddr 2 (.t 22) (.t 23)⟩,
        ⟨(some 25), none, .load true 2 (.t 24)⟩,
        ⟨(some 26), none, .indexAddr 2 (.t 14) (.t 15)⟩,
        ⟨none, none, .store 2 (.t 26) (.t 21)⟩,
        ⟨(some 27), none, .indexAddr 2 (.t 16) (.t 17)⟩,
        ⟨none, none, .store 2 (.t 27) (.t 25)⟩] [0, 2, 3]))
    (.reg [
      ⟨(some 10), none, .mov (.t 2)⟩,
      ⟨(some 11), none, .bin .add (.t 10) (.v (.i .i64 1))⟩,
      ⟨(some 12), none, .mov (.t 3)⟩,
      ⟨(some 13), none, .bin .sub (.t 12) (.v (.i .i64 1))⟩,
      ⟨(some 2), none, .mov (.t 11)⟩,
      ⟨(some 3), none, .mov (.t 13)⟩] [0, 2, 3])))))
theorem get_slices_Reverse_impl_Edge_impl_Edge : Go.Proofs.Try.prog.funcs[fid_slices_Reverse_impl_Edge_impl_Edge]? = some Go.Proofs.Try.f136 := Go.Proofs.Try.func136
theorem ok_slices_Reverse_impl_Edge_impl_Edge : okFn Go.Proofs.Try.prog Go.Proofs.Try.f136 28 [] [] mc_slices_Reverse_impl_Edge_impl_Edge = true := by kernel_rfl

end Go.Fw
