/-
  The code of the program's functions, as the model's own. Printed by a program.
-/
import Derived.Test.YtlhcnnfjgchhkaaProg
import Derived.Test.YtlhcnnfjgchhkaaFxB
namespace Go.Fw
set_option maxRecDepth 100000
abbrev fid_main_main : Nat := 0
abbrev fid_gosem_cut : Nat := 1
abbrev fid_gosem_cut_init : Nat := 2
abbrev fid_laws_FnSpansOf : Nat := 3
abbrev fid_laws_FnSpansWhole : Nat := 4
abbrev fid_laws_FnExactRootedValid : Nat := 5
abbrev fid_laws_FnExactSpansOf : Nat := 6
abbrev fid_laws_FnExactChainEdges : Nat := 7
abbrev fid_laws_FnExactRootOf : Nat := 8
abbrev fid_laws_FnExactWayUp : Nat := 9
abbrev fid_laws_FnWayUp : Nat := 10
abbrev fid_laws_FnExactMeetOf : Nat := 11
abbrev fid_laws_FnExactCutParent : Nat := 12
abbrev fid_laws_FnExactConnected : Nat := 13
abbrev fid_laws_FnMeetOf : Nat := 14
abbrev fid_spec_DrawSpansOf : Nat := 15
abbrev fid_impl_SpansOf : Nat := 16
abbrev fid_spec_SpansOf : Nat := 17
abbrev fid_laws_dyLives : Nat := 18
abbrev fid_laws_szRooted : Nat := 19
abbrev fid_spec_RootedValid : Nat := 20
abbrev fid_laws_toRooted : Nat := 21
abbrev fid_impl_RootedValid : Nat := 22
abbrev fid_laws_eqRooted : Nat := 23
abbrev fid_laws_eqLifeS : Nat := 24
abbrev fid_laws_markLifeS : Nat := 25
abbrev fid_laws_heldLifeS : Nat := 26
abbrev fid_spec_ChainEdges : Nat := 27
abbrev fid_laws_toIntS : Nat := 28
abbrev fid_impl_ChainEdges : Nat := 29
abbrev fid_laws_eqEdgeS : Nat := 30
abbrev fid_laws_eqIntS : Nat := 31
abbrev fid_laws_markIntS : Nat := 32
abbrev fid_laws_markEdgeS : Nat := 33
abbrev fid_laws_heldEdgeS : Nat := 34
abbrev fid_spec_RootOf : Nat := 35
abbrev fid_impl_RootOf : Nat := 36
abbrev fid_spec_WayUp : Nat := 37
abbrev fid_impl_WayUp : Nat := 38
abbrev fid_laws_markRooted : Nat := 39
abbrev fid_laws_heldIntS : Nat := 40
abbrev fid_spec_DrawWayUp : Nat := 41
abbrev fid_laws_dyInts : Nat := 42
abbrev fid_laws_dyIn : Nat := 43
abbrev fid_spec_MeetOf : Nat := 44
abbrev fid_impl_MeetOf : Nat := 45
abbrev fid_spec_CutParent : Nat := 46
abbrev fid_impl_CutParent : Nat := 47
abbrev fid_laws_heldRooted : Nat := 48
abbrev fid_laws_szGraph : Nat := 49
abbrev fid_spec_Connected : Nat := 50
abbrev fid_laws_toGraph : Nat := 51
abbrev fid_impl_Connected : Nat := 52
abbrev fid_laws_eqGraph : Nat := 53
abbrev fid_spec_DrawMeetOf : Nat := 54
abbrev fid_spec_l14Open : Nat := 55
abbrev fid_p_spec_l14Rd_num : Nat := 56
abbrev fid_impl_spans : Nat := 57
abbrev fid_spec_l8Spans : Nat := 58
abbrev fid_laws_szIntS : Nat := 59
abbrev fid_impl_Rooted_wayUp : Nat := 60
abbrev fid_laws_eqLife : Nat := 61
abbrev fid_spec_l1Edge : Nat := 62
abbrev fid_slices_ContainsFunc_int_int : Nat := 63
abbrev fid_impl_ChainEdges_1 : Nat := 64
abbrev fid_impl_isNode : Nat := 65
abbrev fid_impl_steps : Nat := 66
abbrev fid_laws_eqEdge : Nat := 67
abbrev fid_spec_l12Node : Nat := 68
abbrev fid_spec_l12Up : Nat := 69
abbrev fid_impl_Rooted_hasNode : Nat := 70
abbrev fid_impl_Rooted_root : Nat := 71
abbrev fid_spec_DrawRootOf : Nat := 72
abbrev fid_spec_l6In : Nat := 73
abbrev fid_slices_Contains_int_int : Nat := 74
abbrev fid_spec_l12Copy : Nat := 75
abbrev fid_impl_Rooted_with : Nat := 76
abbrev fid_laws_szEdgeS : Nat := 77
abbrev fid_spec_l2Node : Nat := 78
abbrev fid_spec_l2Joined : Nat := 79
abbrev fid_laws_toEdgeS : Nat := 80
abbrev fid_impl_Graph_hasNode : Nat := 81
abbrev fid_impl_Graph_connected : Nat := 82
abbrev fid_spec_l12Two : Nat := 83
abbrev fid_p_spec_l14Rd_pick : Nat := 84
abbrev fid_slices_IndexFunc_int_int : Nat := 85
abbrev fid_impl_EdgeOf : Nat := 86
abbrev fid_slices_Index_int_int : Nat := 87
abbrev fid_slices_Clone_int_int : Nat := 88
abbrev fid_spec_GraphValid : Nat := 89
abbrev fid_spec_l2Labels : Nat := 90
abbrev fid_laws_toEdge : Nat := 91
abbrev fid_impl_GraphValid : Nat := 92
abbrev fid_impl_Graph_parts : Nat := 93
abbrev fid_spec_l12Draw : Nat := 94
abbrev fid_spec_l1Less : Nat := 95
abbrev fid_impl_compareEdges : Nat := 96
abbrev fid_cmp_Or_int : Nat := 97
abbrev fid_cmp_Compare_int : Nat := 98
abbrev fid_cmp_isNaN_int : Nat := 99
abbrev fid_runtime_boundsError_Error : Nat := 100
abbrev fid_runtime_boundsError_RuntimeError : Nat := 101
abbrev fid_runtime_errorString_Error : Nat := 102
abbrev fid_runtime_errorString_RuntimeError : Nat := 103
abbrev fid_runtime_plainError_Error : Nat := 104
abbrev fid_runtime_plainError_RuntimeError : Nat := 105
abbrev fid_runtime_errorAddressString_Error : Nat := 106
abbrev fid_runtime_errorAddressString_RuntimeError : Nat := 107
abbrev fid_p_runtime_TypeAssertionError_Error : Nat := 108
abbrev fid_p_runtime_TypeAssertionError_RuntimeError : Nat := 109
abbrev fid_p_runtime_PanicNilError_Error : Nat := 110
abbrev fid_p_runtime_PanicNilError_RuntimeError : Nat := 111
abbrev fid_p_internal_abi_Type_Align : Nat := 112
abbrev fid_internal_runtime_maps_unhashableTypeError_Error : Nat := 113
abbrev fid_internal_runtime_maps_unhashableTypeError_RuntimeError : Nat := 114
abbrev fid_p_spec_l14Rd_word : Nat := 115
abbrev fid_internal_abi_Kind_String : Nat := 116
def mc_laws_FnSpansOf : MCode :=
 .seq
  (.reg [
     ⟨(some 2), none, .mov (.v (.b false))⟩] [0])
  (.seq
  (.seq
   (.reg [
      ⟨(some 12), none, .mov (.t 0)⟩,
      ⟨(some 13), none, .len (.t 12)⟩,
      ⟨(some 14), none, .bin .gtr (.t 13) (.v (.i .i64 1048576))⟩] [0, 14])
   (.cond (.t 14)
   (.seq
    (.reg [
       ⟨(some 2), none, .mov (.v (.b true))⟩] [2])
    (.ret))
   (.skip)))
  (.seq
  (.reg [
     ⟨(some 16), none, .mov (.t 0)⟩,
     ⟨(some 17), none, .call fid_spec_DrawSpansOf false [.im] [(.t 16)]⟩,
     ⟨(some 15), none, .mov (.t 17)⟩,
     ⟨(some 18), none, .extract (.t 15) 0⟩,
     ⟨(some 19), none, .extract (.t 15) 1⟩,
     ⟨(some 20), none, .extract (.t 15) 2⟩,
     ⟨(some 3), none, .mov (.t 18)⟩,
     ⟨(some 4), none, .mov (.t 19)⟩,
     ⟨(some 5), none, .mov (.t 20)⟩] [3, 4, 5])
  (.seq
  (.reg [
     ⟨(some 22), none, .mov (.t 3)⟩,
     ⟨(some 23), none, .mov (.t 4)⟩,
     ⟨(some 24), none, .mov (.t 5)⟩,
     ⟨(some 25), none, .call fid_impl_SpansOf false [.im, .im, .im] [(.t 22), (.t 23), (.t 24)]⟩,
     ⟨(some 21), none, .mov (.t 25)⟩,
     ⟨(some 26), none, .extract (.t 21) 0⟩,
     ⟨(some 27), none, .extract (.t 21) 1⟩,
     ⟨(some 6), none, .mov (.t 26)⟩,
     ⟨(some 7), none, .mov (.t 27)⟩] [3, 4, 5, 6, 7])
  (.seq
  (.reg [
     ⟨(some 29), none, .mov (.t 3)⟩,
     ⟨(some 30), none, .mov (.t 4)⟩,
     ⟨(some 31), none, .mov (.t 5)⟩,
     ⟨(some 32), none, .call fid_spec_SpansOf false [.im, .im, .im] [(.t 29), (.t 30), (.t 31)]⟩,
     ⟨(some 28), none, .mov (.t 32)⟩,
     ⟨(some 33), none, .extract (.t 28) 0⟩,
     ⟨(some 34), none, .extract (.t 28) 1⟩,
     ⟨(some 8), none, .mov (.t 33)⟩,
     ⟨(some 9), none, .mov (.t 34)⟩] [4, 5, 6, 7, 8, 9])
  (.seq
  (.seq
   (.reg [
      ⟨(some 35), none, .mov (.t 6)⟩,
      ⟨(some 36), none, .mov (.t 8)⟩,
      ⟨(some 37), none, .call fid_laws_dyLives false [.im, .im] [(.t 35), (.t 36)]⟩,
      ⟨(some 38), none, .un .not (.t 37)⟩,
      ⟨(some 39), none, .mov (.t 38)⟩,
      ⟨(some 40), (some (39, false)), .mov (.t 7)⟩,
      ⟨(some 41), (some (39, false)), .mov (.t 9)⟩,
      ⟨(some 42), (some (39, false)), .binb true (.t 40) (.t 41)⟩,
      ⟨(some 43), none, .pick (.t 39) (.v (.b true)) (.t 42)⟩,
      ⟨(some 44), none, .mov (.t 43)⟩,
      ⟨(some 45), (some (44, false)), .mov (.t 7)⟩,
      ⟨(some 46), (some (44, false)), .un .not (.t 45)⟩,
      ⟨(some 47), none, .pick (.t 44) (.v (.b true)) (.t 46)⟩] [4, 5, 6, 7, 8, 9, 47])
   (.cond (.t 47)
   (.seq
    (.reg [
       ⟨(some 48), none, .mov (.t 6)⟩,
       ⟨(some 49), none, .mov (.t 8)⟩,
       ⟨(some 50), none, .call fid_laws_dyLives false [.im, .im] [(.t 48), (.t 49)]⟩,
       ⟨(some 51), none, .mov (.t 50)⟩,
       ⟨(some 52), (some (51, true)), .mov (.t 7)⟩,
       ⟨(some 53), (some (51, true)), .mov (.t 9)⟩,
       ⟨(some 54), (some (51, true)), .binb false (.t 52) (.t 53)⟩,
       ⟨(some 55), none, .pick (.t 51) (.t 54) (.v (.b false))⟩,
       ⟨(some 2), none, .mov (.t 55)⟩] [2])
    (.ret))
   (.skip)))
  (.seq
  (.reg [
     ⟨(some 56), none, .mov (.t 4)⟩,
     ⟨(some 10), none, .mov (.t 56)⟩] [5, 6, 10])
  (.seq
  (.seq
   (.reg [
      ⟨(some 11), none, .mov (.v (.i .i64 0))⟩] [5, 6, 10, 11])
   (.block 0
   (.loop [5, 6, 10, 11]
    (.seq
     (.seq
      (.reg [
         ⟨(some 57), none, .mov (.t 11)⟩,
         ⟨(some 58), none, .mov (.t 6)⟩,
         ⟨(some 59), none, .len (.t 58)⟩,
         ⟨(some 60), none, .bin .lss (.t 57) (.t 59)⟩] [5, 6, 10, 11, 60])
      (.cond (.t 60)
      (.skip)
      (.exit 0)))
     (.seq
     (.block 1
      (.seq
       (.seq
        (.reg [
           ⟨(some 63), none, .mov (.t 6)⟩,
           ⟨(some 64), none, .mov (.t 11)⟩,
           ⟨(some 65), none, .indexAddr 4 (.t 63) (.t 64)⟩,
           ⟨(some 66), none, .fieldAddr 2 (.t 65)⟩,
           ⟨(some 67), none, .load false 1 (.t 66)⟩,
           ⟨(some 68), none, .mov (.t 10)⟩,
           ⟨(some 69), none, .bin .neq (.t 67) (.t 68)⟩,
           ⟨(some 70), none, .mov (.t 69)⟩,
           ⟨(some 71), (some (70, false)), .mov (.t 6)⟩,
           ⟨(some 72), (some (70, false)), .mov (.t 11)⟩,
           ⟨(some 73), (some (70, false)), .indexAddr 4 (.t 71) (.t 72)⟩,
           ⟨(some 74), (some (70, false)), .fieldAddr 3 (.t 73)⟩,
           ⟨(some 75), (some (70, false)), .load false 1 (.t 74)⟩,
           ⟨(some 76), (some (70, false)), .mov (.t 10)⟩,
           ⟨(some 77), (some (70, false)), .bin .leq (.t 75) (.t 76)⟩,
           ⟨(some 78), none, .pick (.t 70) (.v (.b true)) (.t 77)⟩] [5, 6, 11, 78])
        (.cond (.t 78)
        (.seq
         (.reg [
            ⟨(some 2), none, .mov (.v (.b false))⟩] [2])
         (.ret))
        (.skip)))
       (.reg [
         ⟨(some 79), none, .mov (.t 6)⟩,
         ⟨(some 80), none, .mov (.t 11)⟩,
         ⟨(some 81), none, .indexAddr 4 (.t 79) (.t 80)⟩,
         ⟨(some 82), none, .fieldAddr 3 (.t 81)⟩,
         ⟨(some 83), none, .load false 1 (.t 82)⟩,
         ⟨(some 10), none, .mov (.t 83)⟩] [5, 6, 10, 11])))
     (.reg [
       ⟨(some 61), none, .mov (.t 11)⟩,
       ⟨(some 62), none, .bin .add (.t 61) (.v (.i .i64 1))⟩,
       ⟨(some 11), none, .mov (.t 62)⟩] [5, 6, 10, 11]))))))
  (.seq
  (.reg [
     ⟨(some 84), none, .mov (.t 10)⟩,
     ⟨(some 85), none, .mov (.t 5)⟩,
     ⟨(some 86), none, .bin .eql (.t 84) (.t 85)⟩,
     ⟨(some 87), none, .mov (.t 86)⟩,
     ⟨(some 88), (some (87, true)), .mov (.t 6)⟩,
     ⟨(some 89), (some (87, true)), .len (.t 88)⟩,
     ⟨(some 90), (some (87, true)), .bin .leq (.t 89) (.v (.i .i64 12))⟩,
     ⟨(some 91), none, .pick (.t 87) (.t 90) (.v (.b false))⟩,
     ⟨(some 2), none, .mov (.t 91)⟩] [2])
  (.ret)))))))))
theorem get_laws_FnSpansOf : Go.Proofs.Try.prog.funcs[fid_laws_FnSpansOf]? = some Go.Proofs.Try.f3 := Go.Proofs.Try.func3
theorem ok_laws_FnSpansOf : okFn Go.Proofs.Try.prog Go.Proofs.Try.f3 92 [] [(2, none)] mc_laws_FnSpansOf = true := by kernel_rfl
def mc_laws_FnSpansWhole : MCode :=
 .seq
  (.reg [
     ⟨(some 2), none, .mov (.v (.b false))⟩] [0])
  (.seq
  (.seq
   (.reg [
      ⟨(some 14), none, .mov (.t 0)⟩,
      ⟨(some 15), none, .len (.t 14)⟩,
      ⟨(some 16), none, .bin .gtr (.t 15) (.v (.i .i64 1048576))⟩] [0, 16])
   (.cond (.t 16)
   (.seq
    (.reg [
       ⟨(some 2), none, .mov (.v (.b true))⟩] [2])
    (.ret))
   (.skip)))
  (.seq
  (.reg [
     ⟨(some 18), none, .mov (.t 0)⟩,
     ⟨(some 19), none, .call fid_spec_DrawSpansOf false [.im] [(.t 18)]⟩,
     ⟨(some 17), none, .mov (.t 19)⟩,
     ⟨(some 20), none, .extract (.t 17) 0⟩,
     ⟨(some 21), none, .extract (.t 17) 1⟩,
     ⟨(some 22), none, .extract (.t 17) 2⟩,
     ⟨(some 3), none, .mov (.t 20)⟩,
     ⟨(some 4), none, .mov (.t 21)⟩,
     ⟨(some 5), none, .mov (.t 22)⟩] [3, 4, 5])
  (.seq
  (.reg [
     ⟨(some 24), none, .mov (.t 3)⟩,
     ⟨(some 25), none, .mov (.t 4)⟩,
     ⟨(some 26), none, .mov (.t 5)⟩,
     ⟨(some 27), none, .call fid_impl_SpansOf false [.im, .im, .im] [(.t 24), (.t 25), (.t 26)]⟩,
     ⟨(some 23), none, .mov (.t 27)⟩,
     ⟨(some 28), none, .extract (.t 23) 0⟩,
     ⟨(some 29), none, .extract (.t 23) 1⟩,
     ⟨(some 6), none, .mov (.t 28)⟩,
     ⟨(some 7), none, .mov (.t 29)⟩] [3, 4, 5, 6, 7])
  (.seq
  (.reg [
     ⟨(some 31), none, .mov (.t 3)⟩,
     ⟨(some 32), none, .mov (.t 4)⟩,
     ⟨(some 33), none, .mov (.t 5)⟩,
     ⟨(some 34), none, .call fid_spec_SpansOf false [.im, .im, .im] [(.t 31), (.t 32), (.t 33)]⟩,
     ⟨(some 30), none, .mov (.t 34)⟩,
     ⟨(some 35), none, .extract (.t 30) 0⟩,
     ⟨(some 36), none, .extract (.t 30) 1⟩,
     ⟨(some 8), none, .mov (.t 35)⟩,
     ⟨(some 9), none, .mov (.t 36)⟩] [3, 6, 7, 8, 9])
  (.seq
  (.seq
   (.reg [
      ⟨(some 37), none, .mov (.t 6)⟩,
      ⟨(some 38), none, .mov (.t 8)⟩,
      ⟨(some 39), none, .call fid_laws_dyLives false [.im, .im] [(.t 37), (.t 38)]⟩,
      ⟨(some 40), none, .un .not (.t 39)⟩,
      ⟨(some 41), none, .mov (.t 40)⟩,
      ⟨(some 42), (some (41, false)), .mov (.t 7)⟩,
      ⟨(some 43), (some (41, false)), .mov (.t 9)⟩,
      ⟨(some 44), (some (41, false)), .binb true (.t 42) (.t 43)⟩,
      ⟨(some 45), none, .pick (.t 41) (.v (.b true)) (.t 44)⟩,
      ⟨(some 46), none, .mov (.t 45)⟩,
      ⟨(some 47), (some (46, false)), .mov (.t 3)⟩,
      ⟨(some 48), (some (46, false)), .bin .lss (.t 47) (.v (.i .i64 1))⟩,
      ⟨(some 49), none, .pick (.t 46) (.v (.b true)) (.t 48)⟩,
      ⟨(some 50), none, .mov (.t 49)⟩,
      ⟨(some 51), (some (50, false)), .mov (.t 3)⟩,
      ⟨(some 52), (some (50, false)), .bin .gtr (.t 51) (.v (.i .i64 64))⟩,
      ⟨(some 53), none, .pick (.t 50) (.v (.b true)) (.t 52)⟩] [3, 6, 7, 8, 9, 53])
   (.cond (.t 53)
   (.seq
    (.reg [
       ⟨(some 54), none, .mov (.t 6)⟩,
       ⟨(some 55), none, .mov (.t 8)⟩,
       ⟨(some 56), none, .call fid_laws_dyLives false [.im, .im] [(.t 54), (.t 55)]⟩,
       ⟨(some 57), none, .mov (.t 56)⟩,
       ⟨(some 58), (some (57, true)), .mov (.t 7)⟩,
       ⟨(some 59), (some (57, true)), .mov (.t 9)⟩,
       ⟨(some 60), (some (57, true)), .binb false (.t 58) (.t 59)⟩,
       ⟨(some 61), none, .pick (.t 57) (.t 60) (.v (.b false))⟩,
       ⟨(some 2), none, .mov (.t 61)⟩] [2])
    (.ret))
   (.skip)))
  (.seq
  (.reg [
     ⟨(some 63), none, .mov (.t 3)⟩,
     ⟨(some 64), none, .mov (.t 3)⟩,
     ⟨(some 65), none, .call fid_impl_SpansOf false [.im, .im, .im] [(.t 63), (.v (.i .i64 0)), (.t 64)]⟩,
     ⟨(some 62), none, .mov (.t 65)⟩,
     ⟨(some 66), none, .extract (.t 62) 0⟩,
     ⟨(some 67), none, .extract (.t 62) 1⟩,
     ⟨(some 10), none, .mov (.t 66)⟩,
     ⟨(some 11), none, .mov (.t 67)⟩] [3, 10, 11])
  (.seq
  (.reg [
     ⟨(some 69), none, .mov (.t 3)⟩,
     ⟨(some 70), none, .mov (.t 3)⟩,
     ⟨(some 71), none, .mov (.t 3)⟩,
     ⟨(some 72), none, .call fid_impl_SpansOf false [.im, .im, .im] [(.t 69), (.t 70), (.t 71)]⟩,
     ⟨(some 68), none, .mov (.t 72)⟩,
     ⟨(some 73), none, .extract (.t 68) 0⟩,
     ⟨(some 74), none, .extract (.t 68) 1⟩,
     ⟨(some 12), none, .mov (.t 73)⟩,
     ⟨(some 13), none, .mov (.t 74)⟩] [3, 10, 11, 12, 13])
  (.seq
  (.reg [
     ⟨(some 75), none, .mov (.t 11)⟩,
     ⟨(some 76), none, .mov (.t 75)⟩,
     ⟨(some 77), (some (76, true)), .mov (.t 13)⟩,
     ⟨(some 78), none, .pick (.t 76) (.t 77) (.v (.b false))⟩,
     ⟨(some 79), none, .mov (.t 78)⟩,
     ⟨(some 80), (some (79, true)), .mov (.t 10)⟩,
     ⟨(some 81), (some (79, true)), .len (.t 80)⟩,
     ⟨(some 82), (some (79, true)), .bin .eql (.t 81) (.v (.i .i64 1))⟩,
     ⟨(some 83), none, .pick (.t 79) (.t 82) (.v (.b false))⟩,
     ⟨(some 84), none, .mov (.t 83)⟩,
     ⟨(some 85), (some (84, true)), .mov (.t 10)⟩,
     ⟨(some 86), (some (84, true)), .indexAddr 4 (.t 85) (.v (.i .i64 0))⟩,
     ⟨(some 87), (some (84, true)), .load true 4 (.t 86)⟩,
     ⟨(some 88), (some (84, true)), .mov (.t 3)⟩,
     ⟨(some 89), (some (84, true)), .build [.i .i64 0, .i .i64 0, .i .i64 0, .i .i64 0] [(2, 1, (.v (.i .i64 0))), (3, 1, (.t 88))]⟩,
     ⟨(some 90), (some (84, true)), .eqAgg false [true, true, true, true] (.t 87) (.t 89)⟩,
     ⟨(some 91), none, .pick (.t 84) (.t 90) (.v (.b false))⟩,
     ⟨(some 92), none, .mov (.t 91)⟩,
     ⟨(some 93), (some (92, true)), .mov (.t 12)⟩,
     ⟨(some 94), (some (92, true)), .len (.t 93)⟩,
     ⟨(some 95), (some (92, true)), .bin .eql (.t 94) (.v (.i .i64 0))⟩,
     ⟨(some 96), none, .pick (.t 92) (.t 95) (.v (.b false))⟩,
     ⟨(some 2), none, .mov (.t 96)⟩] [2])
  (.ret)))))))))
theorem get_laws_FnSpansWhole : Go.Proofs.Try.prog.funcs[fid_laws_FnSpansWhole]? = some Go.Proofs.Try.f4 := Go.Proofs.Try.func4
theorem ok_laws_FnSpansWhole : okFn Go.Proofs.Try.prog Go.Proofs.Try.f4 97 [] [(2, none)] mc_laws_FnSpansWhole = true := by kernel_rfl
def mc_laws_FnExactRootedValid : MCode :=
 .seq
  (.reg [
     ⟨(some 1), none, .box 2 (.t 0)⟩,
     ⟨(some 2), none, .mov (.v (.b false))⟩] [1])
  (.seq
  (.reg [
     ⟨(some 3), none, .mov (.v (.i .i64 1048576))⟩] [1, 3])
  (.seq
  (.reg [
     ⟨(some 7), none, .load true 2 (.t 1)⟩,
     ⟨(some 8), none, .mov (.t 3)⟩,
     ⟨(some 9), none, .call fid_laws_szRooted false [.im, .im] [(.t 7), (.t 8)]⟩,
     ⟨(some 3), none, .mov (.t 9)⟩] [1, 3])
  (.seq
  (.seq
   (.reg [
      ⟨(some 10), none, .mov (.t 3)⟩,
      ⟨(some 11), none, .bin .lss (.t 10) (.v (.i .i64 0))⟩] [1, 11])
   (.cond (.t 11)
   (.seq
    (.reg [
       ⟨(some 2), none, .mov (.v (.b true))⟩] [2])
    (.ret))
   (.skip)))
  (.seq
  (.reg [
     ⟨(some 12), none, .load true 2 (.t 1)⟩,
     ⟨(some 13), none, .call fid_laws_toRooted false [.im] [(.t 12)]⟩,
     ⟨(some 14), none, .call fid_spec_RootedValid false [.im] [(.t 13)]⟩,
     ⟨(some 4), none, .mov (.t 14)⟩] [1, 4])
  (.seq
  (.reg [
     ⟨(some 15), none, .load true 2 (.t 1)⟩,
     ⟨(some 16), none, .call fid_laws_toRooted false [.im] [(.t 15)]⟩,
     ⟨(some 5), none, .alloc [.nl 1, .nl 1]⟩,
     ⟨none, none, .store 2 (.t 5) (.t 16)⟩] [1, 4, 5])
  (.seq
  (.reg [
     ⟨(some 17), none, .load true 2 (.t 5)⟩,
     ⟨(some 18), none, .call fid_impl_RootedValid false [.im] [(.t 17)]⟩,
     ⟨(some 6), none, .mov (.t 18)⟩] [1, 4, 5, 6])
  (.seq
  (.seq
   (.reg [
      ⟨(some 19), none, .mov (.t 6)⟩,
      ⟨(some 20), none, .mov (.t 4)⟩,
      ⟨(some 21), none, .binb true (.t 19) (.t 20)⟩] [1, 5, 21])
   (.cond (.t 21)
   (.seq
    (.reg [
       ⟨(some 2), none, .mov (.v (.b false))⟩] [2])
    (.ret))
   (.skip)))
  (.seq
  (.seq
   (.draw [0, 0, 2, 7, 15] [
      ⟨(some 22), none, .load true 2 (.t 5)⟩,
      ⟨(some 23), none, .load true 2 (.t 1)⟩,
      ⟨(some 24), none, .call fid_laws_toRooted false [.im] [(.t 23)]⟩,
      ⟨(some 25), none, .call fid_laws_eqRooted false [.im, .im] [(.t 22), (.t 24)]⟩,
      ⟨(some 26), none, .un .not (.t 25)⟩] [26])
   (.cond (.t 26)
   (.seq
    (.reg [
       ⟨(some 2), none, .mov (.v (.b false))⟩] [2])
    (.ret))
   (.skip)))
  (.seq
  (.reg [
     ⟨(some 2), none, .mov (.v (.b true))⟩] [2])
  (.ret))))))))))
theorem get_laws_FnExactRootedValid : Go.Proofs.Try.prog.funcs[fid_laws_FnExactRootedValid]? = some Go.Proofs.Try.f5 := Go.Proofs.Try.func5
theorem ok_laws_FnExactRootedValid : okFn Go.Proofs.Try.prog Go.Proofs.Try.f5 27 [] [(2, none)] mc_laws_FnExactRootedValid = true := by kernel_rfl
def mc_laws_FnExactSpansOf : MCode :=
 .seq
  (.reg [
     ⟨(some 6), none, .mov (.v (.b false))⟩] [0, 1, 2])
  (.seq
  (.reg [
     ⟨(some 16), none, .mov (.t 0)⟩,
     ⟨(some 17), none, .mov (.t 1)⟩,
     ⟨(some 18), none, .mov (.t 2)⟩,
     ⟨(some 19), none, .call fid_spec_SpansOf false [.im, .im, .im] [(.t 16), (.t 17), (.t 18)]⟩,
     ⟨(some 15), none, .mov (.t 19)⟩,
     ⟨(some 20), none, .extract (.t 15) 0⟩,
     ⟨(some 21), none, .extract (.t 15) 1⟩,
     ⟨(some 7), none, .mov (.t 20)⟩,
     ⟨(some 8), none, .mov (.t 21)⟩] [0, 1, 2, 7, 8])
  (.seq
  (.reg [
     ⟨(some 23), none, .mov (.t 0)⟩,
     ⟨(some 24), none, .mov (.t 1)⟩,
     ⟨(some 25), none, .mov (.t 2)⟩,
     ⟨(some 26), none, .call fid_impl_SpansOf false [.im, .im, .im] [(.t 23), (.t 24), (.t 25)]⟩,
     ⟨(some 22), none, .mov (.t 26)⟩,
     ⟨(some 27), none, .extract (.t 22) 0⟩,
     ⟨(some 28), none, .extract (.t 22) 1⟩,
     ⟨(some 9), none, .mov (.t 27)⟩,
     ⟨(some 10), none, .mov (.t 28)⟩] [0, 1, 2, 7, 8, 9, 10])
  (.seq
  (.seq
   (.reg [
      ⟨(some 29), none, .mov (.t 9)⟩,
      ⟨(some 30), none, .mov (.t 7)⟩,
      ⟨(some 31), none, .call fid_laws_eqLifeS false [.im, .im] [(.t 29), (.t 30)]⟩,
      ⟨(some 32), none, .un .not (.t 31)⟩,
      ⟨(some 33), none, .mov (.t 32)⟩,
      ⟨(some 34), (some (33, false)), .mov (.t 10)⟩,
      ⟨(some 35), (some (33, false)), .mov (.t 8)⟩,
      ⟨(some 36), (some (33, false)), .binb true (.t 34) (.t 35)⟩,
      ⟨(some 37), none, .pick (.t 33) (.v (.b true)) (.t 36)⟩] [0, 1, 2, 7, 8, 9, 37])
   (.cond (.t 37)
   (.seq
    (.reg [
       ⟨(some 6), none, .mov (.v (.b false))⟩] [6])
    (.ret))
   (.skip)))
  (.seq
  (.reg [
     ⟨(some 11), none, .mov (.v (.i .i64 1))⟩] [0, 1, 2, 7, 8, 9, 11])
  (.seq
  (.reg [
     ⟨(some 38), none, .mov (.t 9)⟩,
     ⟨(some 39), none, .mov (.t 11)⟩,
     ⟨(some 40), none, .call fid_laws_markLifeS false [.io, .im] [(.t 38), (.t 39)]⟩,
     ⟨(some 11), none, .mov (.t 40)⟩] [0, 1, 2, 7, 8, 9, 11])
  (.seq
  (.reg [
     ⟨(some 12), none, .mov (.v (.i .i64 1))⟩] [0, 1, 2, 7, 8, 9, 11, 12])
  (.seq
  (.reg [
     ⟨(some 41), none, .mov (.t 9)⟩,
     ⟨(some 42), none, .mov (.t 12)⟩,
     ⟨(some 43), none, .call fid_laws_heldLifeS false [.im, .im] [(.t 41), (.t 42)]⟩,
     ⟨(some 12), none, .mov (.t 43)⟩] [0, 1, 2, 7, 8, 9, 11, 12])
  (.seq
  (.seq
   (.reg [
      ⟨(some 44), none, .mov (.t 12)⟩,
      ⟨(some 45), none, .bin .lss (.t 44) (.v (.i .i64 0))⟩] [0, 1, 2, 7, 8, 9, 11, 12, 45])
   (.cond (.t 45)
   (.seq
    (.reg [
       ⟨(some 6), none, .mov (.v (.b false))⟩] [6])
    (.ret))
   (.skip)))
  (.seq
  (.seq
   (.reg [
      ⟨(some 46), none, .mov (.t 12)⟩,
      ⟨(some 47), none, .mov (.t 11)⟩,
      ⟨(some 48), none, .bin .neq (.t 46) (.t 47)⟩] [0, 1, 2, 7, 8, 9, 11, 48])
   (.cond (.t 48)
   (.seq
    (.reg [
       ⟨(some 6), none, .mov (.v (.b false))⟩] [6])
    (.ret))
   (.skip)))
  (.seq
  (.reg [
     ⟨(some 50), none, .mov (.t 0)⟩,
     ⟨(some 51), none, .mov (.t 1)⟩,
     ⟨(some 52), none, .mov (.t 2)⟩,
     ⟨(some 53), none, .call fid_impl_SpansOf false [.im, .im, .im] [(.t 50), (.t 51), (.t 52)]⟩,
     ⟨(some 49), none, .mov (.t 53)⟩,
     ⟨(some 54), none, .extract (.t 49) 0⟩,
     ⟨(some 55), none, .extract (.t 49) 1⟩,
     ⟨(some 13), none, .mov (.t 54)⟩,
     ⟨(some 14), none, .mov (.t 55)⟩] [7, 8, 9, 11, 13, 14])
  (.seq
  (.seq
   (.reg [
      ⟨(some 56), none, .mov (.t 13)⟩,
      ⟨(some 57), none, .mov (.t 7)⟩,
      ⟨(some 58), none, .call fid_laws_eqLifeS false [.im, .im] [(.t 56), (.t 57)]⟩,
      ⟨(some 59), none, .un .not (.t 58)⟩,
      ⟨(some 60), none, .mov (.t 59)⟩,
      ⟨(some 61), (some (60, false)), .mov (.t 14)⟩,
      ⟨(some 62), (some (60, false)), .mov (.t 8)⟩,
      ⟨(some 63), (some (60, false)), .binb true (.t 61) (.t 62)⟩,
      ⟨(some 64), none, .pick (.t 60) (.v (.b true)) (.t 63)⟩] [9, 11, 64])
   (.cond (.t 64)
   (.seq
    (.reg [
       ⟨(some 6), none, .mov (.v (.b false))⟩] [6])
    (.ret))
   (.skip)))
  (.seq
  (.reg [
     ⟨(some 12), none, .mov (.v (.i .i64 1))⟩] [9, 11, 12])
  (.seq
  (.reg [
     ⟨(some 65), none, .mov (.t 9)⟩,
     ⟨(some 66), none, .mov (.t 12)⟩,
     ⟨(some 67), none, .call fid_laws_heldLifeS false [.im, .im] [(.t 65), (.t 66)]⟩,
     ⟨(some 12), none, .mov (.t 67)⟩] [11, 12])
  (.seq
  (.seq
   (.reg [
      ⟨(some 68), none, .mov (.t 12)⟩,
      ⟨(some 69), none, .bin .lss (.t 68) (.v (.i .i64 0))⟩] [11, 12, 69])
   (.cond (.t 69)
   (.seq
    (.reg [
       ⟨(some 6), none, .mov (.v (.b false))⟩] [6])
    (.ret))
   (.skip)))
  (.seq
  (.seq
   (.reg [
      ⟨(some 70), none, .mov (.t 12)⟩,
      ⟨(some 71), none, .mov (.t 11)⟩,
      ⟨(some 72), none, .bin .neq (.t 70) (.t 71)⟩] [72])
   (.cond (.t 72)
   (.seq
    (.reg [
       ⟨(some 6), none, .mov (.v (.b false))⟩] [6])
    (.ret))
   (.skip)))
  (.seq
  (.reg [
     ⟨(some 6), none, .mov (.v (.b true))⟩] [6])
  (.ret)))))))))))))))))
theorem get_laws_FnExactSpansOf : Go.Proofs.Try.prog.funcs[fid_laws_FnExactSpansOf]? = some Go.Proofs.Try.f6 := Go.Proofs.Try.func6
theorem ok_laws_FnExactSpansOf : okFn Go.Proofs.Try.prog Go.Proofs.Try.f6 73 [] [(6, none)] mc_laws_FnExactSpansOf = true := by kernel_rfl
def mc_laws_FnExactChainEdges : MCode :=
 .seq
  (.reg [
     ⟨(some 2), none, .mov (.v (.b false))⟩] [0])
  (.seq
  (.seq
   (.reg [
      ⟨(some 13), none, .mov (.t 0)⟩,
      ⟨(some 14), none, .len (.t 13)⟩,
      ⟨(some 15), none, .bin .gtr (.t 14) (.v (.i .i64 1048576))⟩] [0, 15])
   (.cond (.t 15)
   (.seq
    (.reg [
       ⟨(some 2), none, .mov (.v (.b true))⟩] [2])
    (.ret))
   (.skip)))
  (.seq
  (.reg [
     ⟨(some 17), none, .mov (.t 0)⟩,
     ⟨(some 18), none, .call fid_laws_toIntS false [.im] [(.t 17)]⟩,
     ⟨(some 19), none, .call fid_spec_ChainEdges false [.im] [(.t 18)]⟩,
     ⟨(some 16), none, .mov (.t 19)⟩,
     ⟨(some 20), none, .extract (.t 16) 0⟩,
     ⟨(some 21), none, .extract (.t 16) 1⟩,
     ⟨(some 3), none, .mov (.t 20)⟩,
     ⟨(some 4), none, .mov (.t 21)⟩] [0, 3, 4])
  (.seq
  (.reg [
     ⟨(some 22), none, .mov (.t 0)⟩,
     ⟨(some 23), none, .call fid_laws_toIntS false [.im] [(.t 22)]⟩,
     ⟨(some 5), none, .mov (.t 23)⟩] [0, 3, 4, 5])
  (.seq
  (.reg [
     ⟨(some 25), none, .mov (.t 5)⟩,
     ⟨(some 26), none, .call fid_impl_ChainEdges false [.im] [(.t 25)]⟩,
     ⟨(some 24), none, .mov (.t 26)⟩,
     ⟨(some 27), none, .extract (.t 24) 0⟩,
     ⟨(some 28), none, .extract (.t 24) 1⟩,
     ⟨(some 6), none, .mov (.t 27)⟩,
     ⟨(some 7), none, .mov (.t 28)⟩] [0, 3, 4, 5, 6, 7])
  (.seq
  (.seq
   (.reg [
      ⟨(some 29), none, .mov (.t 6)⟩,
      ⟨(some 30), none, .mov (.t 3)⟩,
      ⟨(some 31), none, .call fid_laws_eqEdgeS false [.im, .im] [(.t 29), (.t 30)]⟩,
      ⟨(some 32), none, .un .not (.t 31)⟩,
      ⟨(some 33), none, .mov (.t 32)⟩,
      ⟨(some 34), (some (33, false)), .mov (.t 7)⟩,
      ⟨(some 35), (some (33, false)), .mov (.t 4)⟩,
      ⟨(some 36), (some (33, false)), .binb true (.t 34) (.t 35)⟩,
      ⟨(some 37), none, .pick (.t 33) (.v (.b true)) (.t 36)⟩] [0, 3, 4, 5, 6, 7, 37])
   (.cond (.t 37)
   (.seq
    (.reg [
       ⟨(some 2), none, .mov (.v (.b false))⟩] [2])
    (.ret))
   (.skip)))
  (.seq
  (.seq
   (.reg [
      ⟨(some 38), none, .mov (.t 5)⟩,
      ⟨(some 39), none, .mov (.t 0)⟩,
      ⟨(some 40), none, .call fid_laws_toIntS false [.im] [(.t 39)]⟩,
      ⟨(some 41), none, .call fid_laws_eqIntS false [.im, .im] [(.t 38), (.t 40)]⟩,
      ⟨(some 42), none, .un .not (.t 41)⟩] [0, 3, 4, 5, 6, 7, 42])
   (.cond (.t 42)
   (.seq
    (.reg [
       ⟨(some 2), none, .mov (.v (.b false))⟩] [2])
    (.ret))
   (.skip)))
  (.seq
  (.reg [
     ⟨(some 8), none, .mov (.v (.i .i64 1))⟩] [0, 3, 4, 5, 6, 7, 8])
  (.seq
  (.reg [
     ⟨(some 43), none, .mov (.t 5)⟩,
     ⟨(some 44), none, .mov (.t 8)⟩,
     ⟨(some 45), none, .call fid_laws_markIntS false [.io, .im] [(.t 43), (.t 44)]⟩,
     ⟨(some 8), none, .mov (.t 45)⟩] [0, 3, 4, 6, 7, 8])
  (.seq
  (.seq
   (.reg [
      ⟨(some 46), none, .mov (.t 8)⟩,
      ⟨(some 47), none, .bin .lss (.t 46) (.v (.i .i64 0))⟩,
      ⟨(some 48), none, .mov (.t 47)⟩,
      ⟨(some 49), (some (48, false)), .mov (.t 6)⟩,
      ⟨(some 50), (some (48, false)), .mov (.t 3)⟩,
      ⟨(some 51), (some (48, false)), .call fid_laws_eqEdgeS false [.im, .im] [(.t 49), (.t 50)]⟩,
      ⟨(some 52), (some (48, false)), .un .not (.t 51)⟩,
      ⟨(some 53), none, .pick (.t 48) (.v (.b true)) (.t 52)⟩,
      ⟨(some 54), none, .mov (.t 53)⟩,
      ⟨(some 55), (some (54, false)), .mov (.t 7)⟩,
      ⟨(some 56), (some (54, false)), .mov (.t 4)⟩,
      ⟨(some 57), (some (54, false)), .binb true (.t 55) (.t 56)⟩,
      ⟨(some 58), none, .pick (.t 54) (.v (.b true)) (.t 57)⟩] [0, 3, 4, 6, 58])
   (.cond (.t 58)
   (.seq
    (.reg [
       ⟨(some 2), none, .mov (.v (.b false))⟩] [2])
    (.ret))
   (.skip)))
  (.seq
  (.reg [
     ⟨(some 9), none, .mov (.v (.i .i64 1))⟩] [0, 3, 4, 6, 9])
  (.seq
  (.reg [
     ⟨(some 59), none, .mov (.t 6)⟩,
     ⟨(some 60), none, .mov (.t 9)⟩,
     ⟨(some 61), none, .call fid_laws_markEdgeS false [.io, .im] [(.t 59), (.t 60)]⟩,
     ⟨(some 9), none, .mov (.t 61)⟩] [0, 3, 4, 6, 9])
  (.seq
  (.reg [
     ⟨(some 10), none, .mov (.v (.i .i64 1))⟩] [0, 3, 4, 6, 9, 10])
  (.seq
  (.reg [
     ⟨(some 62), none, .mov (.t 6)⟩,
     ⟨(some 63), none, .mov (.t 10)⟩,
     ⟨(some 64), none, .call fid_laws_heldEdgeS false [.im, .im] [(.t 62), (.t 63)]⟩,
     ⟨(some 10), none, .mov (.t 64)⟩] [0, 3, 4, 6, 9, 10])
  (.seq
  (.seq
   (.reg [
      ⟨(some 65), none, .mov (.t 10)⟩,
      ⟨(some 66), none, .bin .lss (.t 65) (.v (.i .i64 0))⟩] [0, 3, 4, 6, 9, 10, 66])
   (.cond (.t 66)
   (.seq
    (.reg [
       ⟨(some 2), none, .mov (.v (.b false))⟩] [2])
    (.ret))
   (.skip)))
  (.seq
  (.seq
   (.reg [
      ⟨(some 67), none, .mov (.t 10)⟩,
      ⟨(some 68), none, .mov (.t 9)⟩,
      ⟨(some 69), none, .bin .neq (.t 67) (.t 68)⟩] [0, 3, 4, 6, 9, 69])
   (.cond (.t 69)
   (.seq
    (.reg [
       ⟨(some 2), none, .mov (.v (.b false))⟩] [2])
    (.ret))
   (.skip)))
  (.seq
  (.reg [
     ⟨(some 71), none, .mov (.t 0)⟩,
     ⟨(some 72), none, .call fid_laws_toIntS false [.im] [(.t 71)]⟩,
     ⟨(some 73), none, .call fid_impl_ChainEdges false [.im] [(.t 72)]⟩,
     ⟨(some 70), none, .mov (.t 73)⟩,
     ⟨(some 74), none, .extract (.t 70) 0⟩,
     ⟨(some 75), none, .extract (.t 70) 1⟩,
     ⟨(some 11), none, .mov (.t 74)⟩,
     ⟨(some 12), none, .mov (.t 75)⟩] [3, 4, 6, 9, 11, 12])
  (.seq
  (.seq
   (.reg [
      ⟨(some 76), none, .mov (.t 11)⟩,
      ⟨(some 77), none, .mov (.t 3)⟩,
      ⟨(some 78), none, .call fid_laws_eqEdgeS false [.im, .im] [(.t 76), (.t 77)]⟩,
      ⟨(some 79), none, .un .not (.t 78)⟩,
      ⟨(some 80), none, .mov (.t 79)⟩,
      ⟨(some 81), (some (80, false)), .mov (.t 12)⟩,
      ⟨(some 82), (some (80, false)), .mov (.t 4)⟩,
      ⟨(some 83), (some (80, false)), .binb true (.t 81) (.t 82)⟩,
      ⟨(some 84), none, .pick (.t 80) (.v (.b true)) (.t 83)⟩] [6, 9, 84])
   (.cond (.t 84)
   (.seq
    (.reg [
       ⟨(some 2), none, .mov (.v (.b false))⟩] [2])
    (.ret))
   (.skip)))
  (.seq
  (.reg [
     ⟨(some 10), none, .mov (.v (.i .i64 1))⟩] [6, 9, 10])
  (.seq
  (.reg [
     ⟨(some 85), none, .mov (.t 6)⟩,
     ⟨(some 86), none, .mov (.t 10)⟩,
     ⟨(some 87), none, .call fid_laws_heldEdgeS false [.im, .im] [(.t 85), (.t 86)]⟩,
     ⟨(some 10), none, .mov (.t 87)⟩] [9, 10])
  (.seq
  (.seq
   (.reg [
      ⟨(some 88), none, .mov (.t 10)⟩,
      ⟨(some 89), none, .bin .lss (.t 88) (.v (.i .i64 0))⟩] [9, 10, 89])
   (.cond (.t 89)
   (.seq
    (.reg [
       ⟨(some 2), none, .mov (.v (.b false))⟩] [2])
    (.ret))
   (.skip)))
  (.seq
  (.seq
   (.reg [
      ⟨(some 90), none, .mov (.t 10)⟩,
      ⟨(some 91), none, .mov (.t 9)⟩,
      ⟨(some 92), none, .bin .neq (.t 90) (.t 91)⟩] [92])
   (.cond (.t 92)
   (.seq
    (.reg [
       ⟨(some 2), none, .mov (.v (.b false))⟩] [2])
    (.ret))
   (.skip)))
  (.seq
  (.reg [
     ⟨(some 2), none, .mov (.v (.b true))⟩] [2])
  (.ret)))))))))))))))))))))))
theorem get_laws_FnExactChainEdges : Go.Proofs.Try.prog.funcs[fid_laws_FnExactChainEdges]? = some Go.Proofs.Try.f7 := Go.Proofs.Try.func7
theorem ok_laws_FnExactChainEdges : okFn Go.Proofs.Try.prog Go.Proofs.Try.f7 93 [] [(2, none)] mc_laws_FnExactChainEdges = true := by kernel_rfl
def mc_laws_FnExactRootOf : MCode :=
 .seq
  (.reg [
     ⟨(some 2), none, .box 2 (.t 0)⟩,
     ⟨(some 4), none, .mov (.v (.b false))⟩] [1, 2])
  (.seq
  (.reg [
     ⟨(some 5), none, .mov (.v (.i .i64 1048576))⟩] [1, 2, 5])
  (.seq
  (.reg [
     ⟨(some 11), none, .load true 2 (.t 2)⟩,
     ⟨(some 12), none, .mov (.t 5)⟩,
     ⟨(some 13), none, .call fid_laws_szRooted false [.im, .im] [(.t 11), (.t 12)]⟩,
     ⟨(some 5), none, .mov (.t 13)⟩] [1, 2, 5])
  (.seq
  (.seq
   (.reg [
      ⟨(some 14), none, .mov (.t 5)⟩,
      ⟨(some 15), none, .bin .lss (.t 14) (.v (.i .i64 0))⟩] [1, 2, 15])
   (.cond (.t 15)
   (.seq
    (.reg [
       ⟨(some 4), none, .mov (.v (.b true))⟩] [4])
    (.ret))
   (.skip)))
  (.seq
  (.reg [
     ⟨(some 17), none, .load true 2 (.t 2)⟩,
     ⟨(some 18), none, .call fid_laws_toRooted false [.im] [(.t 17)]⟩,
     ⟨(some 19), none, .mov (.t 1)⟩,
     ⟨(some 20), none, .call fid_spec_RootOf false [.im, .im] [(.t 18), (.t 19)]⟩,
     ⟨(some 16), none, .mov (.t 20)⟩,
     ⟨(some 21), none, .extract (.t 16) 0⟩,
     ⟨(some 22), none, .extract (.t 16) 1⟩,
     ⟨(some 6), none, .mov (.t 21)⟩,
     ⟨(some 7), none, .mov (.t 22)⟩] [1, 2, 6, 7])
  (.seq
  (.reg [
     ⟨(some 23), none, .load true 2 (.t 2)⟩,
     ⟨(some 24), none, .call fid_laws_toRooted false [.im] [(.t 23)]⟩,
     ⟨(some 8), none, .alloc [.nl 1, .nl 1]⟩,
     ⟨none, none, .store 2 (.t 8) (.t 24)⟩] [1, 2, 6, 7, 8])
  (.seq
  (.reg [
     ⟨(some 26), none, .load true 2 (.t 8)⟩,
     ⟨(some 27), none, .mov (.t 1)⟩,
     ⟨(some 28), none, .call fid_impl_RootOf false [.im, .im] [(.t 26), (.t 27)]⟩,
     ⟨(some 25), none, .mov (.t 28)⟩,
     ⟨(some 29), none, .extract (.t 25) 0⟩,
     ⟨(some 30), none, .extract (.t 25) 1⟩,
     ⟨(some 9), none, .mov (.t 29)⟩,
     ⟨(some 10), none, .mov (.t 30)⟩] [2, 6, 7, 8, 9, 10])
  (.seq
  (.seq
   (.reg [
      ⟨(some 31), none, .mov (.t 9)⟩,
      ⟨(some 32), none, .mov (.t 6)⟩,
      ⟨(some 33), none, .bin .neq (.t 31) (.t 32)⟩,
      ⟨(some 34), none, .mov (.t 33)⟩,
      ⟨(some 35), (some (34, false)), .mov (.t 10)⟩,
      ⟨(some 36), (some (34, false)), .mov (.t 7)⟩,
      ⟨(some 37), (some (34, false)), .binb true (.t 35) (.t 36)⟩,
      ⟨(some 38), none, .pick (.t 34) (.v (.b true)) (.t 37)⟩] [2, 8, 38])
   (.cond (.t 38)
   (.seq
    (.reg [
       ⟨(some 4), none, .mov (.v (.b false))⟩] [4])
    (.ret))
   (.skip)))
  (.seq
  (.seq
   (.draw [0, 0, 2, 7, 15] [
      ⟨(some 39), none, .load true 2 (.t 8)⟩,
      ⟨(some 40), none, .load true 2 (.t 2)⟩,
      ⟨(some 41), none, .call fid_laws_toRooted false [.im] [(.t 40)]⟩,
      ⟨(some 42), none, .call fid_laws_eqRooted false [.im, .im] [(.t 39), (.t 41)]⟩,
      ⟨(some 43), none, .un .not (.t 42)⟩] [43])
   (.cond (.t 43)
   (.seq
    (.reg [
       ⟨(some 4), none, .mov (.v (.b false))⟩] [4])
    (.ret))
   (.skip)))
  (.seq
  (.reg [
     ⟨(some 4), none, .mov (.v (.b true))⟩] [4])
  (.ret))))))))))
theorem get_laws_FnExactRootOf : Go.Proofs.Try.prog.funcs[fid_laws_FnExactRootOf]? = some Go.Proofs.Try.f8 := Go.Proofs.Try.func8
theorem ok_laws_FnExactRootOf : okFn Go.Proofs.Try.prog Go.Proofs.Try.f8 44 [] [(4, none)] mc_laws_FnExactRootOf = true := by kernel_rfl
def mc_laws_FnExactWayUp : MCode :=
 .seq
  (.reg [
     ⟨(some 2), none, .box 2 (.t 0)⟩,
     ⟨(some 4), none, .mov (.v (.b false))⟩] [1, 2])
  (.seq
  (.reg [
     ⟨(some 5), none, .mov (.v (.i .i64 1048576))⟩] [1, 2, 5])
  (.seq
  (.reg [
     ⟨(some 16), none, .load true 2 (.t 2)⟩,
     ⟨(some 17), none, .mov (.t 5)⟩,
     ⟨(some 18), none, .call fid_laws_szRooted false [.im, .im] [(.t 16), (.t 17)]⟩,
     ⟨(some 5), none, .mov (.t 18)⟩] [1, 2, 5])
  (.seq
  (.seq
   (.reg [
      ⟨(some 19), none, .mov (.t 5)⟩,
      ⟨(some 20), none, .bin .lss (.t 19) (.v (.i .i64 0))⟩] [1, 2, 20])
   (.cond (.t 20)
   (.seq
    (.reg [
       ⟨(some 4), none, .mov (.v (.b true))⟩] [4])
    (.ret))
   (.skip)))
  (.seq
  (.reg [
     ⟨(some 22), none, .load true 2 (.t 2)⟩,
     ⟨(some 23), none, .call fid_laws_toRooted false [.im] [(.t 22)]⟩,
     ⟨(some 24), none, .mov (.t 1)⟩,
     ⟨(some 25), none, .call fid_spec_WayUp false [.im, .im] [(.t 23), (.t 24)]⟩,
     ⟨(some 21), none, .mov (.t 25)⟩,
     ⟨(some 26), none, .extract (.t 21) 0⟩,
     ⟨(some 27), none, .extract (.t 21) 1⟩,
     ⟨(some 6), none, .mov (.t 26)⟩,
     ⟨(some 7), none, .mov (.t 27)⟩] [1, 2, 6, 7])
  (.seq
  (.reg [
     ⟨(some 28), none, .load true 2 (.t 2)⟩,
     ⟨(some 29), none, .call fid_laws_toRooted false [.im] [(.t 28)]⟩,
     ⟨(some 8), none, .alloc [.nl 1, .nl 1]⟩,
     ⟨none, none, .store 2 (.t 8) (.t 29)⟩] [1, 2, 6, 7, 8])
  (.seq
  (.reg [
     ⟨(some 31), none, .load true 2 (.t 8)⟩,
     ⟨(some 32), none, .mov (.t 1)⟩,
     ⟨(some 33), none, .call fid_impl_WayUp false [.im, .im] [(.t 31), (.t 32)]⟩,
     ⟨(some 30), none, .mov (.t 33)⟩,
     ⟨(some 34), none, .extract (.t 30) 0⟩,
     ⟨(some 35), none, .extract (.t 30) 1⟩,
     ⟨(some 9), none, .mov (.t 34)⟩,
     ⟨(some 10), none, .mov (.t 35)⟩] [1, 2, 6, 7, 8, 9, 10])
  (.seq
  (.seq
   (.reg [
      ⟨(some 36), none, .mov (.t 9)⟩,
      ⟨(some 37), none, .mov (.t 6)⟩,
      ⟨(some 38), none, .call fid_laws_eqIntS false [.im, .im] [(.t 36), (.t 37)]⟩,
      ⟨(some 39), none, .un .not (.t 38)⟩,
      ⟨(some 40), none, .mov (.t 39)⟩,
      ⟨(some 41), (some (40, false)), .mov (.t 10)⟩,
      ⟨(some 42), (some (40, false)), .mov (.t 7)⟩,
      ⟨(some 43), (some (40, false)), .binb true (.t 41) (.t 42)⟩,
      ⟨(some 44), none, .pick (.t 40) (.v (.b true)) (.t 43)⟩] [1, 2, 6, 7, 8, 9, 10, 44])
   (.cond (.t 44)
   (.seq
    (.reg [
       ⟨(some 4), none, .mov (.v (.b false))⟩] [4])
    (.ret))
   (.skip)))
  (.seq
  (.seq
   (.draw [0, 0, 2, 7, 15] [
      ⟨(some 45), none, .load true 2 (.t 8)⟩,
      ⟨(some 46), none, .load true 2 (.t 2)⟩,
      ⟨(some 47), none, .call fid_laws_toRooted false [.im] [(.t 46)]⟩,
      ⟨(some 48), none, .call fid_laws_eqRooted false [.im, .im] [(.t 45), (.t 47)]⟩,
      ⟨(some 49), none, .un .not (.t 48)⟩] [1, 2, 6, 7, 8, 9, 10, 49])
   (.cond (.t 49)
   (.seq
    (.reg [
       ⟨(some 4), none, .mov (.v (.b false))⟩] [4])
    (.ret))
   (.skip)))
  (.seq
  (.reg [
     ⟨(some 11), none, .mov (.v (.i .i64 1))⟩] [1, 2, 6, 7, 8, 9, 10, 11])
  (.seq
  (.reg [
     ⟨(some 50), none, .load true 2 (.t 8)⟩,
     ⟨(some 51), none, .mov (.t 11)⟩,
     ⟨(some 52), none, .call fid_laws_markRooted false [.io, .im] [(.t 50), (.t 51)]⟩,
     ⟨(some 11), none, .mov (.t 52)⟩] [1, 2, 6, 7, 9, 10, 11])
  (.seq
  (.seq
   (.reg [
      ⟨(some 53), none, .mov (.t 11)⟩,
      ⟨(some 54), none, .bin .lss (.t 53) (.v (.i .i64 0))⟩,
      ⟨(some 55), none, .mov (.t 54)⟩,
      ⟨(some 56), (some (55, false)), .mov (.t 9)⟩,
      ⟨(some 57), (some (55, false)), .mov (.t 6)⟩,
      ⟨(some 58), (some (55, false)), .call fid_laws_eqIntS false [.im, .im] [(.t 56), (.t 57)]⟩,
      ⟨(some 59), (some (55, false)), .un .not (.t 58)⟩,
      ⟨(some 60), none, .pick (.t 55) (.v (.b true)) (.t 59)⟩,
      ⟨(some 61), none, .mov (.t 60)⟩,
      ⟨(some 62), (some (61, false)), .mov (.t 10)⟩,
      ⟨(some 63), (some (61, false)), .mov (.t 7)⟩,
      ⟨(some 64), (some (61, false)), .binb true (.t 62) (.t 63)⟩,
      ⟨(some 65), none, .pick (.t 61) (.v (.b true)) (.t 64)⟩] [1, 2, 6, 7, 9, 65])
   (.cond (.t 65)
   (.seq
    (.reg [
       ⟨(some 4), none, .mov (.v (.b false))⟩] [4])
    (.ret))
   (.skip)))
  (.seq
  (.reg [
     ⟨(some 12), none, .mov (.v (.i .i64 1))⟩] [1, 2, 6, 7, 9, 12])
  (.seq
  (.reg [
     ⟨(some 66), none, .mov (.t 9)⟩,
     ⟨(some 67), none, .mov (.t 12)⟩,
     ⟨(some 68), none, .call fid_laws_markIntS false [.io, .im] [(.t 66), (.t 67)]⟩,
     ⟨(some 12), none, .mov (.t 68)⟩] [1, 2, 6, 7, 9, 12])
  (.seq
  (.reg [
     ⟨(some 13), none, .mov (.v (.i .i64 1))⟩] [1, 2, 6, 7, 9, 12, 13])
  (.seq
  (.reg [
     ⟨(some 69), none, .mov (.t 9)⟩,
     ⟨(some 70), none, .mov (.t 13)⟩,
     ⟨(some 71), none, .call fid_laws_heldIntS false [.im, .im] [(.t 69), (.t 70)]⟩,
     ⟨(some 13), none, .mov (.t 71)⟩] [1, 2, 6, 7, 9, 12, 13])
  (.seq
  (.seq
   (.reg [
      ⟨(some 72), none, .mov (.t 13)⟩,
      ⟨(some 73), none, .bin .lss (.t 72) (.v (.i .i64 0))⟩] [1, 2, 6, 7, 9, 12, 13, 73])
   (.cond (.t 73)
   (.seq
    (.reg [
       ⟨(some 4), none, .mov (.v (.b false))⟩] [4])
    (.ret))
   (.skip)))
  (.seq
  (.seq
   (.reg [
      ⟨(some 74), none, .mov (.t 13)⟩,
      ⟨(some 75), none, .mov (.t 12)⟩,
      ⟨(some 76), none, .bin .neq (.t 74) (.t 75)⟩] [1, 2, 6, 7, 9, 12, 76])
   (.cond (.t 76)
   (.seq
    (.reg [
       ⟨(some 4), none, .mov (.v (.b false))⟩] [4])
    (.ret))
   (.skip)))
  (.seq
  (.reg [
     ⟨(some 78), none, .load true 2 (.t 2)⟩,
     ⟨(some 79), none, .call fid_laws_toRooted false [.im] [(.t 78)]⟩,
     ⟨(some 80), none, .mov (.t 1)⟩,
     ⟨(some 81), none, .call fid_impl_WayUp false [.im, .im] [(.t 79), (.t 80)]⟩,
     ⟨(some 77), none, .mov (.t 81)⟩,
     ⟨(some 82), none, .extract (.t 77) 0⟩,
     ⟨(some 83), none, .extract (.t 77) 1⟩,
     ⟨(some 14), none, .mov (.t 82)⟩,
     ⟨(some 15), none, .mov (.t 83)⟩] [6, 7, 9, 12, 14, 15])
  (.seq
  (.seq
   (.reg [
      ⟨(some 84), none, .mov (.t 14)⟩,
      ⟨(some 85), none, .mov (.t 6)⟩,
      ⟨(some 86), none, .call fid_laws_eqIntS false [.im, .im] [(.t 84), (.t 85)]⟩,
      ⟨(some 87), none, .un .not (.t 86)⟩,
      ⟨(some 88), none, .mov (.t 87)⟩,
      ⟨(some 89), (some (88, false)), .mov (.t 15)⟩,
      ⟨(some 90), (some (88, false)), .mov (.t 7)⟩,
      ⟨(some 91), (some (88, false)), .binb true (.t 89) (.t 90)⟩,
      ⟨(some 92), none, .pick (.t 88) (.v (.b true)) (.t 91)⟩] [9, 12, 92])
   (.cond (.t 92)
   (.seq
    (.reg [
       ⟨(some 4), none, .mov (.v (.b false))⟩] [4])
    (.ret))
   (.skip)))
  (.seq
  (.reg [
     ⟨(some 13), none, .mov (.v (.i .i64 1))⟩] [9, 12, 13])
  (.seq
  (.reg [
     ⟨(some 93), none, .mov (.t 9)⟩,
     ⟨(some 94), none, .mov (.t 13)⟩,
     ⟨(some 95), none, .call fid_laws_heldIntS false [.im, .im] [(.t 93), (.t 94)]⟩,
     ⟨(some 13), none, .mov (.t 95)⟩] [12, 13])
  (.seq
  (.seq
   (.reg [
      ⟨(some 96), none, .mov (.t 13)⟩,
      ⟨(some 97), none, .bin .lss (.t 96) (.v (.i .i64 0))⟩] [12, 13, 97])
   (.cond (.t 97)
   (.seq
    (.reg [
       ⟨(some 4), none, .mov (.v (.b false))⟩] [4])
    (.ret))
   (.skip)))
  (.seq
  (.seq
   (.reg [
      ⟨(some 98), none, .mov (.t 13)⟩,
      ⟨(some 99), none, .mov (.t 12)⟩,
      ⟨(some 100), none, .bin .neq (.t 98) (.t 99)⟩] [100])
   (.cond (.t 100)
   (.seq
    (.reg [
       ⟨(some 4), none, .mov (.v (.b false))⟩] [4])
    (.ret))
   (.skip)))
  (.seq
  (.reg [
     ⟨(some 4), none, .mov (.v (.b true))⟩] [4])
  (.ret)))))))))))))))))))))))))
theorem get_laws_FnExactWayUp : Go.Proofs.Try.prog.funcs[fid_laws_FnExactWayUp]? = some Go.Proofs.Try.f9 := Go.Proofs.Try.func9
theorem ok_laws_FnExactWayUp : okFn Go.Proofs.Try.prog Go.Proofs.Try.f9 101 [] [(4, none)] mc_laws_FnExactWayUp = true := by kernel_rfl
def mc_laws_FnWayUp : MCode :=
 .seq
  (.reg [
     ⟨(some 2), none, .mov (.v (.b false))⟩] [0])
  (.seq
  (.seq
   (.reg [
      ⟨(some 12), none, .mov (.t 0)⟩,
      ⟨(some 13), none, .len (.t 12)⟩,
      ⟨(some 14), none, .bin .gtr (.t 13) (.v (.i .i64 1048576))⟩] [0, 14])
   (.cond (.t 14)
   (.seq
    (.reg [
       ⟨(some 2), none, .mov (.v (.b true))⟩] [2])
    (.ret))
   (.skip)))
  (.seq
  (.reg [
     ⟨(some 16), none, .mov (.t 0)⟩,
     ⟨(some 17), none, .call fid_spec_DrawWayUp false [.im] [(.t 16)]⟩,
     ⟨(some 15), none, .mov (.t 17)⟩,
     ⟨(some 18), none, .extract (.t 15) 0⟩,
     ⟨(some 19), none, .extract (.t 15) 1⟩,
     ⟨(some 3), none, .alloc [.nl 1, .nl 1]⟩,
     ⟨none, none, .store 2 (.t 3) (.t 18)⟩,
     ⟨(some 4), none, .mov (.t 19)⟩] [3, 4])
  (.seq
  (.reg [
     ⟨(some 21), none, .load true 2 (.t 3)⟩,
     ⟨(some 22), none, .mov (.t 4)⟩,
     ⟨(some 23), none, .call fid_impl_WayUp false [.im, .im] [(.t 21), (.t 22)]⟩,
     ⟨(some 20), none, .mov (.t 23)⟩,
     ⟨(some 24), none, .extract (.t 20) 0⟩,
     ⟨(some 25), none, .extract (.t 20) 1⟩,
     ⟨(some 5), none, .mov (.t 24)⟩,
     ⟨(some 6), none, .mov (.t 25)⟩] [3, 4, 5, 6])
  (.seq
  (.reg [
     ⟨(some 27), none, .load true 2 (.t 3)⟩,
     ⟨(some 28), none, .mov (.t 4)⟩,
     ⟨(some 29), none, .call fid_spec_WayUp false [.im, .im] [(.t 27), (.t 28)]⟩,
     ⟨(some 26), none, .mov (.t 29)⟩,
     ⟨(some 30), none, .extract (.t 26) 0⟩,
     ⟨(some 31), none, .extract (.t 26) 1⟩,
     ⟨(some 7), none, .mov (.t 30)⟩,
     ⟨(some 8), none, .mov (.t 31)⟩] [3, 4, 5, 6, 7, 8])
  (.seq
  (.seq
   (.reg [
      ⟨(some 32), none, .mov (.t 5)⟩,
      ⟨(some 33), none, .mov (.t 7)⟩,
      ⟨(some 34), none, .call fid_laws_dyInts false [.im, .im] [(.t 32), (.t 33)]⟩,
      ⟨(some 35), none, .un .not (.t 34)⟩,
      ⟨(some 36), none, .mov (.t 35)⟩,
      ⟨(some 37), (some (36, false)), .mov (.t 6)⟩,
      ⟨(some 38), (some (36, false)), .mov (.t 8)⟩,
      ⟨(some 39), (some (36, false)), .binb true (.t 37) (.t 38)⟩,
      ⟨(some 40), none, .pick (.t 36) (.v (.b true)) (.t 39)⟩,
      ⟨(some 41), none, .mov (.t 40)⟩,
      ⟨(some 42), (some (41, false)), .mov (.t 6)⟩,
      ⟨(some 43), (some (41, false)), .un .not (.t 42)⟩,
      ⟨(some 44), none, .pick (.t 41) (.v (.b true)) (.t 43)⟩] [3, 4, 5, 6, 7, 8, 44])
   (.cond (.t 44)
   (.seq
    (.reg [
       ⟨(some 45), none, .mov (.t 5)⟩,
       ⟨(some 46), none, .mov (.t 7)⟩,
       ⟨(some 47), none, .call fid_laws_dyInts false [.im, .im] [(.t 45), (.t 46)]⟩,
       ⟨(some 48), none, .mov (.t 47)⟩,
       ⟨(some 49), (some (48, true)), .mov (.t 6)⟩,
       ⟨(some 50), (some (48, true)), .mov (.t 8)⟩,
       ⟨(some 51), (some (48, true)), .binb false (.t 49) (.t 50)⟩,
       ⟨(some 52), none, .pick (.t 48) (.t 51) (.v (.b false))⟩,
       ⟨(some 2), none, .mov (.t 52)⟩] [2])
    (.ret))
   (.skip)))
  (.seq
  (.seq
   (.reg [
      ⟨(some 9), none, .mov (.v (.i .i64 0))⟩] [3, 4, 5, 9])
   (.block 0
   (.loop [3, 4, 5, 9]
    (.seq
     (.seq
      (.reg [
         ⟨(some 53), none, .mov (.t 9)⟩,
         ⟨(some 54), none, .mov (.t 5)⟩,
         ⟨(some 55), none, .len (.t 54)⟩,
         ⟨(some 56), none, .bin .lss (.t 53) (.t 55)⟩] [3, 4, 5, 9, 56])
      (.cond (.t 56)
      (.skip)
      (.exit 0)))
     (.seq
     (.block 1
      (.seq
       (.draw [0, 0, 3, 0, 0, 24, 56, 127, 255, 511, 1023, 2047, 4095, 8191, 4095, 4095, 36863, 118783, 249855, 524287, 1048575, 4095, 4095, 6295551, 14684159, 33554431, 67108863, 134217727] [
          ⟨(some 59), none, .mov (.t 5)⟩,
          ⟨(some 60), none, .mov (.t 9)⟩,
          ⟨(some 61), none, .slice 1 (.t 59) none (some (.t 60))⟩,
          ⟨(some 62), none, .mov (.t 5)⟩,
          ⟨(some 63), none, .mov (.t 9)⟩,
          ⟨(some 64), none, .indexAddr 1 (.t 62) (.t 63)⟩,
          ⟨(some 65), none, .load false 1 (.t 64)⟩,
          ⟨(some 66), none, .call fid_laws_dyIn false [.im, .im] [(.t 61), (.t 65)]⟩,
          ⟨(some 67), none, .mov (.t 66)⟩,
          ⟨(some 68), (some (67, false)), .mov (.t 9)⟩,
          ⟨(some 69), (some (67, false)), .bin .gtr (.t 68) (.v (.i .i64 0))⟩,
          ⟨(some 70), (some (67, false)), .mov (.t 69)⟩,
          ⟨(some 71), (some (70, true)), .fieldAddr 0 (.t 3)⟩,
          ⟨(some 72), (some (70, true)), .load false 1 (.t 71)⟩,
          ⟨(some 73), (some (70, true)), .mov (.t 5)⟩,
          ⟨(some 74), (some (70, true)), .mov (.t 9)⟩,
          ⟨(some 75), (some (70, true)), .bin .sub (.t 74) (.v (.i .i64 1))⟩,
          ⟨(some 76), (some (70, true)), .indexAddr 1 (.t 73) (.t 75)⟩,
          ⟨(some 77), (some (70, true)), .load false 1 (.t 76)⟩,
          ⟨(some 78), (some (70, true)), .indexAddr 1 (.t 72) (.t 77)⟩,
          ⟨(some 79), (some (70, true)), .load false 1 (.t 78)⟩,
          ⟨(some 80), (some (70, true)), .mov (.t 5)⟩,
          ⟨(some 81), (some (70, true)), .mov (.t 9)⟩,
          ⟨(some 82), (some (70, true)), .indexAddr 1 (.t 80) (.t 81)⟩,
          ⟨(some 83), (some (70, true)), .load false 1 (.t 82)⟩,
          ⟨(some 84), (some (70, true)), .bin .neq (.t 79) (.t 83)⟩,
          ⟨(some 85), (some (67, false)), .pick (.t 70) (.t 84) (.v (.b false))⟩,
          ⟨(some 86), none, .pick (.t 67) (.v (.b true)) (.t 85)⟩] [3, 4, 5, 9, 86])
       (.cond (.t 86)
       (.seq
        (.reg [
           ⟨(some 2), none, .mov (.v (.b false))⟩] [2])
        (.ret))
       (.skip))))
     (.reg [
       ⟨(some 57), none, .mov (.t 9)⟩,
       ⟨(some 58), none, .bin .add (.t 57) (.v (.i .i64 1))⟩,
       ⟨(some 9), none, .mov (.t 58)⟩] [3, 4, 5, 9]))))))
  (.seq
  (.reg [
     ⟨(some 88), none, .load true 2 (.t 3)⟩,
     ⟨(some 89), none, .mov (.t 4)⟩,
     ⟨(some 90), none, .call fid_impl_RootOf false [.im, .im] [(.t 88), (.t 89)]⟩,
     ⟨(some 87), none, .mov (.t 90)⟩,
     ⟨(some 91), none, .extract (.t 87) 0⟩,
     ⟨(some 92), none, .extract (.t 87) 1⟩,
     ⟨(some 10), none, .mov (.t 91)⟩,
     ⟨(some 11), none, .mov (.t 92)⟩] [3, 4, 5, 10, 11])
  (.seq
  (.draw [0, 1, 3, 7, 15, 3, 63, 127, 255, 511, 511, 1535, 3583, 8191, 16383, 511, 65535, 131071, 262143, 524287, 1048575, 524287, 4194303, 8388607, 16777215, 33554431, 67108863, 134217727, 268435455, 134217727, 1073741823, 2147483647, 4294967295, 8589934591] [
     ⟨(some 93), none, .mov (.t 11)⟩,
     ⟨(some 94), none, .mov (.t 93)⟩,
     ⟨(some 95), (some (94, true)), .mov (.t 5)⟩,
     ⟨(some 96), (some (94, true)), .indexAddr 1 (.t 95) (.v (.i .i64 0))⟩,
     ⟨(some 97), (some (94, true)), .load false 1 (.t 96)⟩,
     ⟨(some 98), (some (94, true)), .mov (.t 4)⟩,
     ⟨(some 99), (some (94, true)), .bin .eql (.t 97) (.t 98)⟩,
     ⟨(some 100), none, .pick (.t 94) (.t 99) (.v (.b false))⟩,
     ⟨(some 101), none, .mov (.t 100)⟩,
     ⟨(some 102), (some (101, true)), .mov (.t 5)⟩,
     ⟨(some 103), (some (101, true)), .mov (.t 5)⟩,
     ⟨(some 104), (some (101, true)), .len (.t 103)⟩,
     ⟨(some 105), (some (101, true)), .bin .sub (.t 104) (.v (.i .i64 1))⟩,
     ⟨(some 106), (some (101, true)), .indexAddr 1 (.t 102) (.t 105)⟩,
     ⟨(some 107), (some (101, true)), .load false 1 (.t 106)⟩,
     ⟨(some 108), (some (101, true)), .mov (.t 10)⟩,
     ⟨(some 109), (some (101, true)), .bin .eql (.t 107) (.t 108)⟩,
     ⟨(some 110), none, .pick (.t 101) (.t 109) (.v (.b false))⟩,
     ⟨(some 111), none, .mov (.t 110)⟩,
     ⟨(some 112), (some (111, true)), .fieldAddr 0 (.t 3)⟩,
     ⟨(some 113), (some (111, true)), .load false 1 (.t 112)⟩,
     ⟨(some 114), (some (111, true)), .mov (.t 10)⟩,
     ⟨(some 115), (some (111, true)), .indexAddr 1 (.t 113) (.t 114)⟩,
     ⟨(some 116), (some (111, true)), .load false 1 (.t 115)⟩,
     ⟨(some 117), (some (111, true)), .bin .eql (.t 116) (.v (.i .i64 (-1)))⟩,
     ⟨(some 118), none, .pick (.t 111) (.t 117) (.v (.b false))⟩,
     ⟨(some 119), none, .mov (.t 118)⟩,
     ⟨(some 120), (some (119, true)), .load true 2 (.t 3)⟩,
     ⟨(some 121), (some (119, true)), .call fid_impl_RootedValid false [.im] [(.t 120)]⟩,
     ⟨(some 122), (some (119, true)), .load true 2 (.t 3)⟩,
     ⟨(some 123), (some (119, true)), .call fid_spec_RootedValid false [.im] [(.t 122)]⟩,
     ⟨(some 124), (some (119, true)), .binb false (.t 121) (.t 123)⟩,
     ⟨(some 125), none, .pick (.t 119) (.t 124) (.v (.b false))⟩,
     ⟨(some 2), none, .mov (.t 125)⟩] [2])
  (.ret)))))))))
theorem get_laws_FnWayUp : Go.Proofs.Try.prog.funcs[fid_laws_FnWayUp]? = some Go.Proofs.Try.f10 := Go.Proofs.Try.func10
theorem ok_laws_FnWayUp : okFn Go.Proofs.Try.prog Go.Proofs.Try.f10 126 [] [(2, none)] mc_laws_FnWayUp = true := by kernel_rfl
def mc_laws_FnExactMeetOf : MCode :=
 .seq
  (.reg [
     ⟨(some 3), none, .box 2 (.t 0)⟩,
     ⟨(some 6), none, .mov (.v (.b false))⟩] [1, 2, 3])
  (.seq
  (.reg [
     ⟨(some 7), none, .mov (.v (.i .i64 1048576))⟩] [1, 2, 3, 7])
  (.seq
  (.reg [
     ⟨(some 13), none, .load true 2 (.t 3)⟩,
     ⟨(some 14), none, .mov (.t 7)⟩,
     ⟨(some 15), none, .call fid_laws_szRooted false [.im, .im] [(.t 13), (.t 14)]⟩,
     ⟨(some 7), none, .mov (.t 15)⟩] [1, 2, 3, 7])
  (.seq
  (.seq
   (.reg [
      ⟨(some 16), none, .mov (.t 7)⟩,
      ⟨(some 17), none, .bin .lss (.t 16) (.v (.i .i64 0))⟩] [1, 2, 3, 17])
   (.cond (.t 17)
   (.seq
    (.reg [
       ⟨(some 6), none, .mov (.v (.b true))⟩] [6])
    (.ret))
   (.skip)))
  (.seq
  (.reg [
     ⟨(some 19), none, .load true 2 (.t 3)⟩,
     ⟨(some 20), none, .call fid_laws_toRooted false [.im] [(.t 19)]⟩,
     ⟨(some 21), none, .mov (.t 1)⟩,
     ⟨(some 22), none, .mov (.t 2)⟩,
     ⟨(some 23), none, .call fid_spec_MeetOf false [.im, .im, .im] [(.t 20), (.t 21), (.t 22)]⟩,
     ⟨(some 18), none, .mov (.t 23)⟩,
     ⟨(some 24), none, .extract (.t 18) 0⟩,
     ⟨(some 25), none, .extract (.t 18) 1⟩,
     ⟨(some 8), none, .mov (.t 24)⟩,
     ⟨(some 9), none, .mov (.t 25)⟩] [1, 2, 3, 8, 9])
  (.seq
  (.reg [
     ⟨(some 26), none, .load true 2 (.t 3)⟩,
     ⟨(some 27), none, .call fid_laws_toRooted false [.im] [(.t 26)]⟩,
     ⟨(some 10), none, .alloc [.nl 1, .nl 1]⟩,
     ⟨none, none, .store 2 (.t 10) (.t 27)⟩] [1, 2, 3, 8, 9, 10])
  (.seq
  (.reg [
     ⟨(some 29), none, .load true 2 (.t 10)⟩,
     ⟨(some 30), none, .mov (.t 1)⟩,
     ⟨(some 31), none, .mov (.t 2)⟩,
     ⟨(some 32), none, .call fid_impl_MeetOf false [.im, .im, .im] [(.t 29), (.t 30), (.t 31)]⟩,
     ⟨(some 28), none, .mov (.t 32)⟩,
     ⟨(some 33), none, .extract (.t 28) 0⟩,
     ⟨(some 34), none, .extract (.t 28) 1⟩,
     ⟨(some 11), none, .mov (.t 33)⟩,
     ⟨(some 12), none, .mov (.t 34)⟩] [3, 8, 9, 10, 11, 12])
  (.seq
  (.seq
   (.reg [
      ⟨(some 35), none, .mov (.t 11)⟩,
      ⟨(some 36), none, .mov (.t 8)⟩,
      ⟨(some 37), none, .bin .neq (.t 35) (.t 36)⟩,
      ⟨(some 38), none, .mov (.t 37)⟩,
      ⟨(some 39), (some (38, false)), .mov (.t 12)⟩,
      ⟨(some 40), (some (38, false)), .mov (.t 9)⟩,
      ⟨(some 41), (some (38, false)), .binb true (.t 39) (.t 40)⟩,
      ⟨(some 42), none, .pick (.t 38) (.v (.b true)) (.t 41)⟩] [3, 10, 42])
   (.cond (.t 42)
   (.seq
    (.reg [
       ⟨(some 6), none, .mov (.v (.b false))⟩] [6])
    (.ret))
   (.skip)))
  (.seq
  (.seq
   (.draw [0, 0, 2, 7, 15] [
      ⟨(some 43), none, .load true 2 (.t 10)⟩,
      ⟨(some 44), none, .load true 2 (.t 3)⟩,
      ⟨(some 45), none, .call fid_laws_toRooted false [.im] [(.t 44)]⟩,
      ⟨(some 46), none, .call fid_laws_eqRooted false [.im, .im] [(.t 43), (.t 45)]⟩,
      ⟨(some 47), none, .un .not (.t 46)⟩] [47])
   (.cond (.t 47)
   (.seq
    (.reg [
       ⟨(some 6), none, .mov (.v (.b false))⟩] [6])
    (.ret))
   (.skip)))
  (.seq
  (.reg [
     ⟨(some 6), none, .mov (.v (.b true))⟩] [6])
  (.ret))))))))))
theorem get_laws_FnExactMeetOf : Go.Proofs.Try.prog.funcs[fid_laws_FnExactMeetOf]? = some Go.Proofs.Try.f11 := Go.Proofs.Try.func11
theorem ok_laws_FnExactMeetOf : okFn Go.Proofs.Try.prog Go.Proofs.Try.f11 48 [] [(6, none)] mc_laws_FnExactMeetOf = true := by kernel_rfl
def mc_laws_FnExactCutParent : MCode :=
 .seq
  (.reg [
     ⟨(some 2), none, .box 2 (.t 0)⟩,
     ⟨(some 4), none, .mov (.v (.b false))⟩] [1, 2])
  (.seq
  (.reg [
     ⟨(some 5), none, .mov (.v (.i .i64 1048576))⟩] [1, 2, 5])
  (.seq
  (.reg [
     ⟨(some 16), none, .load true 2 (.t 2)⟩,
     ⟨(some 17), none, .mov (.t 5)⟩,
     ⟨(some 18), none, .call fid_laws_szRooted false [.im, .im] [(.t 16), (.t 17)]⟩,
     ⟨(some 5), none, .mov (.t 18)⟩] [1, 2, 5])
  (.seq
  (.seq
   (.reg [
      ⟨(some 19), none, .mov (.t 5)⟩,
      ⟨(some 20), none, .bin .lss (.t 19) (.v (.i .i64 0))⟩] [1, 2, 20])
   (.cond (.t 20)
   (.seq
    (.reg [
       ⟨(some 4), none, .mov (.v (.b true))⟩] [4])
    (.ret))
   (.skip)))
  (.seq
  (.reg [
     ⟨(some 22), none, .load true 2 (.t 2)⟩,
     ⟨(some 23), none, .call fid_laws_toRooted false [.im] [(.t 22)]⟩,
     ⟨(some 24), none, .mov (.t 1)⟩,
     ⟨(some 25), none, .call fid_spec_CutParent false [.im, .im] [(.t 23), (.t 24)]⟩,
     ⟨(some 21), none, .mov (.t 25)⟩,
     ⟨(some 26), none, .extract (.t 21) 0⟩,
     ⟨(some 27), none, .extract (.t 21) 1⟩,
     ⟨(some 6), none, .alloc [.nl 1, .nl 1]⟩,
     ⟨none, none, .store 2 (.t 6) (.t 26)⟩,
     ⟨(some 7), none, .mov (.t 27)⟩] [1, 2, 6, 7])
  (.seq
  (.reg [
     ⟨(some 28), none, .load true 2 (.t 2)⟩,
     ⟨(some 29), none, .call fid_laws_toRooted false [.im] [(.t 28)]⟩,
     ⟨(some 8), none, .alloc [.nl 1, .nl 1]⟩,
     ⟨none, none, .store 2 (.t 8) (.t 29)⟩] [1, 2, 6, 7, 8])
  (.seq
  (.reg [
     ⟨(some 31), none, .load true 2 (.t 8)⟩,
     ⟨(some 32), none, .mov (.t 1)⟩,
     ⟨(some 33), none, .call fid_impl_CutParent false [.im, .im] [(.t 31), (.t 32)]⟩,
     ⟨(some 30), none, .mov (.t 33)⟩,
     ⟨(some 34), none, .extract (.t 30) 0⟩,
     ⟨(some 35), none, .extract (.t 30) 1⟩,
     ⟨(some 9), none, .alloc [.nl 1, .nl 1]⟩,
     ⟨none, none, .store 2 (.t 9) (.t 34)⟩,
     ⟨(some 10), none, .mov (.t 35)⟩] [1, 2, 6, 7, 8, 9, 10])
  (.seq
  (.seq
   (.reg [
      ⟨(some 36), none, .load true 2 (.t 9)⟩,
      ⟨(some 37), none, .load true 2 (.t 6)⟩,
      ⟨(some 38), none, .call fid_laws_eqRooted false [.im, .im] [(.t 36), (.t 37)]⟩,
      ⟨(some 39), none, .un .not (.t 38)⟩,
      ⟨(some 40), none, .mov (.t 39)⟩,
      ⟨(some 41), (some (40, false)), .mov (.t 10)⟩,
      ⟨(some 42), (some (40, false)), .mov (.t 7)⟩,
      ⟨(some 43), (some (40, false)), .binb true (.t 41) (.t 42)⟩,
      ⟨(some 44), none, .pick (.t 40) (.v (.b true)) (.t 43)⟩] [1, 2, 6, 7, 8, 9, 10, 44])
   (.cond (.t 44)
   (.seq
    (.reg [
       ⟨(some 4), none, .mov (.v (.b false))⟩] [4])
    (.ret))
   (.skip)))
  (.seq
  (.seq
   (.draw [0, 0, 2, 7, 15] [
      ⟨(some 45), none, .load true 2 (.t 8)⟩,
      ⟨(some 46), none, .load true 2 (.t 2)⟩,
      ⟨(some 47), none, .call fid_laws_toRooted false [.im] [(.t 46)]⟩,
      ⟨(some 48), none, .call fid_laws_eqRooted false [.im, .im] [(.t 45), (.t 47)]⟩,
      ⟨(some 49), none, .un .not (.t 48)⟩] [1, 2, 6, 7, 8, 9, 10, 49])
   (.cond (.t 49)
   (.seq
    (.reg [
       ⟨(some 4), none, .mov (.v (.b false))⟩] [4])
    (.ret))
   (.skip)))
  (.seq
  (.reg [
     ⟨(some 11), none, .mov (.v (.i .i64 1))⟩] [1, 2, 6, 7, 8, 9, 10, 11])
  (.seq
  (.reg [
     ⟨(some 50), none, .load true 2 (.t 8)⟩,
     ⟨(some 51), none, .mov (.t 11)⟩,
     ⟨(some 52), none, .call fid_laws_markRooted false [.io, .im] [(.t 50), (.t 51)]⟩,
     ⟨(some 11), none, .mov (.t 52)⟩] [1, 2, 6, 7, 9, 10, 11])
  (.seq
  (.seq
   (.reg [
      ⟨(some 53), none, .mov (.t 11)⟩,
      ⟨(some 54), none, .bin .lss (.t 53) (.v (.i .i64 0))⟩,
      ⟨(some 55), none, .mov (.t 54)⟩,
      ⟨(some 56), (some (55, false)), .load true 2 (.t 9)⟩,
      ⟨(some 57), (some (55, false)), .load true 2 (.t 6)⟩,
      ⟨(some 58), (some (55, false)), .call fid_laws_eqRooted false [.im, .im] [(.t 56), (.t 57)]⟩,
      ⟨(some 59), (some (55, false)), .un .not (.t 58)⟩,
      ⟨(some 60), none, .pick (.t 55) (.v (.b true)) (.t 59)⟩,
      ⟨(some 61), none, .mov (.t 60)⟩,
      ⟨(some 62), (some (61, false)), .mov (.t 10)⟩,
      ⟨(some 63), (some (61, false)), .mov (.t 7)⟩,
      ⟨(some 64), (some (61, false)), .binb true (.t 62) (.t 63)⟩,
      ⟨(some 65), none, .pick (.t 61) (.v (.b true)) (.t 64)⟩] [1, 2, 6, 7, 9, 65])
   (.cond (.t 65)
   (.seq
    (.reg [
       ⟨(some 4), none, .mov (.v (.b false))⟩] [4])
    (.ret))
   (.skip)))
  (.seq
  (.reg [
     ⟨(some 12), none, .mov (.v (.i .i64 1))⟩] [1, 2, 6, 7, 9, 12])
  (.seq
  (.reg [
     ⟨(some 66), none, .load true 2 (.t 9)⟩,
     ⟨(some 67), none, .mov (.t 12)⟩,
     ⟨(some 68), none, .call fid_laws_markRooted false [.io, .im] [(.t 66), (.t 67)]⟩,
     ⟨(some 12), none, .mov (.t 68)⟩] [1, 2, 6, 7, 9, 12])
  (.seq
  (.reg [
     ⟨(some 13), none, .mov (.v (.i .i64 1))⟩] [1, 2, 6, 7, 9, 12, 13])
  (.seq
  (.reg [
     ⟨(some 69), none, .load true 2 (.t 9)⟩,
     ⟨(some 70), none, .mov (.t 13)⟩,
     ⟨(some 71), none, .call fid_laws_heldRooted false [.im, .im] [(.t 69), (.t 70)]⟩,
     ⟨(some 13), none, .mov (.t 71)⟩] [1, 2, 6, 7, 9, 12, 13])
  (.seq
  (.seq
   (.reg [
      ⟨(some 72), none, .mov (.t 13)⟩,
      ⟨(some 73), none, .bin .lss (.t 72) (.v (.i .i64 0))⟩] [1, 2, 6, 7, 9, 12, 13, 73])
   (.cond (.t 73)
   (.seq
    (.reg [
       ⟨(some 4), none, .mov (.v (.b false))⟩] [4])
    (.ret))
   (.skip)))
  (.seq
  (.seq
   (.reg [
      ⟨(some 74), none, .mov (.t 13)⟩,
      ⟨(some 75), none, .mov (.t 12)⟩,
      ⟨(some 76), none, .bin .neq (.t 74) (.t 75)⟩] [1, 2, 6, 7, 9, 12, 76])
   (.cond (.t 76)
   (.seq
    (.reg [
       ⟨(some 4), none, .mov (.v (.b false))⟩] [4])
    (.ret))
   (.skip)))
  (.seq
  (.reg [
     ⟨(some 78), none, .load true 2 (.t 2)⟩,
     ⟨(some 79), none, .call fid_laws_toRooted false [.im] [(.t 78)]⟩,
     ⟨(some 80), none, .mov (.t 1)⟩,
     ⟨(some 81), none, .call fid_impl_CutParent false [.im, .im] [(.t 79), (.t 80)]⟩,
     ⟨(some 77), none, .mov (.t 81)⟩,
     ⟨(some 82), none, .extract (.t 77) 0⟩,
     ⟨(some 83), none, .extract (.t 77) 1⟩,
     ⟨(some 14), none, .alloc [.nl 1, .nl 1]⟩,
     ⟨none, none, .store 2 (.t 14) (.t 82)⟩,
     ⟨(some 15), none, .mov (.t 83)⟩] [6, 7, 9, 12, 14, 15])
  (.seq
  (.seq
   (.reg [
      ⟨(some 84), none, .load true 2 (.t 14)⟩,
      ⟨(some 85), none, .load true 2 (.t 6)⟩,
      ⟨(some 86), none, .call fid_laws_eqRooted false [.im, .im] [(.t 84), (.t 85)]⟩,
      ⟨(some 87), none, .un .not (.t 86)⟩,
      ⟨(some 88), none, .mov (.t 87)⟩,
      ⟨(some 89), (some (88, false)), .mov (.t 15)⟩,
      ⟨(some 90), (some (88, false)), .mov (.t 7)⟩,
      ⟨(some 91), (some (88, false)), .binb true (.t 89) (.t 90)⟩,
      ⟨(some 92), none, .pick (.t 88) (.v (.b true)) (.t 91)⟩] [9, 12, 92])
   (.cond (.t 92)
   (.seq
    (.reg [
       ⟨(some 4), none, .mov (.v (.b false))⟩] [4])
    (.ret))
   (.skip)))
  (.seq
  (.reg [
     ⟨(some 13), none, .mov (.v (.i .i64 1))⟩] [9, 12, 13])
  (.seq
  (.reg [
     ⟨(some 93), none, .load true 2 (.t 9)⟩,
     ⟨(some 94), none, .mov (.t 13)⟩,
     ⟨(some 95), none, .call fid_laws_heldRooted false [.im, .im] [(.t 93), (.t 94)]⟩,
     ⟨(some 13), none, .mov (.t 95)⟩] [12, 13])
  (.seq
  (.seq
   (.reg [
      ⟨(some 96), none, .mov (.t 13)⟩,
      ⟨(some 97), none, .bin .lss (.t 96) (.v (.i .i64 0))⟩] [12, 13, 97])
   (.cond (.t 97)
   (.seq
    (.reg [
       ⟨(some 4), none, .mov (.v (.b false))⟩] [4])
    (.ret))
   (.skip)))
  (.seq
  (.seq
   (.reg [
      ⟨(some 98), none, .mov (.t 13)⟩,
      ⟨(some 99), none, .mov (.t 12)⟩,
      ⟨(some 100), none, .bin .neq (.t 98) (.t 99)⟩] [100])
   (.cond (.t 100)
   (.seq
    (.reg [
       ⟨(some 4), none, .mov (.v (.b false))⟩] [4])
    (.ret))
   (.skip)))
  (.seq
  (.reg [
     ⟨(some 4), none, .mov (.v (.b true))⟩] [4])
  (.ret)))))))))))))))))))))))))
theorem get_laws_FnExactCutParent : Go.Proofs.Try.prog.funcs[fid_laws_FnExactCutParent]? = some Go.Proofs.Try.f12 := Go.Proofs.Try.func12
theorem ok_laws_FnExactCutParent : okFn Go.Proofs.Try.prog Go.Proofs.Try.f12 101 [] [(4, none)] mc_laws_FnExactCutParent = true := by kernel_rfl
def mc_laws_FnExactConnected : MCode :=
 .seq
  (.reg [
     ⟨(some 3), none, .box 2 (.t 0)⟩,
     ⟨(some 6), none, .mov (.v (.b false))⟩] [1, 2, 3])
  (.seq
  (.reg [
     ⟨(some 7), none, .mov (.v (.i .i64 1048576))⟩] [1, 2, 3, 7])
  (.seq
  (.reg [
     ⟨(some 11), none, .load true 2 (.t 3)⟩,
     ⟨(some 12), none, .mov (.t 7)⟩,
     ⟨(some 13), none, .call fid_laws_szGraph false [.im, .im] [(.t 11), (.t 12)]⟩,
     ⟨(some 7), none, .mov (.t 13)⟩] [1, 2, 3, 7])
  (.seq
  (.seq
   (.reg [
      ⟨(some 14), none, .mov (.t 7)⟩,
      ⟨(some 15), none, .bin .lss (.t 14) (.v (.i .i64 0))⟩] [1, 2, 3, 15])
   (.cond (.t 15)
   (.seq
    (.reg [
       ⟨(some 6), none, .mov (.v (.b true))⟩] [6])
    (.ret))
   (.skip)))
  (.seq
  (.reg [
     ⟨(some 16), none, .load true 2 (.t 3)⟩,
     ⟨(some 17), none, .call fid_laws_toGraph false [.im] [(.t 16)]⟩,
     ⟨(some 18), none, .mov (.t 1)⟩,
     ⟨(some 19), none, .mov (.t 2)⟩,
     ⟨(some 20), none, .call fid_spec_Connected false [.im, .im, .im] [(.t 17), (.t 18), (.t 19)]⟩,
     ⟨(some 8), none, .mov (.t 20)⟩] [1, 2, 3, 8])
  (.seq
  (.reg [
     ⟨(some 21), none, .load true 2 (.t 3)⟩,
     ⟨(some 22), none, .call fid_laws_toGraph false [.im] [(.t 21)]⟩,
     ⟨(some 9), none, .alloc [.i .i64 0, .nl 2]⟩,
     ⟨none, none, .store 2 (.t 9) (.t 22)⟩] [1, 2, 3, 8, 9])
  (.seq
  (.reg [
     ⟨(some 23), none, .load true 2 (.t 9)⟩,
     ⟨(some 24), none, .mov (.t 1)⟩,
     ⟨(some 25), none, .mov (.t 2)⟩,
     ⟨(some 26), none, .call fid_impl_Connected false [.im, .im, .im] [(.t 23), (.t 24), (.t 25)]⟩,
     ⟨(some 10), none, .mov (.t 26)⟩] [3, 8, 9, 10])
  (.seq
  (.seq
   (.reg [
      ⟨(some 27), none, .mov (.t 10)⟩,
      ⟨(some 28), none, .mov (.t 8)⟩,
      ⟨(some 29), none, .binb true (.t 27) (.t 28)⟩] [3, 9, 29])
   (.cond (.t 29)
   (.seq
    (.reg [
       ⟨(some 6), none, .mov (.v (.b false))⟩] [6])
    (.ret))
   (.skip)))
  (.seq
  (.seq
   (.draw [0, 0, 2, 7, 15] [
      ⟨(some 30), none, .load true 2 (.t 9)⟩,
      ⟨(some 31), none, .load true 2 (.t 3)⟩,
      ⟨(some 32), none, .call fid_laws_toGraph false [.im] [(.t 31)]⟩,
      ⟨(some 33), none, .call fid_laws_eqGraph false [.im, .im] [(.t 30), (.t 32)]⟩,
      ⟨(some 34), none, .un .not (.t 33)⟩] [34])
   (.cond (.t 34)
   (.seq
    (.reg [
       ⟨(some 6), none, .mov (.v (.b false))⟩] [6])
    (.ret))
   (.skip)))
  (.seq
  (.reg [
     ⟨(some 6), none, .mov (.v (.b true))⟩] [6])
  (.ret))))))))))
theorem get_laws_FnExactConnected : Go.Proofs.Try.prog.funcs[fid_laws_FnExactConnected]? = some Go.Proofs.Try.f13 := Go.Proofs.Try.func13
theorem ok_laws_FnExactConnected : okFn Go.Proofs.Try.prog Go.Proofs.Try.f13 35 [] [(6, none)] mc_laws_FnExactConnected = true := by kernel_rfl
def mc_laws_FnMeetOf : MCode :=
 .seq
  (.reg [
     ⟨(some 2), none, .mov (.v (.b false))⟩] [0])
  (.seq
  (.seq
   (.reg [
      ⟨(some 20), none, .mov (.t 0)⟩,
      ⟨(some 21), none, .len (.t 20)⟩,
      ⟨(some 22), none, .bin .gtr (.t 21) (.v (.i .i64 1048576))⟩] [0, 22])
   (.cond (.t 22)
   (.seq
    (.reg [
       ⟨(some 2), none, .mov (.v (.b true))⟩] [2])
    (.ret))
   (.skip)))
  (.seq
  (.reg [
     ⟨(some 24), none, .mov (.t 0)⟩,
     ⟨(some 25), none, .call fid_spec_DrawMeetOf false [.im] [(.t 24)]⟩,
     ⟨(some 23), none, .mov (.t 25)⟩,
     ⟨(some 26), none, .extract (.t 23) 0⟩,
     ⟨(some 27), none, .extract (.t 23) 1⟩,
     ⟨(some 28), none, .extract (.t 23) 2⟩,
     ⟨(some 3), none, .alloc [.nl 1, .nl 1]⟩,
     ⟨none, none, .store 2 (.t 3) (.t 26)⟩,
     ⟨(some 4), none, .mov (.t 27)⟩,
     ⟨(some 5), none, .mov (.t 28)⟩] [3, 4, 5])
  (.seq
  (.reg [
     ⟨(some 30), none, .load true 2 (.t 3)⟩,
     ⟨(some 31), none, .mov (.t 4)⟩,
     ⟨(some 32), none, .mov (.t 5)⟩,
     ⟨(some 33), none, .call fid_impl_MeetOf false [.im, .im, .im] [(.t 30), (.t 31), (.t 32)]⟩,
     ⟨(some 29), none, .mov (.t 33)⟩,
     ⟨(some 34), none, .extract (.t 29) 0⟩,
     ⟨(some 35), none, .extract (.t 29) 1⟩,
     ⟨(some 6), none, .mov (.t 34)⟩,
     ⟨(some 7), none, .mov (.t 35)⟩] [3, 4, 5, 6, 7])
  (.seq
  (.reg [
     ⟨(some 37), none, .load true 2 (.t 3)⟩,
     ⟨(some 38), none, .mov (.t 4)⟩,
     ⟨(some 39), none, .mov (.t 5)⟩,
     ⟨(some 40), none, .call fid_spec_MeetOf false [.im, .im, .im] [(.t 37), (.t 38), (.t 39)]⟩,
     ⟨(some 36), none, .mov (.t 40)⟩,
     ⟨(some 41), none, .extract (.t 36) 0⟩,
     ⟨(some 42), none, .extract (.t 36) 1⟩,
     ⟨(some 8), none, .mov (.t 41)⟩,
     ⟨(some 9), none, .mov (.t 42)⟩] [3, 4, 5, 6, 7, 8, 9])
  (.seq
  (.reg [
     ⟨(some 44), none, .load true 2 (.t 3)⟩,
     ⟨(some 45), none, .mov (.t 5)⟩,
     ⟨(some 46), none, .mov (.t 4)⟩,
     ⟨(some 47), none, .call fid_impl_MeetOf false [.im, .im, .im] [(.t 44), (.t 45), (.t 46)]⟩,
     ⟨(some 43), none, .mov (.t 47)⟩,
     ⟨(some 48), none, .extract (.t 43) 0⟩,
     ⟨(some 49), none, .extract (.t 43) 1⟩,
     ⟨(some 10), none, .mov (.t 48)⟩,
     ⟨(some 11), none, .mov (.t 49)⟩] [3, 4, 5, 6, 7, 8, 9, 10, 11])
  (.seq
  (.seq
   (.reg [
      ⟨(some 50), none, .mov (.t 6)⟩,
      ⟨(some 51), none, .mov (.t 8)⟩,
      ⟨(some 52), none, .bin .neq (.t 50) (.t 51)⟩,
      ⟨(some 53), none, .mov (.t 52)⟩,
      ⟨(some 54), (some (53, false)), .mov (.t 7)⟩,
      ⟨(some 55), (some (53, false)), .mov (.t 9)⟩,
      ⟨(some 56), (some (53, false)), .binb true (.t 54) (.t 55)⟩,
      ⟨(some 57), none, .pick (.t 53) (.v (.b true)) (.t 56)⟩,
      ⟨(some 58), none, .mov (.t 57)⟩,
      ⟨(some 59), (some (58, false)), .mov (.t 10)⟩,
      ⟨(some 60), (some (58, false)), .mov (.t 6)⟩,
      ⟨(some 61), (some (58, false)), .bin .neq (.t 59) (.t 60)⟩,
      ⟨(some 62), none, .pick (.t 58) (.v (.b true)) (.t 61)⟩,
      ⟨(some 63), none, .mov (.t 62)⟩,
      ⟨(some 64), (some (63, false)), .mov (.t 11)⟩,
      ⟨(some 65), (some (63, false)), .mov (.t 7)⟩,
      ⟨(some 66), (some (63, false)), .binb true (.t 64) (.t 65)⟩,
      ⟨(some 67), none, .pick (.t 63) (.v (.b true)) (.t 66)⟩,
      ⟨(some 68), none, .mov (.t 67)⟩,
      ⟨(some 69), (some (68, false)), .mov (.t 7)⟩,
      ⟨(some 70), (some (68, false)), .un .not (.t 69)⟩,
      ⟨(some 71), none, .pick (.t 68) (.v (.b true)) (.t 70)⟩] [3, 4, 5, 6, 7, 8, 9, 10, 11, 71])
   (.cond (.t 71)
   (.seq
    (.reg [
       ⟨(some 72), none, .mov (.t 6)⟩,
       ⟨(some 73), none, .mov (.t 8)⟩,
       ⟨(some 74), none, .bin .eql (.t 72) (.t 73)⟩,
       ⟨(some 75), none, .mov (.t 74)⟩,
       ⟨(some 76), (some (75, true)), .mov (.t 7)⟩,
       ⟨(some 77), (some (75, true)), .mov (.t 9)⟩,
       ⟨(some 78), (some (75, true)), .binb false (.t 76) (.t 77)⟩,
       ⟨(some 79), none, .pick (.t 75) (.t 78) (.v (.b false))⟩,
       ⟨(some 80), none, .mov (.t 79)⟩,
       ⟨(some 81), (some (80, true)), .mov (.t 10)⟩,
       ⟨(some 82), (some (80, true)), .mov (.t 6)⟩,
       ⟨(some 83), (some (80, true)), .bin .eql (.t 81) (.t 82)⟩,
       ⟨(some 84), none, .pick (.t 80) (.t 83) (.v (.b false))⟩,
       ⟨(some 85), none, .mov (.t 84)⟩,
       ⟨(some 86), (some (85, true)), .mov (.t 11)⟩,
       ⟨(some 87), (some (85, true)), .mov (.t 7)⟩,
       ⟨(some 88), (some (85, true)), .binb false (.t 86) (.t 87)⟩,
       ⟨(some 89), none, .pick (.t 85) (.t 88) (.v (.b false))⟩,
       ⟨(some 2), none, .mov (.t 89)⟩] [2])
    (.ret))
   (.skip)))
  (.seq
  (.reg [
     ⟨(some 91), none, .load true 2 (.t 3)⟩,
     ⟨(some 92), none, .mov (.t 4)⟩,
     ⟨(some 93), none, .call fid_impl_WayUp false [.im, .im] [(.t 91), (.t 92)]⟩,
     ⟨(some 90), none, .mov (.t 93)⟩,
     ⟨(some 94), none, .extract (.t 90) 0⟩,
     ⟨(some 95), none, .extract (.t 90) 1⟩,
     ⟨(some 12), none, .mov (.t 94)⟩,
     ⟨(some 13), none, .mov (.t 95)⟩] [3, 5, 6, 12])
  (.seq
  (.reg [
     ⟨(some 97), none, .load true 2 (.t 3)⟩,
     ⟨(some 98), none, .mov (.t 5)⟩,
     ⟨(some 99), none, .call fid_impl_WayUp false [.im, .im] [(.t 97), (.t 98)]⟩,
     ⟨(some 96), none, .mov (.t 99)⟩,
     ⟨(some 100), none, .extract (.t 96) 0⟩,
     ⟨(some 101), none, .extract (.t 96) 1⟩,
     ⟨(some 14), none, .mov (.t 100)⟩,
     ⟨(some 15), none, .mov (.t 101)⟩] [3, 6, 12, 14])
  (.seq
  (.reg [
     ⟨(some 103), none, .load true 2 (.t 3)⟩,
     ⟨(some 104), none, .mov (.t 6)⟩,
     ⟨(some 105), none, .call fid_impl_WayUp false [.im, .im] [(.t 103), (.t 104)]⟩,
     ⟨(some 102), none, .mov (.t 105)⟩,
     ⟨(some 106), none, .extract (.t 102) 0⟩,
     ⟨(some 107), none, .extract (.t 102) 1⟩,
     ⟨(some 16), none, .mov (.t 106)⟩,
     ⟨(some 17), none, .mov (.t 107)⟩] [6, 12, 14, 16, 17])
  (.seq
  (.reg [
     ⟨(some 18), none, .mov (.v (.i .i64 0))⟩] [6, 12, 14, 16, 17, 18])
  (.seq
  (.seq
   (.reg [
      ⟨(some 19), none, .mov (.v (.i .i64 0))⟩] [6, 12, 14, 16, 17, 18, 19])
   (.block 0
   (.loop [6, 12, 14, 16, 17, 18, 19]
    (.seq
     (.seq
      (.reg [
         ⟨(some 108), none, .mov (.t 19)⟩,
         ⟨(some 109), none, .mov (.t 12)⟩,
         ⟨(some 110), none, .len (.t 109)⟩,
         ⟨(some 111), none, .bin .lss (.t 108) (.t 110)⟩] [6, 12, 14, 16, 17, 18, 19, 111])
      (.cond (.t 111)
      (.skip)
      (.exit 0)))
     (.seq
     (.block 1
      (.seq
       (.reg [
          ⟨(some 114), none, .mov (.t 14)⟩,
          ⟨(some 115), none, .mov (.t 12)⟩,
          ⟨(some 116), none, .mov (.t 19)⟩,
          ⟨(some 117), none, .indexAddr 1 (.t 115) (.t 116)⟩,
          ⟨(some 118), none, .load false 1 (.t 117)⟩,
          ⟨(some 119), none, .call fid_laws_dyIn false [.im, .im] [(.t 114), (.t 118)]⟩] [6, 12, 14, 16, 17, 18, 19, 119])
       (.cond (.t 119)
       (.reg [
          ⟨(some 120), none, .mov (.t 18)⟩,
          ⟨(some 121), none, .bin .add (.t 120) (.v (.i .i64 1))⟩,
          ⟨(some 18), none, .mov (.t 121)⟩] [6, 12, 14, 16, 17, 18, 19])
       (.skip))))
     (.reg [
       ⟨(some 112), none, .mov (.t 19)⟩,
       ⟨(some 113), none, .bin .add (.t 112) (.v (.i .i64 1))⟩,
       ⟨(some 19), none, .mov (.t 113)⟩] [6, 12, 14, 16, 17, 18, 19]))))))
  (.seq
  (.reg [
     ⟨(some 122), none, .mov (.t 17)⟩,
     ⟨(some 123), none, .mov (.t 122)⟩,
     ⟨(some 124), (some (123, true)), .mov (.t 18)⟩,
     ⟨(some 125), (some (123, true)), .mov (.t 16)⟩,
     ⟨(some 126), (some (123, true)), .len (.t 125)⟩,
     ⟨(some 127), (some (123, true)), .bin .eql (.t 124) (.t 126)⟩,
     ⟨(some 128), none, .pick (.t 123) (.t 127) (.v (.b false))⟩,
     ⟨(some 129), none, .mov (.t 128)⟩,
     ⟨(some 130), (some (129, true)), .mov (.t 12)⟩,
     ⟨(some 131), (some (129, true)), .mov (.t 6)⟩,
     ⟨(some 132), (some (129, true)), .call fid_laws_dyIn false [.im, .im] [(.t 130), (.t 131)]⟩,
     ⟨(some 133), none, .pick (.t 129) (.t 132) (.v (.b false))⟩,
     ⟨(some 134), none, .mov (.t 133)⟩,
     ⟨(some 135), (some (134, true)), .mov (.t 14)⟩,
     ⟨(some 136), (some (134, true)), .mov (.t 6)⟩,
     ⟨(some 137), (some (134, true)), .call fid_laws_dyIn false [.im, .im] [(.t 135), (.t 136)]⟩,
     ⟨(some 138), none, .pick (.t 134) (.t 137) (.v (.b false))⟩,
     ⟨(some 2), none, .mov (.t 138)⟩] [2])
  (.ret)))))))))))))
theorem get_laws_FnMeetOf : Go.Proofs.Try.prog.funcs[fid_laws_FnMeetOf]? = some Go.Proofs.Try.f14 := Go.Proofs.Try.func14
theorem ok_laws_FnMeetOf : okFn Go.Proofs.Try.prog Go.Proofs.Try.f14 139 [] [(2, none)] mc_laws_FnMeetOf = true := by kernel_rfl
def mc_spec_DrawSpansOf : MCode :=
 .seq
  (.reg [
     ⟨(some 2), none, .mov (.v (.i .i64 0))⟩,
     ⟨(some 3), none, .mov (.v (.i .i64 0))⟩,
     ⟨(some 4), none, .mov (.v (.i .i64 0))⟩] [0])
  (.seq
  (.reg [
     ⟨(some 7), none, .mov (.t 0)⟩,
     ⟨(some 8), none, .call fid_spec_l14Open true [.im] [(.t 7)]⟩,
     ⟨(some 5), none, .mov (.t 8)⟩] [5])
  (.seq
  (.reg [
     ⟨(some 9), none, .mov (.t 5)⟩,
     ⟨(some 10), none, .buildSlice 1 [(.v (.i .i64 8)), (.v (.i .i64 7)), (.v (.i .i64 16)), (.v (.i .i64 5)), (.v (.i .i64 64)), (.v (.i .i64 1)), (.v (.i .i64 0)), (.v (.i .i64 65))]⟩,
     ⟨(some 11), none, .call fid_p_spec_l14Rd_num true [.io, .im] [(.t 9), (.t 10)]⟩,
     ⟨(some 6), none, .mov (.t 11)⟩] [5, 6])
  (.seq
  (.reg [
     ⟨(some 12), none, .mov (.t 6)⟩,
     ⟨(some 13), none, .mov (.t 5)⟩,
     ⟨(some 14), none, .buildSlice 1 [(.v (.i .i64 1)), (.v (.i .i64 0)), (.v (.i .i64 3)), (.v (.i .i64 2)), (.v (.i .i64 5)), (.v (.i .i64 (-1)))]⟩,
     ⟨(some 15), none, .call fid_p_spec_l14Rd_num true [.io, .im] [(.t 13), (.t 14)]⟩,
     ⟨(some 16), none, .mov (.t 5)⟩,
     ⟨(some 17), none, .buildSlice 1 [(.v (.i .i64 6)), (.v (.i .i64 4)), (.v (.i .i64 7)), (.v (.i .i64 5)), (.v (.i .i64 3)), (.v (.i .i64 16)), (.v (.i .i64 1))]⟩,
     ⟨(some 18), none, .call fid_p_spec_l14Rd_num true [.io, .im] [(.t 16), (.t 17)]⟩,
     ⟨(some 2), none, .mov (.t 12)⟩,
     ⟨(some 3), none, .mov (.t 15)⟩,
     ⟨(some 4), none, .mov (.t 18)⟩] [2, 3, 4])
  (.ret))))
theorem get_spec_DrawSpansOf : Go.Proofs.Try.prog.funcs[fid_spec_DrawSpansOf]? = some Go.Proofs.Try.f15 := Go.Proofs.Try.func15
theorem ok_spec_DrawSpansOf : okFn Go.Proofs.Try.prog Go.Proofs.Try.f15 19 [] [(2, none), (3, none), (4, none)] mc_spec_DrawSpansOf = true := by kernel_rfl
def mc_impl_SpansOf : MCode :=
 .seq
  (.reg [
     ⟨(some 6), none, .mov (.v (.nl 4))⟩,
     ⟨(some 7), none, .mov (.v (.b false))⟩] [0, 1, 2])
  (.seq
  (.block 0
   (.seq
    (.reg [
       ⟨(some 9), none, .mov (.t 0)⟩,
       ⟨(some 10), none, .bin .lss (.t 9) (.v (.i .i64 1))⟩,
       ⟨(some 11), none, .mov (.t 10)⟩,
       ⟨(some 12), (some (11, false)), .mov (.t 0)⟩,
       ⟨(some 13), (some (11, false)), .bin .gtr (.t 12) (.v (.i .i64 64))⟩,
       ⟨(some 14), none, .pick (.t 11) (.v (.b true)) (.t 13)⟩,
       ⟨(some 15), none, .mov (.t 14)⟩,
       ⟨(some 16), (some (15, false)), .mov (.t 1)⟩,
       ⟨(some 17), (some (15, false)), .bin .lss (.t 16) (.v (.i .i64 0))⟩,
       ⟨(some 18), none, .pick (.t 15) (.v (.b true)) (.t 17)⟩,
       ⟨(some 19), none, .mov (.t 18)⟩,
       ⟨(some 20), (some (19, false)), .mov (.t 1)⟩,
       ⟨(some 21), (some (19, false)), .mov (.t 2)⟩,
       ⟨(some 22), (some (19, false)), .bin .gtr (.t 20) (.t 21)⟩,
       ⟨(some 23), none, .pick (.t 19) (.v (.b true)) (.t 22)⟩,
       ⟨(some 24), none, .mov (.t 23)⟩,
       ⟨(some 25), (some (24, false)), .mov (.t 2)⟩,
       ⟨(some 26), (some (24, false)), .mov (.t 0)⟩,
       ⟨(some 27), (some (24, false)), .bin .gtr (.t 25) (.t 26)⟩,
       ⟨(some 28), none, .pick (.t 24) (.v (.b true)) (.t 27)⟩,
       ⟨(some 8), none, .mov (.t 28)⟩] [0, 1, 2, 8])
    (.cond (.t 8)
    (.seq
     (.reg [
        ⟨(some 6), none, .mov (.v (.nl 4))⟩,
        ⟨(some 7), none, .mov (.v (.b false))⟩] [6, 7])
     (.ret))
    (.seq
     (.reg [
        ⟨(some 30), none, .mov (.t 1)⟩,
        ⟨(some 31), none, .mov (.t 2)⟩,
        ⟨(some 32), none, .bin .eql (.t 30) (.t 31)⟩,
        ⟨(some 29), none, .mov (.t 32)⟩] [0, 1, 2, 29])
     (.cond (.t 29)
     (.seq
      (.reg [
         ⟨(some 6), none, .mov (.v (.nl 4))⟩,
         ⟨(some 7), none, .mov (.v (.b true))⟩] [6, 7])
      (.ret))
     (.skip))))))
  (.seq
  (.reg [
     ⟨(some 33), none, .mov (.t 0)⟩,
     ⟨(some 34), none, .mov (.t 1)⟩,
     ⟨(some 35), none, .mov (.t 2)⟩,
     ⟨(some 36), none, .call fid_impl_spans false [.im, .im, .im, .im] [(.v (.i .i64 0)), (.t 33), (.t 34), (.t 35)]⟩,
     ⟨(some 6), none, .mov (.t 36)⟩,
     ⟨(some 7), none, .mov (.v (.b true))⟩] [6, 7])
  (.ret)))
theorem get_impl_SpansOf : Go.Proofs.Try.prog.funcs[fid_impl_SpansOf]? = some Go.Proofs.Try.f16 := Go.Proofs.Try.func16
theorem ok_impl_SpansOf : okFn Go.Proofs.Try.prog Go.Proofs.Try.f16 37 [] [(6, none), (7, none)] mc_impl_SpansOf = true := by kernel_rfl
def mc_spec_SpansOf : MCode :=
 .seq
  (.reg [
     ⟨(some 6), none, .mov (.v (.nl 4))⟩,
     ⟨(some 7), none, .mov (.v (.b false))⟩] [0, 1, 2])
  (.seq
  (.seq
   (.reg [
      ⟨(some 8), none, .mov (.t 0)⟩,
      ⟨(some 9), none, .bin .lss (.t 8) (.v (.i .i64 1))⟩,
      ⟨(some 10), none, .mov (.t 9)⟩,
      ⟨(some 11), (some (10, false)), .mov (.t 0)⟩,
      ⟨(some 12), (some (10, false)), .bin .gtr (.t 11) (.v (.i .i64 64))⟩,
      ⟨(some 13), none, .pick (.t 10) (.v (.b true)) (.t 12)⟩,
      ⟨(some 14), none, .mov (.t 13)⟩,
      ⟨(some 15), (some (14, false)), .mov (.t 1)⟩,
      ⟨(some 16), (some (14, false)), .bin .lss (.t 15) (.v (.i .i64 0))⟩,
      ⟨(some 17), none, .pick (.t 14) (.v (.b true)) (.t 16)⟩,
      ⟨(some 18), none, .mov (.t 17)⟩,
      ⟨(some 19), (some (18, false)), .mov (.t 1)⟩,
      ⟨(some 20), (some (18, false)), .mov (.t 2)⟩,
      ⟨(some 21), (some (18, false)), .bin .gtr (.t 19) (.t 20)⟩,
      ⟨(some 22), none, .pick (.t 18) (.v (.b true)) (.t 21)⟩,
      ⟨(some 23), none, .mov (.t 22)⟩,
      ⟨(some 24), (some (23, false)), .mov (.t 2)⟩,
      ⟨(some 25), (some (23, false)), .mov (.t 0)⟩,
      ⟨(some 26), (some (23, false)), .bin .gtr (.t 24) (.t 25)⟩,
      ⟨(some 27), none, .pick (.t 23) (.v (.b true)) (.t 26)⟩] [0, 1, 2, 27])
   (.cond (.t 27)
   (.seq
    (.reg [
       ⟨(some 28), none, .buildSlice 4 []⟩,
       ⟨(some 6), none, .mov (.t 28)⟩,
       ⟨(some 7), none, .mov (.v (.b false))⟩] [6, 7])
    (.ret))
   (.skip)))
  (.seq
  (.reg [
     ⟨(some 29), none, .mov (.t 0)⟩,
     ⟨(some 30), none, .mov (.t 1)⟩,
     ⟨(some 31), none, .mov (.t 2)⟩,
     ⟨(some 32), none, .buildSlice 4 []⟩,
     ⟨(some 33), none, .call fid_spec_l8Spans false [.im, .im, .im, .im, .co] [(.v (.i .i64 0)), (.t 29), (.t 30), (.t 31), (.t 32)]⟩,
     ⟨(some 6), none, .mov (.t 33)⟩,
     ⟨(some 7), none, .mov (.v (.b true))⟩] [6, 7])
  (.ret)))
theorem get_spec_SpansOf : Go.Proofs.Try.prog.funcs[fid_spec_SpansOf]? = some Go.Proofs.Try.f17 := Go.Proofs.Try.func17
theorem ok_spec_SpansOf : okFn Go.Proofs.Try.prog Go.Proofs.Try.f17 34 [] [(6, none), (7, none)] mc_spec_SpansOf = true := by kernel_rfl
def mc_laws_dyLives : MCode :=
 .seq
  (.reg [
     ⟨(some 4), none, .mov (.v (.b false))⟩] [0, 1])
  (.seq
  (.seq
   (.reg [
      ⟨(some 6), none, .mov (.t 0)⟩,
      ⟨(some 7), none, .len (.t 6)⟩,
      ⟨(some 8), none, .mov (.t 1)⟩,
      ⟨(some 9), none, .len (.t 8)⟩,
      ⟨(some 10), none, .bin .neq (.t 7) (.t 9)⟩] [0, 1, 10])
   (.cond (.t 10)
   (.seq
    (.reg [
       ⟨(some 4), none, .mov (.v (.b false))⟩] [4])
    (.ret))
   (.skip)))
  (.seq
  (.seq
   (.reg [
      ⟨(some 5), none, .mov (.v (.i .i64 0))⟩] [0, 1, 5])
   (.block 0
   (.loop [0, 1, 5]
    (.seq
     (.seq
      (.reg [
         ⟨(some 11), none, .mov (.t 5)⟩,
         ⟨(some 12), none, .mov (.t 0)⟩,
         ⟨(some 13), none, .len (.t 12)⟩,
         ⟨(some 14), none, .bin .lss (.t 11) (.t 13)⟩] [0, 1, 5, 14])
      (.cond (.t 14)
      (.skip)
      (.exit 0)))
     (.seq
     (.block 1
      (.seq
       (.draw [0, 0, 3, 7, 0, 0, 48, 112, 255] [
          ⟨(some 17), none, .mov (.t 0)⟩,
          ⟨(some 18), none, .mov (.t 5)⟩,
          ⟨(some 19), none, .indexAddr 4 (.t 17) (.t 18)⟩,
          ⟨(some 20), none, .load true 4 (.t 19)⟩,
          ⟨(some 21), none, .mov (.t 1)⟩,
          ⟨(some 22), none, .mov (.t 5)⟩,
          ⟨(some 23), none, .indexAddr 4 (.t 21) (.t 22)⟩,
          ⟨(some 24), none, .load true 4 (.t 23)⟩,
          ⟨(some 25), none, .eqAgg true [true, true, true, true] (.t 20) (.t 24)⟩] [0, 1, 5, 25])
       (.cond (.t 25)
       (.seq
        (.reg [
           ⟨(some 4), none, .mov (.v (.b false))⟩] [4])
        (.ret))
       (.skip))))
     (.reg [
       ⟨(some 15), none, .mov (.t 5)⟩,
       ⟨(some 16), none, .bin .add (.t 15) (.v (.i .i64 1))⟩,
       ⟨(some 5), none, .mov (.t 16)⟩] [0, 1, 5]))))))
  (.seq
  (.reg [
     ⟨(some 4), none, .mov (.v (.b true))⟩] [4])
  (.ret))))
theorem get_laws_dyLives : Go.Proofs.Try.prog.funcs[fid_laws_dyLives]? = some Go.Proofs.Try.f18 := Go.Proofs.Try.func18
theorem ok_laws_dyLives : okFn Go.Proofs.Try.prog Go.Proofs.Try.f18 26 [] [(4, none)] mc_laws_dyLives = true := by kernel_rfl
def mc_laws_szRooted : MCode :=
 .seq
  (.reg [
     ⟨(some 2), none, .box 2 (.t 0)⟩,
     ⟨(some 4), none, .mov (.v (.i .i64 0))⟩] [1, 2])
  (.seq
  (.reg [
     ⟨(some 5), none, .fieldAddr 0 (.t 2)⟩,
     ⟨(some 6), none, .load false 1 (.t 5)⟩,
     ⟨(some 7), none, .mov (.t 1)⟩,
     ⟨(some 8), none, .call fid_laws_szIntS false [.im, .im] [(.t 6), (.t 7)]⟩,
     ⟨(some 1), none, .mov (.t 8)⟩] [1, 2])
  (.seq
  (.seq
   (.reg [
      ⟨(some 9), none, .mov (.t 1)⟩,
      ⟨(some 10), none, .bin .lss (.t 9) (.v (.i .i64 0))⟩] [1, 2, 10])
   (.cond (.t 10)
   (.seq
    (.reg [
       ⟨(some 4), none, .mov (.v (.i .i64 (-1)))⟩] [4])
    (.ret))
   (.skip)))
  (.seq
  (.reg [
     ⟨(some 11), none, .fieldAddr 1 (.t 2)⟩,
     ⟨(some 12), none, .load false 1 (.t 11)⟩,
     ⟨(some 13), none, .mov (.t 1)⟩,
     ⟨(some 14), none, .call fid_laws_szIntS false [.im, .im] [(.t 12), (.t 13)]⟩,
     ⟨(some 1), none, .mov (.t 14)⟩] [1])
  (.seq
  (.seq
   (.reg [
      ⟨(some 15), none, .mov (.t 1)⟩,
      ⟨(some 16), none, .bin .lss (.t 15) (.v (.i .i64 0))⟩] [1, 16])
   (.cond (.t 16)
   (.seq
    (.reg [
       ⟨(some 4), none, .mov (.v (.i .i64 (-1)))⟩] [4])
    (.ret))
   (.skip)))
  (.seq
  (.reg [
     ⟨(some 17), none, .mov (.t 1)⟩,
     ⟨(some 4), none, .mov (.t 17)⟩] [4])
  (.ret))))))
theorem get_laws_szRooted : Go.Proofs.Try.prog.funcs[fid_laws_szRooted]? = some Go.Proofs.Try.f19 := Go.Proofs.Try.func19
theorem ok_laws_szRooted : okFn Go.Proofs.Try.prog Go.Proofs.Try.f19 18 [] [(4, none)] mc_laws_szRooted = true := by kernel_rfl
def mc_spec_RootedValid : MCode :=
 .seq
  (.reg [
     ⟨(some 1), none, .box 2 (.t 0)⟩,
     ⟨(some 2), none, .mov (.v (.b false))⟩] [1])
  (.seq
  (.reg [
     ⟨(some 8), none, .fieldAddr 0 (.t 1)⟩,
     ⟨(some 9), none, .load false 1 (.t 8)⟩,
     ⟨(some 10), none, .len (.t 9)⟩,
     ⟨(some 3), none, .mov (.t 10)⟩] [1, 3])
  (.seq
  (.seq
   (.reg [
      ⟨(some 11), none, .mov (.t 3)⟩,
      ⟨(some 12), none, .bin .lss (.t 11) (.v (.i .i64 1))⟩,
      ⟨(some 13), none, .mov (.t 12)⟩,
      ⟨(some 14), (some (13, false)), .mov (.t 3)⟩,
      ⟨(some 15), (some (13, false)), .bin .gtr (.t 14) (.v (.i .i64 16))⟩,
      ⟨(some 16), none, .pick (.t 13) (.v (.b true)) (.t 15)⟩,
      ⟨(some 17), none, .mov (.t 16)⟩,
      ⟨(some 18), (some (17, false)), .fieldAddr 1 (.t 1)⟩,
      ⟨(some 19), (some (17, false)), .load false 1 (.t 18)⟩,
      ⟨(some 20), (some (17, false)), .len (.t 19)⟩,
      ⟨(some 21), (some (17, false)), .mov (.t 3)⟩,
      ⟨(some 22), (some (17, false)), .bin .neq (.t 20) (.t 21)⟩,
      ⟨(some 23), none, .pick (.t 17) (.v (.b true)) (.t 22)⟩] [1, 3, 23])
   (.cond (.t 23)
   (.seq
    (.reg [
       ⟨(some 2), none, .mov (.v (.b false))⟩] [2])
    (.ret))
   (.skip)))
  (.seq
  (.seq
   (.reg [
      ⟨(some 4), none, .mov (.v (.i .i64 0))⟩] [1, 3, 4])
   (.block 0
   (.loop [1, 3, 4]
    (.seq
     (.seq
      (.reg [
         ⟨(some 24), none, .mov (.t 4)⟩,
         ⟨(some 25), none, .mov (.t 3)⟩,
         ⟨(some 26), none, .bin .lss (.t 24) (.t 25)⟩] [1, 3, 4, 26])
      (.cond (.t 26)
      (.skip)
      (.exit 0)))
     (.seq
     (.block 1
      (.seq
       (.reg [
          ⟨(some 29), none, .fieldAddr 0 (.t 1)⟩,
          ⟨(some 30), none, .load false 1 (.t 29)⟩,
          ⟨(some 31), none, .mov (.t 4)⟩,
          ⟨(some 32), none, .indexAddr 1 (.t 30) (.t 31)⟩,
          ⟨(some 33), none, .load false 1 (.t 32)⟩,
          ⟨(some 34), none, .bin .lss (.t 33) (.v (.i .i64 (-1)))⟩,
          ⟨(some 35), none, .mov (.t 34)⟩,
          ⟨(some 36), (some (35, false)), .fieldAddr 0 (.t 1)⟩,
          ⟨(some 37), (some (35, false)), .load false 1 (.t 36)⟩,
          ⟨(some 38), (some (35, false)), .mov (.t 4)⟩,
          ⟨(some 39), (some (35, false)), .indexAddr 1 (.t 37) (.t 38)⟩,
          ⟨(some 40), (some (35, false)), .load false 1 (.t 39)⟩,
          ⟨(some 41), (some (35, false)), .mov (.t 3)⟩,
          ⟨(some 42), (some (35, false)), .bin .geq (.t 40) (.t 41)⟩,
          ⟨(some 43), none, .pick (.t 35) (.v (.b true)) (.t 42)⟩,
          ⟨(some 44), none, .mov (.t 43)⟩,
          ⟨(some 45), (some (44, false)), .fieldAddr 1 (.t 1)⟩,
          ⟨(some 46), (some (44, false)), .load false 1 (.t 45)⟩,
          ⟨(some 47), (some (44, false)), .mov (.t 4)⟩,
          ⟨(some 48), (some (44, false)), .indexAddr 1 (.t 46) (.t 47)⟩,
          ⟨(some 49), (some (44, false)), .load false 1 (.t 48)⟩,
          ⟨(some 50), (some (44, false)), .bin .lss (.t 49) (.v (.i .i64 0))⟩,
          ⟨(some 51), none, .pick (.t 44) (.v (.b true)) (.t 50)⟩,
          ⟨(some 52), none, .mov (.t 51)⟩,
          ⟨(some 53), (some (52, false)), .fieldAddr 1 (.t 1)⟩,
          ⟨(some 54), (some (52, false)), .load false 1 (.t 53)⟩,
          ⟨(some 55), (some (52, false)), .mov (.t 4)⟩,
          ⟨(some 56), (some (52, false)), .indexAddr 1 (.t 54) (.t 55)⟩,
          ⟨(some 57), (some (52, false)), .load false 1 (.t 56)⟩,
          ⟨(some 58), (some (52, false)), .bin .gtr (.t 57) (.v (.i .i64 999))⟩,
          ⟨(some 59), none, .pick (.t 52) (.v (.b true)) (.t 58)⟩,
          ⟨(some 60), none, .mov (.t 59)⟩,
          ⟨(some 61), (some (60, false)), .fieldAddr 0 (.t 1)⟩,
          ⟨(some 62), (some (60, false)), .load false 1 (.t 61)⟩,
          ⟨(some 63), (some (60, false)), .mov (.t 4)⟩,
          ⟨(some 64), (some (60, false)), .indexAddr 1 (.t 62) (.t 63)⟩,
          ⟨(some 65), (some (60, false)), .load false 1 (.t 64)⟩,
          ⟨(some 66), (some (60, false)), .bin .lss (.t 65) (.v (.i .i64 0))⟩,
          ⟨(some 67), (some (60, false)), .mov (.t 66)⟩,
          ⟨(some 68), (some (67, true)), .fieldAddr 1 (.t 1)⟩,
          ⟨(some 69), (some (67, true)), .load false 1 (.t 68)⟩,
          ⟨(some 70), (some (67, true)), .mov (.t 4)⟩,
          ⟨(some 71), (some (67, true)), .indexAddr 1 (.t 69) (.t 70)⟩,
          ⟨(some 72), (some (67, true)), .load false 1 (.t 71)⟩,
          ⟨(some 73), (some (67, true)), .bin .neq (.t 72) (.v (.i .i64 0))⟩,
          ⟨(some 74), (some (60, false)), .pick (.t 67) (.t 73) (.v (.b false))⟩,
          ⟨(some 75), none, .pick (.t 60) (.v (.b true)) (.t 74)⟩] [1, 3, 4, 75])
       (.cond (.t 75)
       (.seq
        (.reg [
           ⟨(some 2), none, .mov (.v (.b false))⟩] [2])
        (.ret))
       (.skip))))
     (.reg [
       ⟨(some 27), none, .mov (.t 4)⟩,
       ⟨(some 28), none, .bin .add (.t 27) (.v (.i .i64 1))⟩,
       ⟨(some 4), none, .mov (.t 28)⟩] [1, 3, 4]))))))
  (.seq
  (.seq
   (.reg [
      ⟨(some 5), none, .mov (.v (.i .i64 0))⟩] [1, 3, 5])
   (.block 2
   (.loop [1, 3, 5]
    (.seq
     (.seq
      (.reg [
         ⟨(some 76), none, .mov (.t 5)⟩,
         ⟨(some 77), none, .mov (.t 3)⟩,
         ⟨(some 78), none, .bin .lss (.t 76) (.t 77)⟩] [1, 3, 5, 78])
      (.cond (.t 78)
      (.skip)
      (.exit 2)))
     (.seq
     (.block 3
      (.seq
       (.reg [
          ⟨(some 81), none, .mov (.t 5)⟩,
          ⟨(some 6), none, .mov (.t 81)⟩] [1, 3, 5, 6])
       (.seq
       (.seq
        (.reg [
           ⟨(some 7), none, .mov (.v (.i .i64 0))⟩] [1, 3, 5, 6, 7])
        (.block 4
        (.loop [1, 3, 5, 6, 7]
         (.seq
          (.seq
           (.reg [
              ⟨(some 82), none, .mov (.t 7)⟩,
              ⟨(some 83), none, .mov (.t 3)⟩,
              ⟨(some 84), none, .bin .leq (.t 82) (.t 83)⟩,
              ⟨(some 85), none, .mov (.t 84)⟩,
              ⟨(some 86), (some (85, true)), .mov (.t 6)⟩,
              ⟨(some 87), (some (85, true)), .bin .geq (.t 86) (.v (.i .i64 0))⟩,
              ⟨(some 88), none, .pick (.t 85) (.t 87) (.v (.b false))⟩] [1, 3, 5, 6, 7, 88])
           (.cond (.t 88)
           (.skip)
           (.exit 4)))
          (.seq
          (.block 5
           (.reg [
              ⟨(some 91), none, .fieldAddr 0 (.t 1)⟩,
              ⟨(some 92), none, .load false 1 (.t 91)⟩,
              ⟨(some 93), none, .mov (.t 6)⟩,
              ⟨(some 94), none, .indexAddr 1 (.t 92) (.t 93)⟩,
              ⟨(some 95), none, .load false 1 (.t 94)⟩,
              ⟨(some 6), none, .mov (.t 95)⟩] [1, 3, 5, 6, 7]))
          (.reg [
            ⟨(some 89), none, .mov (.t 7)⟩,
            ⟨(some 90), none, .bin .add (.t 89) (.v (.i .i64 1))⟩,
            ⟨(some 7), none, .mov (.t 90)⟩] [1, 3, 5, 6, 7]))))))
       (.seq
       (.reg [
          ⟨(some 96), none, .mov (.t 6)⟩,
          ⟨(some 97), none, .bin .geq (.t 96) (.v (.i .i64 0))⟩] [1, 3, 5, 97])
       (.cond (.t 97)
       (.seq
        (.reg [
           ⟨(some 2), none, .mov (.v (.b false))⟩] [2])
        (.ret))
       (.skip))))))
     (.reg [
       ⟨(some 79), none, .mov (.t 5)⟩,
       ⟨(some 80), none, .bin .add (.t 79) (.v (.i .i64 1))⟩,
       ⟨(some 5), none, .mov (.t 80)⟩] [1, 3, 5]))))))
  (.seq
  (.reg [
     ⟨(some 2), none, .mov (.v (.b true))⟩] [2])
  (.ret))))))
theorem get_spec_RootedValid : Go.Proofs.Try.prog.funcs[fid_spec_RootedValid]? = some Go.Proofs.Try.f20 := Go.Proofs.Try.func20
theorem ok_spec_RootedValid : okFn Go.Proofs.Try.prog Go.Proofs.Try.f20 98 [] [(2, none)] mc_spec_RootedValid = true := by kernel_rfl
def mc_laws_toRooted : MCode :=
 .seq
  (.reg [
     ⟨(some 1), none, .box 2 (.t 0)⟩,
     ⟨(some 2), none, .alloc [.nl 1, .nl 1]⟩] [1, 2])
  (.seq
  (.reg [
     ⟨(some 3), none, .alloc [.nl 1, .nl 1]⟩] [1, 2, 3])
  (.seq
  (.reg [
     ⟨(some 4), none, .fieldAddr 0 (.t 1)⟩,
     ⟨(some 5), none, .load false 1 (.t 4)⟩,
     ⟨(some 6), none, .call fid_laws_toIntS false [.im] [(.t 5)]⟩,
     ⟨(some 7), none, .fieldAddr 0 (.t 3)⟩,
     ⟨none, none, .store 1 (.t 7) (.t 6)⟩] [1, 2, 3])
  (.seq
  (.reg [
     ⟨(some 8), none, .fieldAddr 1 (.t 1)⟩,
     ⟨(some 9), none, .load false 1 (.t 8)⟩,
     ⟨(some 10), none, .call fid_laws_toIntS false [.im] [(.t 9)]⟩,
     ⟨(some 11), none, .fieldAddr 1 (.t 3)⟩,
     ⟨none, none, .store 1 (.t 11) (.t 10)⟩] [2, 3])
  (.seq
  (.reg [
     ⟨(some 12), none, .load true 2 (.t 3)⟩,
     ⟨none, none, .store 2 (.t 2) (.t 12)⟩] [2])
  (.ret)))))
theorem get_laws_toRooted : Go.Proofs.Try.prog.funcs[fid_laws_toRooted]? = some Go.Proofs.Try.f21 := Go.Proofs.Try.func21
theorem ok_laws_toRooted : okFn Go.Proofs.Try.prog Go.Proofs.Try.f21 13 [] [(2, some (true, 2))] mc_laws_toRooted = true := by kernel_rfl
def mc_impl_RootedValid : MCode :=
 .seq
  (.reg [
     ⟨(some 1), none, .box 2 (.t 0)⟩,
     ⟨(some 2), none, .mov (.v (.b false))⟩] [1])
  (.seq
  (.reg [
     ⟨(some 9), none, .fieldAddr 0 (.t 1)⟩,
     ⟨(some 10), none, .load false 1 (.t 9)⟩,
     ⟨(some 11), none, .len (.t 10)⟩,
     ⟨(some 3), none, .mov (.t 11)⟩] [1, 3])
  (.seq
  (.seq
   (.reg [
      ⟨(some 12), none, .mov (.t 3)⟩,
      ⟨(some 13), none, .bin .lss (.t 12) (.v (.i .i64 1))⟩,
      ⟨(some 14), none, .mov (.t 13)⟩,
      ⟨(some 15), (some (14, false)), .mov (.t 3)⟩,
      ⟨(some 16), (some (14, false)), .bin .gtr (.t 15) (.v (.i .i64 16))⟩,
      ⟨(some 17), none, .pick (.t 14) (.v (.b true)) (.t 16)⟩,
      ⟨(some 18), none, .mov (.t 17)⟩,
      ⟨(some 19), (some (18, false)), .fieldAddr 1 (.t 1)⟩,
      ⟨(some 20), (some (18, false)), .load false 1 (.t 19)⟩,
      ⟨(some 21), (some (18, false)), .len (.t 20)⟩,
      ⟨(some 22), (some (18, false)), .mov (.t 3)⟩,
      ⟨(some 23), (some (18, false)), .bin .neq (.t 21) (.t 22)⟩,
      ⟨(some 24), none, .pick (.t 18) (.v (.b true)) (.t 23)⟩] [1, 3, 24])
   (.cond (.t 24)
   (.seq
    (.reg [
       ⟨(some 2), none, .mov (.v (.b false))⟩] [2])
    (.ret))
   (.skip)))
  (.seq
  (.seq
   (.reg [
      ⟨(some 25), none, .fieldAddr 0 (.t 1)⟩,
      ⟨(some 26), none, .load false 1 (.t 25)⟩,
      ⟨(some 27), none, .len (.t 26)⟩,
      ⟨(some 28), none, .mov (.v (.i .i64 0))⟩] [1, 3, 26, 27, 28])
   (.block 0
   (.loop [1, 3, 26, 27, 28]
    (.seq
     (.reg [
        ⟨(some 29), none, .bin .lss (.t 28) (.t 27)⟩] [1, 3, 26, 27, 28, 29])
     (.seq
     (.cond (.t 29)
      (.skip)
      (.exit 0))
     (.seq
     (.block 1
      (.seq
       (.reg [
          ⟨(some 30), none, .mov (.t 28)⟩,
          ⟨(some 31), none, .indexAddr 1 (.t 26) (.t 28)⟩,
          ⟨(some 32), none, .load false 1 (.t 31)⟩,
          ⟨(some 4), none, .mov (.t 30)⟩,
          ⟨(some 5), none, .mov (.t 32)⟩] [1, 3, 4, 5, 26, 27, 28])
       (.seq
       (.reg [
          ⟨(some 33), none, .mov (.t 5)⟩,
          ⟨(some 34), none, .bin .lss (.t 33) (.v (.i .i64 (-1)))⟩,
          ⟨(some 35), none, .mov (.t 34)⟩,
          ⟨(some 36), (some (35, false)), .mov (.t 5)⟩,
          ⟨(some 37), (some (35, false)), .mov (.t 3)⟩,
          ⟨(some 38), (some (35, false)), .bin .geq (.t 36) (.t 37)⟩,
          ⟨(some 39), none, .pick (.t 35) (.v (.b true)) (.t 38)⟩,
          ⟨(some 40), none, .mov (.t 39)⟩,
          ⟨(some 41), (some (40, false)), .fieldAddr 1 (.t 1)⟩,
          ⟨(some 42), (some (40, false)), .load false 1 (.t 41)⟩,
          ⟨(some 43), (some (40, false)), .mov (.t 4)⟩,
          ⟨(some 44), (some (40, false)), .indexAddr 1 (.t 42) (.t 43)⟩,
          ⟨(some 45), (some (40, false)), .load false 1 (.t 44)⟩,
          ⟨(some 46), (some (40, false)), .bin .lss (.t 45) (.v (.i .i64 0))⟩,
          ⟨(some 47), none, .pick (.t 40) (.v (.b true)) (.t 46)⟩,
          ⟨(some 48), none, .mov (.t 47)⟩,
          ⟨(some 49), (some (48, false)), .fieldAddr 1 (.t 1)⟩,
          ⟨(some 50), (some (48, false)), .load false 1 (.t 49)⟩,
          ⟨(some 51), (some (48, false)), .mov (.t 4)⟩,
          ⟨(some 52), (some (48, false)), .indexAddr 1 (.t 50) (.t 51)⟩,
          ⟨(some 53), (some (48, false)), .load false 1 (.t 52)⟩,
          ⟨(some 54), (some (48, false)), .bin .gtr (.t 53) (.v (.i .i64 999))⟩,
          ⟨(some 55), none, .pick (.t 48) (.v (.b true)) (.t 54)⟩,
          ⟨(some 56), none, .mov (.t 55)⟩,
          ⟨(some 57), (some (56, false)), .mov (.t 5)⟩,
          ⟨(some 58), (some (56, false)), .bin .eql (.t 57) (.v (.i .i64 (-1)))⟩,
          ⟨(some 59), (some (56, false)), .mov (.t 58)⟩,
          ⟨(some 60), (some (59, true)), .fieldAddr 1 (.t 1)⟩,
          ⟨(some 61), (some (59, true)), .load false 1 (.t 60)⟩,
          ⟨(some 62), (some (59, true)), .mov (.t 4)⟩,
          ⟨(some 63), (some (59, true)), .indexAddr 1 (.t 61) (.t 62)⟩,
          ⟨(some 64), (some (59, true)), .load false 1 (.t 63)⟩,
          ⟨(some 65), (some (59, true)), .bin .neq (.t 64) (.v (.i .i64 0))⟩,
          ⟨(some 66), (some (56, false)), .pick (.t 59) (.t 65) (.v (.b false))⟩,
          ⟨(some 67), none, .pick (.t 56) (.v (.b true)) (.t 66)⟩] [1, 3, 26, 27, 28, 67])
       (.cond (.t 67)
       (.seq
        (.reg [
           ⟨(some 2), none, .mov (.v (.b false))⟩] [2])
        (.ret))
       (.skip)))))
     (.reg [
       ⟨(some 68), none, .bin .add (.t 28) (.v (.i .i64 1))⟩,
       ⟨(some 28), none, .mov (.t 68)⟩] [1, 3, 26, 27, 28])))))))
  (.seq
  (.seq
   (.reg [
      ⟨(some 69), none, .fieldAddr 0 (.t 1)⟩,
      ⟨(some 70), none, .load false 1 (.t 69)⟩,
      ⟨(some 71), none, .len (.t 70)⟩,
      ⟨(some 72), none, .mov (.v (.i .i64 0))⟩] [1, 71, 72])
   (.block 2
   (.loop [1, 71, 72]
    (.seq
     (.reg [
        ⟨(some 73), none, .bin .lss (.t 72) (.t 71)⟩] [1, 71, 72, 73])
     (.seq
     (.cond (.t 73)
      (.skip)
      (.exit 2))
     (.seq
     (.block 3
      (.seq
       (.reg [
          ⟨(some 74), none, .mov (.t 72)⟩,
          ⟨(some 6), none, .mov (.t 74)⟩] [1, 6, 71, 72])
       (.seq
       (.reg [
          ⟨(some 76), none, .load true 2 (.t 1)⟩,
          ⟨(some 77), none, .mov (.t 6)⟩,
          ⟨(some 78), none, .call fid_impl_Rooted_wayUp false [.im, .im] [(.t 76), (.t 77)]⟩,
          ⟨(some 75), none, .mov (.t 78)⟩,
          ⟨(some 79), none, .extract (.t 75) 0⟩,
          ⟨(some 80), none, .extract (.t 75) 1⟩,
          ⟨(some 7), none, .mov (.t 79)⟩,
          ⟨(some 8), none, .mov (.t 80)⟩] [1, 8, 71, 72])
       (.seq
       (.reg [
          ⟨(some 81), none, .mov (.t 8)⟩,
          ⟨(some 82), none, .un .not (.t 81)⟩] [1, 71, 72, 82])
       (.cond (.t 82)
       (.seq
        (.reg [
           ⟨(some 2), none, .mov (.v (.b false))⟩] [2])
        (.ret))
       (.skip))))))
     (.reg [
       ⟨(some 83), none, .bin .add (.t 72) (.v (.i .i64 1))⟩,
       ⟨(some 72), none, .mov (.t 83)⟩] [1, 71, 72])))))))
  (.seq
  (.reg [
     ⟨(some 2), none, .mov (.v (.b true))⟩] [2])
  (.ret))))))
theorem get_impl_RootedValid : Go.Proofs.Try.prog.funcs[fid_impl_RootedValid]? = some Go.Proofs.Try.f22 := Go.Proofs.Try.func22
theorem ok_impl_RootedValid : okFn Go.Proofs.Try.prog Go.Proofs.Try.f22 84 [] [(2, none)] mc_impl_RootedValid = true := by kernel_rfl
def mc_laws_eqRooted : MCode :=
 .seq
  (.reg [
     ⟨(some 2), none, .box 2 (.t 0)⟩,
     ⟨(some 3), none, .box 2 (.t 1)⟩,
     ⟨(some 4), none, .mov (.v (.b false))⟩] [2, 3])
  (.seq
  (.seq
   (.reg [
      ⟨(some 5), none, .fieldAddr 0 (.t 2)⟩,
      ⟨(some 6), none, .load false 1 (.t 5)⟩,
      ⟨(some 7), none, .fieldAddr 0 (.t 3)⟩,
      ⟨(some 8), none, .load false 1 (.t 7)⟩,
      ⟨(some 9), none, .call fid_laws_eqIntS false [.im, .im] [(.t 6), (.t 8)]⟩,
      ⟨(some 10), none, .un .not (.t 9)⟩] [2, 3, 10])
   (.cond (.t 10)
   (.seq
    (.reg [
       ⟨(some 4), none, .mov (.v (.b false))⟩] [4])
    (.ret))
   (.skip)))
  (.seq
  (.seq
   (.reg [
      ⟨(some 11), none, .fieldAddr 1 (.t 2)⟩,
      ⟨(some 12), none, .load false 1 (.t 11)⟩,
      ⟨(some 13), none, .fieldAddr 1 (.t 3)⟩,
      ⟨(some 14), none, .load false 1 (.t 13)⟩,
      ⟨(some 15), none, .call fid_laws_eqIntS false [.im, .im] [(.t 12), (.t 14)]⟩,
      ⟨(some 16), none, .un .not (.t 15)⟩] [16])
   (.cond (.t 16)
   (.seq
    (.reg [
       ⟨(some 4), none, .mov (.v (.b false))⟩] [4])
    (.ret))
   (.skip)))
  (.seq
  (.reg [
     ⟨(some 4), none, .mov (.v (.b true))⟩] [4])
  (.ret))))
theorem get_laws_eqRooted : Go.Proofs.Try.prog.funcs[fid_laws_eqRooted]? = some Go.Proofs.Try.f23 := Go.Proofs.Try.func23
theorem ok_laws_eqRooted : okFn Go.Proofs.Try.prog Go.Proofs.Try.f23 17 [] [(4, none)] mc_laws_eqRooted = true := by kernel_rfl
def mc_laws_eqLifeS : MCode :=
 .seq
  (.reg [
     ⟨(some 4), none, .mov (.v (.b false))⟩] [0, 1])
  (.seq
  (.seq
   (.reg [
      ⟨(some 6), none, .mov (.t 0)⟩,
      ⟨(some 7), none, .len (.t 6)⟩,
      ⟨(some 8), none, .mov (.t 1)⟩,
      ⟨(some 9), none, .len (.t 8)⟩,
      ⟨(some 10), none, .bin .neq (.t 7) (.t 9)⟩] [0, 1, 10])
   (.cond (.t 10)
   (.seq
    (.reg [
       ⟨(some 4), none, .mov (.v (.b false))⟩] [4])
    (.ret))
   (.skip)))
  (.seq
  (.seq
   (.reg [
      ⟨(some 5), none, .mov (.v (.i .i64 0))⟩] [0, 1, 5])
   (.block 0
   (.loop [0, 1, 5]
    (.seq
     (.seq
      (.reg [
         ⟨(some 11), none, .mov (.t 5)⟩,
         ⟨(some 12), none, .mov (.t 0)⟩,
         ⟨(some 13), none, .len (.t 12)⟩,
         ⟨(some 14), none, .bin .lss (.t 11) (.t 13)⟩] [0, 1, 5, 14])
      (.cond (.t 14)
      (.skip)
      (.exit 0)))
     (.seq
     (.block 1
      (.seq
       (.draw [0, 0, 3, 7, 0, 0, 48, 112, 255, 511] [
          ⟨(some 17), none, .mov (.t 0)⟩,
          ⟨(some 18), none, .mov (.t 5)⟩,
          ⟨(some 19), none, .indexAddr 4 (.t 17) (.t 18)⟩,
          ⟨(some 20), none, .load true 4 (.t 19)⟩,
          ⟨(some 21), none, .mov (.t 1)⟩,
          ⟨(some 22), none, .mov (.t 5)⟩,
          ⟨(some 23), none, .indexAddr 4 (.t 21) (.t 22)⟩,
          ⟨(some 24), none, .load true 4 (.t 23)⟩,
          ⟨(some 25), none, .call fid_laws_eqLife false [.im, .im] [(.t 20), (.t 24)]⟩,
          ⟨(some 26), none, .un .not (.t 25)⟩] [0, 1, 5, 26])
       (.cond (.t 26)
       (.seq
        (.reg [
           ⟨(some 4), none, .mov (.v (.b false))⟩] [4])
        (.ret))
       (.skip))))
     (.reg [
       ⟨(some 15), none, .mov (.t 5)⟩,
       ⟨(some 16), none, .bin .add (.t 15) (.v (.i .i64 1))⟩,
       ⟨(some 5), none, .mov (.t 16)⟩] [0, 1, 5]))))))
  (.seq
  (.reg [
     ⟨(some 4), none, .mov (.v (.b true))⟩] [4])
  (.ret))))
theorem get_laws_eqLifeS : Go.Proofs.Try.prog.funcs[fid_laws_eqLifeS]? = some Go.Proofs.Try.f24 := Go.Proofs.Try.func24
theorem ok_laws_eqLifeS : okFn Go.Proofs.Try.prog Go.Proofs.Try.f24 27 [] [(4, none)] mc_laws_eqLifeS = true := by kernel_rfl
def mc_laws_markLifeS : MCode :=
 .seq
  (.reg [
     ⟨(some 4), none, .mov (.v (.i .i64 0))⟩] [0, 1])
  (.seq
  (.seq
   (.reg [
      ⟨(some 5), none, .mov (.v (.i .i64 0))⟩] [0, 1, 5])
   (.block 0
   (.loop [0, 1, 5]
    (.seq
     (.seq
      (.reg [
         ⟨(some 6), none, .mov (.t 5)⟩,
         ⟨(some 7), none, .mov (.t 0)⟩,
         ⟨(some 8), none, .len (.t 7)⟩,
         ⟨(some 9), none, .bin .lss (.t 6) (.t 8)⟩] [0, 1, 5, 9])
      (.cond (.t 9)
      (.skip)
      (.exit 0)))
     (.seq
     (.block 1
      (.seq
       (.reg [
          ⟨(some 12), none, .mov (.t 0)⟩,
          ⟨(some 13), none, .mov (.t 5)⟩,
          ⟨(some 14), none, .mov (.t 1)⟩,
          ⟨(some 15), none, .indexAddr 4 (.t 12) (.t 13)⟩,
          ⟨(some 16), none, .fieldAddr 0 (.t 15)⟩,
          ⟨(some 17), none, .fieldAddr 0 (.t 16)⟩,
          ⟨none, none, .store 1 (.t 17) (.t 14)⟩] [0, 1, 5])
       (.seq
       (.reg [
          ⟨(some 18), none, .mov (.t 1)⟩,
          ⟨(some 19), none, .bin .add (.t 18) (.v (.i .i64 1))⟩,
          ⟨(some 1), none, .mov (.t 19)⟩] [0, 1, 5])
       (.seq
       (.reg [
          ⟨(some 20), none, .mov (.t 0)⟩,
          ⟨(some 21), none, .mov (.t 5)⟩,
          ⟨(some 22), none, .mov (.t 1)⟩,
          ⟨(some 23), none, .indexAddr 4 (.t 20) (.t 21)⟩,
          ⟨(some 24), none, .fieldAddr 0 (.t 23)⟩,
          ⟨(some 25), none, .fieldAddr 1 (.t 24)⟩,
          ⟨none, none, .store 1 (.t 25) (.t 22)⟩] [0, 1, 5])
       (.seq
       (.reg [
          ⟨(some 26), none, .mov (.t 1)⟩,
          ⟨(some 27), none, .bin .add (.t 26) (.v (.i .i64 1))⟩,
          ⟨(some 1), none, .mov (.t 27)⟩] [0, 1, 5])
       (.seq
       (.reg [
          ⟨(some 28), none, .mov (.t 0)⟩,
          ⟨(some 29), none, .mov (.t 5)⟩,
          ⟨(some 30), none, .mov (.t 1)⟩,
          ⟨(some 31), none, .indexAddr 4 (.t 28) (.t 29)⟩,
          ⟨(some 32), none, .fieldAddr 2 (.t 31)⟩,
          ⟨none, none, .store 1 (.t 32) (.t 30)⟩] [0, 1, 5])
       (.seq
       (.reg [
          ⟨(some 33), none, .mov (.t 1)⟩,
          ⟨(some 34), none, .bin .add (.t 33) (.v (.i .i64 1))⟩,
          ⟨(some 1), none, .mov (.t 34)⟩] [0, 1, 5])
       (.seq
       (.reg [
          ⟨(some 35), none, .mov (.t 0)⟩,
          ⟨(some 36), none, .mov (.t 5)⟩,
          ⟨(some 37), none, .mov (.t 1)⟩,
          ⟨(some 38), none, .indexAddr 4 (.t 35) (.t 36)⟩,
          ⟨(some 39), none, .fieldAddr 3 (.t 38)⟩,
          ⟨none, none, .store 1 (.t 39) (.t 37)⟩] [0, 1, 5])
       (.reg [
         ⟨(some 40), none, .mov (.t 1)⟩,
         ⟨(some 41), none, .bin .add (.t 40) (.v (.i .i64 1))⟩,
         ⟨(some 1), none, .mov (.t 41)⟩] [0, 1, 5])))))))))
     (.reg [
       ⟨(some 10), none, .mov (.t 5)⟩,
       ⟨(some 11), none, .bin .add (.t 10) (.v (.i .i64 1))⟩,
       ⟨(some 5), none, .mov (.t 11)⟩] [0, 1, 5]))))))
  (.seq
  (.reg [
     ⟨(some 42), none, .mov (.t 1)⟩,
     ⟨(some 4), none, .mov (.t 42)⟩] [0, 4])
  (.ret)))
theorem get_laws_markLifeS : Go.Proofs.Try.prog.funcs[fid_laws_markLifeS]? = some Go.Proofs.Try.f25 := Go.Proofs.Try.func25
theorem ok_laws_markLifeS : okFn Go.Proofs.Try.prog Go.Proofs.Try.f25 43 [0] [(4, none)] mc_laws_markLifeS = true := by kernel_rfl
def mc_laws_heldLifeS : MCode :=
 .seq
  (.reg [
     ⟨(some 4), none, .mov (.v (.i .i64 0))⟩] [0, 1])
  (.seq
  (.seq
   (.reg [
      ⟨(some 5), none, .mov (.v (.i .i64 0))⟩] [0, 1, 5])
   (.block 0
   (.loop [0, 1, 5]
    (.seq
     (.seq
      (.reg [
         ⟨(some 6), none, .mov (.t 5)⟩,
         ⟨(some 7), none, .mov (.t 0)⟩,
         ⟨(some 8), none, .len (.t 7)⟩,
         ⟨(some 9), none, .bin .lss (.t 6) (.t 8)⟩] [0, 1, 5, 9])
      (.cond (.t 9)
      (.skip)
      (.exit 0)))
     (.seq
     (.block 1
      (.seq
       (.seq
        (.reg [
           ⟨(some 12), none, .mov (.t 0)⟩,
           ⟨(some 13), none, .mov (.t 5)⟩,
           ⟨(some 14), none, .indexAddr 4 (.t 12) (.t 13)⟩,
           ⟨(some 15), none, .fieldAddr 0 (.t 14)⟩,
           ⟨(some 16), none, .fieldAddr 0 (.t 15)⟩,
           ⟨(some 17), none, .load false 1 (.t 16)⟩,
           ⟨(some 18), none, .mov (.t 1)⟩,
           ⟨(some 19), none, .bin .neq (.t 17) (.t 18)⟩] [0, 1, 5, 19])
        (.cond (.t 19)
        (.seq
         (.reg [
            ⟨(some 4), none, .mov (.v (.i .i64 (-1)))⟩] [4])
         (.ret))
        (.skip)))
       (.seq
       (.reg [
          ⟨(some 20), none, .mov (.t 1)⟩,
          ⟨(some 21), none, .bin .add (.t 20) (.v (.i .i64 1))⟩,
          ⟨(some 1), none, .mov (.t 21)⟩] [0, 1, 5])
       (.seq
       (.seq
        (.reg [
           ⟨(some 22), none, .mov (.t 0)⟩,
           ⟨(some 23), none, .mov (.t 5)⟩,
           ⟨(some 24), none, .indexAddr 4 (.t 22) (.t 23)⟩,
           ⟨(some 25), none, .fieldAddr 0 (.t 24)⟩,
           ⟨(some 26), none, .fieldAddr 1 (.t 25)⟩,
           ⟨(some 27), none, .load false 1 (.t 26)⟩,
           ⟨(some 28), none, .mov (.t 1)⟩,
           ⟨(some 29), none, .bin .neq (.t 27) (.t 28)⟩] [0, 1, 5, 29])
        (.cond (.t 29)
        (.seq
         (.reg [
            ⟨(some 4), none, .mov (.v (.i .i64 (-1)))⟩] [4])
         (.ret))
        (.skip)))
       (.seq
       (.reg [
          ⟨(some 30), none, .mov (.t 1)⟩,
          ⟨(some 31), none, .bin .add (.t 30) (.v (.i .i64 1))⟩,
          ⟨(some 1), none, .mov (.t 31)⟩] [0, 1, 5])
       (.seq
       (.seq
        (.reg [
           ⟨(some 32), none, .mov (.t 0)⟩,
           ⟨(some 33), none, .mov (.t 5)⟩,
           ⟨(some 34), none, .indexAddr 4 (.t 32) (.t 33)⟩,
           ⟨(some 35), none, .fieldAddr 2 (.t 34)⟩,
           ⟨(some 36), none, .load false 1 (.t 35)⟩,
           ⟨(some 37), none, .mov (.t 1)⟩,
           ⟨(some 38), none, .bin .neq (.t 36) (.t 37)⟩] [0, 1, 5, 38])
        (.cond (.t 38)
        (.seq
         (.reg [
            ⟨(some 4), none, .mov (.v (.i .i64 (-1)))⟩] [4])
         (.ret))
        (.skip)))
       (.seq
       (.reg [
          ⟨(some 39), none, .mov (.t 1)⟩,
          ⟨(some 40), none, .bin .add (.t 39) (.v (.i .i64 1))⟩,
          ⟨(some 1), none, .mov (.t 40)⟩] [0, 1, 5])
       (.seq
       (.seq
        (.reg [
           ⟨(some 41), none, .mov (.t 0)⟩,
           ⟨(some 42), none, .mov (.t 5)⟩,
           ⟨(some 43), none, .indexAddr 4 (.t 41) (.t 42)⟩,
           ⟨(some 44), none, .fieldAddr 3 (.t 43)⟩,
           ⟨(some 45), none, .load false 1 (.t 44)⟩,
           ⟨(some 46), none, .mov (.t 1)⟩,
           ⟨(some 47), none, .bin .neq (.t 45) (.t 46)⟩] [0, 1, 5, 47])
        (.cond (.t 47)
        (.seq
         (.reg [
            ⟨(some 4), none, .mov (.v (.i .i64 (-1)))⟩] [4])
         (.ret))
        (.skip)))
       (.reg [
         ⟨(some 48), none, .mov (.t 1)⟩,
         ⟨(some 49), none, .bin .add (.t 48) (.v (.i .i64 1))⟩,
         ⟨(some 1), none, .mov (.t 49)⟩] [0, 1, 5])))))))))
     (.reg [
       ⟨(some 10), none, .mov (.t 5)⟩,
       ⟨(some 11), none, .bin .add (.t 10) (.v (.i .i64 1))⟩,
       ⟨(some 5), none, .mov (.t 11)⟩] [0, 1, 5]))))))
  (.seq
  (.reg [
     ⟨(some 50), none, .mov (.t 1)⟩,
     ⟨(some 4), none, .mov (.t 50)⟩] [4])
  (.ret)))
theorem get_laws_heldLifeS : Go.Proofs.Try.prog.funcs[fid_laws_heldLifeS]? = some Go.Proofs.Try.f26 := Go.Proofs.Try.func26
theorem ok_laws_heldLifeS : okFn Go.Proofs.Try.prog Go.Proofs.Try.f26 51 [] [(4, none)] mc_laws_heldLifeS = true := by kernel_rfl
def mc_spec_ChainEdges : MCode :=
 .seq
  (.reg [
     ⟨(some 2), none, .mov (.v (.nl 2))⟩,
     ⟨(some 3), none, .mov (.v (.b false))⟩] [0])
  (.seq
  (.reg [
     ⟨(some 6), none, .buildSlice 2 []⟩,
     ⟨(some 4), none, .mov (.t 6)⟩] [0, 4])
  (.seq
  (.seq
   (.reg [
      ⟨(some 5), none, .mov (.v (.i .i64 0))⟩] [0, 4, 5])
   (.block 0
   (.loop [0, 4, 5]
    (.seq
     (.seq
      (.reg [
         ⟨(some 7), none, .mov (.t 5)⟩,
         ⟨(some 8), none, .mov (.t 0)⟩,
         ⟨(some 9), none, .len (.t 8)⟩,
         ⟨(some 10), none, .bin .lss (.t 7) (.t 9)⟩,
         ⟨(some 11), none, .mov (.t 10)⟩,
         ⟨(some 12), (some (11, true)), .mov (.t 5)⟩,
         ⟨(some 13), (some (11, true)), .bin .leq (.t 12) (.v (.i .i64 16))⟩,
         ⟨(some 14), none, .pick (.t 11) (.t 13) (.v (.b false))⟩] [0, 4, 5, 14])
      (.cond (.t 14)
      (.skip)
      (.exit 0)))
     (.seq
     (.block 1
      (.seq
       (.seq
        (.draw [0, 0, 3, 7, 15, 31, 63, 63, 255, 511, 1023, 2047, 4095, 8191, 16383, 32767, 65535, 65535, 262143, 524287, 65535, 65535, 2162687, 7405567, 15794175, 33554431, 67108863, 134217727] [
           ⟨(some 17), none, .mov (.t 0)⟩,
           ⟨(some 18), none, .mov (.t 5)⟩,
           ⟨(some 19), none, .indexAddr 1 (.t 17) (.t 18)⟩,
           ⟨(some 20), none, .load false 1 (.t 19)⟩,
           ⟨(some 21), none, .bin .lss (.t 20) (.v (.i .i64 0))⟩,
           ⟨(some 22), none, .mov (.t 21)⟩,
           ⟨(some 23), (some (22, false)), .mov (.t 0)⟩,
           ⟨(some 24), (some (22, false)), .mov (.t 5)⟩,
           ⟨(some 25), (some (22, false)), .indexAddr 1 (.t 23) (.t 24)⟩,
           ⟨(some 26), (some (22, false)), .load false 1 (.t 25)⟩,
           ⟨(some 27), (some (22, false)), .bin .geq (.t 26) (.v (.i .i64 16))⟩,
           ⟨(some 28), none, .pick (.t 22) (.v (.b true)) (.t 27)⟩,
           ⟨(some 29), none, .mov (.t 28)⟩,
           ⟨(some 30), (some (29, false)), .mov (.t 5)⟩,
           ⟨(some 31), (some (29, false)), .bin .gtr (.t 30) (.v (.i .i64 0))⟩,
           ⟨(some 32), (some (29, false)), .mov (.t 31)⟩,
           ⟨(some 33), (some (32, true)), .mov (.t 0)⟩,
           ⟨(some 34), (some (32, true)), .mov (.t 5)⟩,
           ⟨(some 35), (some (32, true)), .indexAddr 1 (.t 33) (.t 34)⟩,
           ⟨(some 36), (some (32, true)), .load false 1 (.t 35)⟩,
           ⟨(some 37), (some (32, true)), .mov (.t 0)⟩,
           ⟨(some 38), (some (32, true)), .mov (.t 5)⟩,
           ⟨(some 39), (some (32, true)), .bin .sub (.t 38) (.v (.i .i64 1))⟩,
           ⟨(some 40), (some (32, true)), .indexAddr 1 (.t 37) (.t 39)⟩,
           ⟨(some 41), (some (32, true)), .load false 1 (.t 40)⟩,
           ⟨(some 42), (some (32, true)), .bin .eql (.t 36) (.t 41)⟩,
           ⟨(some 43), (some (29, false)), .pick (.t 32) (.t 42) (.v (.b false))⟩,
           ⟨(some 44), none, .pick (.t 29) (.v (.b true)) (.t 43)⟩] [0, 4, 5, 44])
        (.cond (.t 44)
        (.seq
         (.reg [
            ⟨(some 45), none, .buildSlice 2 []⟩,
            ⟨(some 2), none, .mov (.t 45)⟩,
            ⟨(some 3), none, .mov (.v (.b false))⟩] [2, 3])
         (.ret))
        (.skip)))
       (.seq
       (.reg [
          ⟨(some 46), none, .mov (.t 5)⟩,
          ⟨(some 47), none, .bin .gtr (.t 46) (.v (.i .i64 0))⟩] [0, 4, 5, 47])
       (.cond (.t 47)
       (.draw [0, 0, 0, 4, 14, 30, 0, 0, 192, 448, 1022, 2046, 4095, 8191] [
          ⟨(some 48), none, .mov (.t 4)⟩,
          ⟨(some 49), none, .mov (.t 0)⟩,
          ⟨(some 50), none, .mov (.t 5)⟩,
          ⟨(some 51), none, .bin .sub (.t 50) (.v (.i .i64 1))⟩,
          ⟨(some 52), none, .indexAddr 1 (.t 49) (.t 51)⟩,
          ⟨(some 53), none, .load false 1 (.t 52)⟩,
          ⟨(some 54), none, .mov (.t 0)⟩,
          ⟨(some 55), none, .mov (.t 5)⟩,
          ⟨(some 56), none, .indexAddr 1 (.t 54) (.t 55)⟩,
          ⟨(some 57), none, .load false 1 (.t 56)⟩,
          ⟨(some 58), none, .call fid_spec_l1Edge false [.im, .im] [(.t 53), (.t 57)]⟩,
          ⟨(some 59), none, .buildSlice 2 [(.t 58)]⟩,
          ⟨(some 60), none, .append 2 16 true (.t 48) (.t 59)⟩,
          ⟨(some 4), none, .mov (.t 60)⟩] [0, 4, 5])
       (.skip)))))
     (.reg [
       ⟨(some 15), none, .mov (.t 5)⟩,
       ⟨(some 16), none, .bin .add (.t 15) (.v (.i .i64 1))⟩,
       ⟨(some 5), none, .mov (.t 16)⟩] [0, 4, 5]))))))
  (.seq
  (.seq
   (.reg [
      ⟨(some 61), none, .mov (.t 0)⟩,
      ⟨(some 62), none, .len (.t 61)⟩,
      ⟨(some 63), none, .bin .gtr (.t 62) (.v (.i .i64 17))⟩] [4, 63])
   (.cond (.t 63)
   (.seq
    (.reg [
       ⟨(some 64), none, .buildSlice 2 []⟩,
       ⟨(some 2), none, .mov (.t 64)⟩,
       ⟨(some 3), none, .mov (.v (.b false))⟩] [2, 3])
    (.ret))
   (.skip)))
  (.seq
  (.reg [
     ⟨(some 65), none, .mov (.t 4)⟩,
     ⟨(some 2), none, .mov (.t 65)⟩,
     ⟨(some 3), none, .mov (.v (.b true))⟩] [2, 3])
  (.ret)))))
theorem get_spec_ChainEdges : Go.Proofs.Try.prog.funcs[fid_spec_ChainEdges]? = some Go.Proofs.Try.f27 := Go.Proofs.Try.func27
theorem ok_spec_ChainEdges : okFn Go.Proofs.Try.prog Go.Proofs.Try.f27 66 [] [(2, none), (3, none)] mc_spec_ChainEdges = true := by kernel_rfl
def mc_laws_toIntS : MCode :=
 .seq
  (.reg [
     ⟨(some 2), none, .mov (.v (.nl 1))⟩] [0])
  (.seq
  (.reg [
     ⟨(some 5), none, .mov (.t 0)⟩,
     ⟨(some 6), none, .len (.t 5)⟩,
     ⟨(some 7), none, .makeSlice 1 8 [.i .i64 0] (.t 6) (.t 6)⟩,
     ⟨(some 3), none, .mov (.t 7)⟩] [0, 3])
  (.seq
  (.seq
   (.reg [
      ⟨(some 4), none, .mov (.v (.i .i64 0))⟩] [0, 3, 4])
   (.block 0
   (.loop [0, 3, 4]
    (.seq
     (.seq
      (.reg [
         ⟨(some 8), none, .mov (.t 4)⟩,
         ⟨(some 9), none, .mov (.t 0)⟩,
         ⟨(some 10), none, .len (.t 9)⟩,
         ⟨(some 11), none, .bin .lss (.t 8) (.t 10)⟩] [0, 3, 4, 11])
      (.cond (.t 11)
      (.skip)
      (.exit 0)))
     (.seq
     (.block 1
      (.reg [
         ⟨(some 14), none, .mov (.t 3)⟩,
         ⟨(some 15), none, .mov (.t 4)⟩,
         ⟨(some 16), none, .mov (.t 0)⟩,
         ⟨(some 17), none, .mov (.t 4)⟩,
         ⟨(some 18), none, .indexAddr 1 (.t 16) (.t 17)⟩,
         ⟨(some 19), none, .load false 1 (.t 18)⟩,
         ⟨(some 20), none, .indexAddr 1 (.t 14) (.t 15)⟩,
         ⟨none, none, .store 1 (.t 20) (.t 19)⟩] [0, 3, 4]))
     (.reg [
       ⟨(some 12), none, .mov (.t 4)⟩,
       ⟨(some 13), none, .bin .add (.t 12) (.v (.i .i64 1))⟩,
       ⟨(some 4), none, .mov (.t 13)⟩] [0, 3, 4]))))))
  (.seq
  (.reg [
     ⟨(some 21), none, .mov (.t 3)⟩,
     ⟨(some 2), none, .mov (.t 21)⟩] [2])
  (.ret))))
theorem get_laws_toIntS : Go.Proofs.Try.prog.funcs[fid_laws_toIntS]? = some Go.Proofs.Try.f28 := Go.Proofs.Try.func28
theorem ok_laws_toIntS : okFn Go.Proofs.Try.prog Go.Proofs.Try.f28 22 [] [(2, none)] mc_laws_toIntS = true := by kernel_rfl
def mc_impl_ChainEdges : MCode :=
 .seq
  (.reg [
     ⟨(some 2), none, .mov (.v (.nl 2))⟩,
     ⟨(some 3), none, .mov (.v (.b false))⟩] [0])
  (.seq
  (.seq
   (.reg [
      ⟨(some 4), none, .mov (.t 0)⟩,
      ⟨(some 5), none, .len (.t 4)⟩,
      ⟨(some 6), none, .bin .gtr (.t 5) (.v (.i .i64 17))⟩,
      ⟨(some 7), none, .mov (.t 6)⟩,
      ⟨(some 8), (some (7, false)), .mov (.t 0)⟩,
      ⟨(some 9), (some (7, false)), .call fid_slices_ContainsFunc_int_int false [.im, .fn] [(.t 8), (.v (.clo fid_impl_ChainEdges_1 [] []))]⟩,
      ⟨(some 10), none, .pick (.t 7) (.v (.b true)) (.t 9)⟩] [0, 10])
   (.cond (.t 10)
   (.seq
    (.reg [
       ⟨(some 2), none, .mov (.v (.nl 2))⟩,
       ⟨(some 3), none, .mov (.v (.b false))⟩] [2, 3])
    (.ret))
   (.skip)))
  (.seq
  (.reg [
     ⟨(some 11), none, .mov (.t 0)⟩,
     ⟨(some 12), none, .call fid_impl_steps false [.im] [(.t 11)]⟩,
     ⟨(some 13), none, .extract (.t 12) 0⟩,
     ⟨(some 14), none, .extract (.t 12) 1⟩,
     ⟨(some 2), none, .mov (.t 13)⟩,
     ⟨(some 3), none, .mov (.t 14)⟩] [2, 3])
  (.ret)))
theorem get_impl_ChainEdges : Go.Proofs.Try.prog.funcs[fid_impl_ChainEdges]? = some Go.Proofs.Try.f29 := Go.Proofs.Try.func29
theorem ok_impl_ChainEdges : okFn Go.Proofs.Try.prog Go.Proofs.Try.f29 15 [] [(2, none), (3, none)] mc_impl_ChainEdges = true := by kernel_rfl
def mc_laws_eqEdgeS : MCode :=
 .seq
  (.reg [
     ⟨(some 4), none, .mov (.v (.b false))⟩] [0, 1])
  (.seq
  (.seq
   (.reg [
      ⟨(some 6), none, .mov (.t 0)⟩,
      ⟨(some 7), none, .len (.t 6)⟩,
      ⟨(some 8), none, .mov (.t 1)⟩,
      ⟨(some 9), none, .len (.t 8)⟩,
      ⟨(some 10), none, .bin .neq (.t 7) (.t 9)⟩] [0, 1, 10])
   (.cond (.t 10)
   (.seq
    (.reg [
       ⟨(some 4), none, .mov (.v (.b false))⟩] [4])
    (.ret))
   (.skip)))
  (.seq
  (.seq
   (.reg [
      ⟨(some 5), none, .mov (.v (.i .i64 0))⟩] [0, 1, 5])
   (.block 0
   (.loop [0, 1, 5]
    (.seq
     (.seq
      (.reg [
         ⟨(some 11), none, .mov (.t 5)⟩,
         ⟨(some 12), none, .mov (.t 0)⟩,
         ⟨(some 13), none, .len (.t 12)⟩,
         ⟨(some 14), none, .bin .lss (.t 11) (.t 13)⟩] [0, 1, 5, 14])
      (.cond (.t 14)
      (.skip)
      (.exit 0)))
     (.seq
     (.block 1
      (.seq
       (.draw [0, 0, 3, 7, 0, 0, 48, 112, 255, 511] [
          ⟨(some 17), none, .mov (.t 0)⟩,
          ⟨(some 18), none, .mov (.t 5)⟩,
          ⟨(some 19), none, .indexAddr 2 (.t 17) (.t 18)⟩,
          ⟨(some 20), none, .load true 2 (.t 19)⟩,
          ⟨(some 21), none, .mov (.t 1)⟩,
          ⟨(some 22), none, .mov (.t 5)⟩,
          ⟨(some 23), none, .indexAddr 2 (.t 21) (.t 22)⟩,
          ⟨(some 24), none, .load true 2 (.t 23)⟩,
          ⟨(some 25), none, .call fid_laws_eqEdge false [.im, .im] [(.t 20), (.t 24)]⟩,
          ⟨(some 26), none, .un .not (.t 25)⟩] [0, 1, 5, 26])
       (.cond (.t 26)
       (.seq
        (.reg [
           ⟨(some 4), none, .mov (.v (.b false))⟩] [4])
        (.ret))
       (.skip))))
     (.reg [
       ⟨(some 15), none, .mov (.t 5)⟩,
       ⟨(some 16), none, .bin .add (.t 15) (.v (.i .i64 1))⟩,
       ⟨(some 5), none, .mov (.t 16)⟩] [0, 1, 5]))))))
  (.seq
  (.reg [
     ⟨(some 4), none, .mov (.v (.b true))⟩] [4])
  (.ret))))
theorem get_laws_eqEdgeS : Go.Proofs.Try.prog.funcs[fid_laws_eqEdgeS]? = some Go.Proofs.Try.f30 := Go.Proofs.Try.func30
theorem ok_laws_eqEdgeS : okFn Go.Proofs.Try.prog Go.Proofs.Try.f30 27 [] [(4, none)] mc_laws_eqEdgeS = true := by kernel_rfl
def mc_laws_eqIntS : MCode :=
 .seq
  (.reg [
     ⟨(some 4), none, .mov (.v (.b false))⟩] [0, 1])
  (.seq
  (.seq
   (.reg [
      ⟨(some 6), none, .mov (.t 0)⟩,
      ⟨(some 7), none, .len (.t 6)⟩,
      ⟨(some 8), none, .mov (.t 1)⟩,
      ⟨(some 9), none, .len (.t 8)⟩,
      ⟨(some 10), none, .bin .neq (.t 7) (.t 9)⟩] [0, 1, 10])
   (.cond (.t 10)
   (.seq
    (.reg [
       ⟨(some 4), none, .mov (.v (.b false))⟩] [4])
    (.ret))
   (.skip)))
  (.seq
  (.seq
   (.reg [
      ⟨(some 5), none, .mov (.v (.i .i64 0))⟩] [0, 1, 5])
   (.block 0
   (.loop [0, 1, 5]
    (.seq
     (.seq
      (.reg [
         ⟨(some 11), none, .mov (.t 5)⟩,
         ⟨(some 12), none, .mov (.t 0)⟩,
         ⟨(some 13), none, .len (.t 12)⟩,
         ⟨(some 14), none, .bin .lss (.t 11) (.t 13)⟩] [0, 1, 5, 14])
      (.cond (.t 14)
      (.skip)
      (.exit 0)))
     (.seq
     (.block 1
      (.seq
       (.draw [0, 0, 3, 7, 0, 0, 48, 112, 255] [
          ⟨(some 17), none, .mov (.t 0)⟩,
          ⟨(some 18), none, .mov (.t 5)⟩,
          ⟨(some 19), none, .indexAddr 1 (.t 17) (.t 18)⟩,
          ⟨(some 20), none, .load false 1 (.t 19)⟩,
          ⟨(some 21), none, .mov (.t 1)⟩,
          ⟨(some 22), none, .mov (.t 5)⟩,
          ⟨(some 23), none, .indexAddr 1 (.t 21) (.t 22)⟩,
          ⟨(some 24), none, .load false 1 (.t 23)⟩,
          ⟨(some 25), none, .bin .neq (.t 20) (.t 24)⟩] [0, 1, 5, 25])
       (.cond (.t 25)
       (.seq
        (.reg [
           ⟨(some 4), none, .mov (.v (.b false))⟩] [4])
        (.ret))
       (.skip))))
     (.reg [
       ⟨(some 15), none, .mov (.t 5)⟩,
       ⟨(some 16), none, .bin .add (.t 15) (.v (.i .i64 1))⟩,
       ⟨(some 5), none, .mov (.t 16)⟩] [0, 1, 5]))))))
  (.seq
  (.reg [
     ⟨(some 4), none, .mov (.v (.b true))⟩] [4])
  (.ret))))
theorem get_laws_eqIntS : Go.Proofs.Try.prog.funcs[fid_laws_eqIntS]? = some Go.Proofs.Try.f31 := Go.Proofs.Try.func31
theorem ok_laws_eqIntS : okFn Go.Proofs.Try.prog Go.Proofs.Try.f31 26 [] [(4, none)] mc_laws_eqIntS = true := by kernel_rfl
def mc_laws_markIntS : MCode :=
 .seq
  (.reg [
     ⟨(some 4), none, .mov (.v (.i .i64 0))⟩] [0, 1])
  (.seq
  (.seq
   (.reg [
      ⟨(some 5), none, .mov (.v (.i .i64 0))⟩] [0, 1, 5])
   (.block 0
   (.loop [0, 1, 5]
    (.seq
     (.seq
      (.reg [
         ⟨(some 6), none, .mov (.t 5)⟩,
         ⟨(some 7), none, .mov (.t 0)⟩,
         ⟨(some 8), none, .len (.t 7)⟩,
         ⟨(some 9), none, .bin .lss (.t 6) (.t 8)⟩] [0, 1, 5, 9])
      (.cond (.t 9)
      (.skip)
      (.exit 0)))
     (.seq
     (.block 1
      (.seq
       (.reg [
          ⟨(some 12), none, .mov (.t 0)⟩,
          ⟨(some 13), none, .mov (.t 5)⟩,
          ⟨(some 14), none, .mov (.t 1)⟩,
          ⟨(some 15), none, .indexAddr 1 (.t 12) (.t 13)⟩,
          ⟨none, none, .store 1 (.t 15) (.t 14)⟩] [0, 1, 5])
       (.reg [
         ⟨(some 16), none, .mov (.t 1)⟩,
         ⟨(some 17), none, .bin .add (.t 16) (.v (.i .i64 1))⟩,
         ⟨(some 1), none, .mov (.t 17)⟩] [0, 1, 5])))
     (.reg [
       ⟨(some 10), none, .mov (.t 5)⟩,
       ⟨(some 11), none, .bin .add (.t 10) (.v (.i .i64 1))⟩,
       ⟨(some 5), none, .mov (.t 11)⟩] [0, 1, 5]))))))
  (.seq
  (.reg [
     ⟨(some 18), none, .mov (.t 1)⟩,
     ⟨(some 4), none, .mov (.t 18)⟩] [0, 4])
  (.ret)))
theorem get_laws_markIntS : Go.Proofs.Try.prog.funcs[fid_laws_markIntS]? = some Go.Proofs.Try.f32 := Go.Proofs.Try.func32
theorem ok_laws_markIntS : okFn Go.Proofs.Try.prog Go.Proofs.Try.f32 19 [0] [(4, none)] mc_laws_markIntS = true := by kernel_rfl
def mc_laws_markEdgeS : MCode :=
 .seq
  (.reg [
     ⟨(some 4), none, .mov (.v (.i .i64 0))⟩] [0, 1])
  (.seq
  (.seq
   (.reg [
      ⟨(some 5), none, .mov (.v (.i .i64 0))⟩] [0, 1, 5])
   (.block 0
   (.loop [0, 1, 5]
    (.seq
     (.seq
      (.reg [
         ⟨(some 6), none, .mov (.t 5)⟩,
         ⟨(some 7), none, .mov (.t 0)⟩,
         ⟨(some 8), none, .len (.t 7)⟩,
         ⟨(some 9), none, .bin .lss (.t 6) (.t 8)⟩] [0, 1, 5, 9])
      (.cond (.t 9)
      (.skip)
      (.exit 0)))
     (.seq
     (.block 1
      (.seq
       (.reg [
          ⟨(some 12), none, .mov (.t 0)⟩,
          ⟨(some 13), none, .mov (.t 5)⟩,
          ⟨(some 14), none, .mov (.t 1)⟩,
          ⟨(some 15), none, .indexAddr 2 (.t 12) (.t 13)⟩,
          ⟨(some 16), none, .fieldAddr 0 (.t 15)⟩,
          ⟨none, none, .store 1 (.t 16) (.t 14)⟩] [0, 1, 5])
       (.seq
       (.reg [
          ⟨(some 17), none, .mov (.t 1)⟩,
          ⟨(some 18), none, .bin .add (.t 17) (.v (.i .i64 1))⟩,
          ⟨(some 1), none, .mov (.t 18)⟩] [0, 1, 5])
       (.seq
       (.reg [
          ⟨(some 19), none, .mov (.t 0)⟩,
          ⟨(some 20), none, .mov (.t 5)⟩,
          ⟨(some 21), none, .mov (.t 1)⟩,
          ⟨(some 22), none, .indexAddr 2 (.t 19) (.t 20)⟩,
          ⟨(some 23), none, .fieldAddr 1 (.t 22)⟩,
          ⟨none, none, .store 1 (.t 23) (.t 21)⟩] [0, 1, 5])
       (.reg [
         ⟨(some 24), none, .mov (.t 1)⟩,
         ⟨(some 25), none, .bin .add (.t 24) (.v (.i .i64 1))⟩,
         ⟨(some 1), none, .mov (.t 25)⟩] [0, 1, 5])))))
     (.reg [
       ⟨(some 10), none, .mov (.t 5)⟩,
       ⟨(some 11), none, .bin .add (.t 10) (.v (.i .i64 1))⟩,
       ⟨(some 5), none, .mov (.t 11)⟩] [0, 1, 5]))))))
  (.seq
  (.reg [
     ⟨(some 26), none, .mov (.t 1)⟩,
     ⟨(some 4), none, .mov (.t 26)⟩] [0, 4])
  (.ret)))
theorem get_laws_markEdgeS : Go.Proofs.Try.prog.funcs[fid_laws_markEdgeS]? = some Go.Proofs.Try.f33 := Go.Proofs.Try.func33
theorem ok_laws_markEdgeS : okFn Go.Proofs.Try.prog Go.Proofs.Try.f33 27 [0] [(4, none)] mc_laws_markEdgeS = true := by kernel_rfl
def mc_laws_heldEdgeS : MCode :=
 .seq
  (.reg [
     ⟨(some 4), none, .mov (.v (.i .i64 0))⟩] [0, 1])
  (.seq
  (.seq
   (.reg [
      ⟨(some 5), none, .mov (.v (.i .i64 0))⟩] [0, 1, 5])
   (.block 0
   (.loop [0, 1, 5]
    (.seq
     (.seq
      (.reg [
         ⟨(some 6), none, .mov (.t 5)⟩,
         ⟨(some 7), none, .mov (.t 0)⟩,
         ⟨(some 8), none, .len (.t 7)⟩,
         ⟨(some 9), none, .bin .lss (.t 6) (.t 8)⟩] [0, 1, 5, 9])
      (.cond (.t 9)
      (.skip)
      (.exit 0)))
     (.seq
     (.block 1
      (.seq
       (.seq
        (.reg [
           ⟨(some 12), none, .mov (.t 0)⟩,
           ⟨(some 13), none, .mov (.t 5)⟩,
           ⟨(some 14), none, .indexAddr 2 (.t 12) (.t 13)⟩,
           ⟨(some 15), none, .fieldAddr 0 (.t 14)⟩,
           ⟨(some 16), none, .load false 1 (.t 15)⟩,
           ⟨(some 17), none, .mov (.t 1)⟩,
           ⟨(some 18), none, .bin .neq (.t 16) (.t 17)⟩] [0, 1, 5, 18])
        (.cond (.t 18)
        (.seq
         (.reg [
            ⟨(some 4), none, .mov (.v (.i .i64 (-1)))⟩] [4])
         (.ret))
        (.skip)))
       (.seq
       (.reg [
          ⟨(some 19), none, .mov (.t 1)⟩,
          ⟨(some 20), none, .bin .add (.t 19) (.v (.i .i64 1))⟩,
          ⟨(some 1), none, .mov (.t 20)⟩] [0, 1, 5])
       (.seq
       (.seq
        (.reg [
           ⟨(some 21), none, .mov (.t 0)⟩,
           ⟨(some 22), none, .mov (.t 5)⟩,
           ⟨(some 23), none, .indexAddr 2 (.t 21) (.t 22)⟩,
           ⟨(some 24), none, .fieldAddr 1 (.t 23)⟩,
           ⟨(some 25), none, .load false 1 (.t 24)⟩,
           ⟨(some 26), none, .mov (.t 1)⟩,
           ⟨(some 27), none, .bin .neq (.t 25) (.t 26)⟩] [0, 1, 5, 27])
        (.cond (.t 27)
        (.seq
         (.reg [
            ⟨(some 4), none, .mov (.v (.i .i64 (-1)))⟩] [4])
         (.ret))
        (.skip)))
       (.reg [
         ⟨(some 28), none, .mov (.t 1)⟩,
         ⟨(some 29), none, .bin .add (.t 28) (.v (.i .i64 1))⟩,
         ⟨(some 1), none, .mov (.t 29)⟩] [0, 1, 5])))))
     (.reg [
       ⟨(some 10), none, .mov (.t 5)⟩,
       ⟨(some 11), none, .bin .add (.t 10) (.v (.i .i64 1))⟩,
       ⟨(some 5), none, .mov (.t 11)⟩] [0, 1, 5]))))))
  (.seq
  (.reg [
     ⟨(some 30), none, .mov (.t 1)⟩,
     ⟨(some 4), none, .mov (.t 30)⟩] [4])
  (.ret)))
theorem get_laws_heldEdgeS : Go.Proofs.Try.prog.funcs[fid_laws_heldEdgeS]? = some Go.Proofs.Try.f34 := Go.Proofs.Try.func34
theorem ok_laws_heldEdgeS : okFn Go.Proofs.Try.prog Go.Proofs.Try.f34 31 [] [(4, none)] mc_laws_heldEdgeS = true := by kernel_rfl
def mc_spec_RootOf : MCode :=
 .seq
  (.reg [
     ⟨(some 2), none, .box 2 (.t 0)⟩,
     ⟨(some 4), none, .mov (.v (.i .i64 0))⟩,
     ⟨(some 5), none, .mov (.v (.b false))⟩] [1, 2])
  (.seq
  (.seq
   (.reg [
      ⟨(some 7), none, .load true 2 (.t 2)⟩,
      ⟨(some 8), none, .mov (.t 1)⟩,
      ⟨(some 9), none, .call fid_spec_l12Node false [.im, .im] [(.t 7), (.t 8)]⟩,
      ⟨(some 10), none, .un .not (.t 9)⟩] [1, 2, 10])
   (.cond (.t 10)
   (.seq
    (.reg [
       ⟨(some 4), none, .mov (.v (.i .i64 0))⟩,
       ⟨(some 5), none, .mov (.v (.b false))⟩] [4, 5])
    (.ret))
   (.skip)))
  (.seq
  (.reg [
     ⟨(some 11), none, .load true 2 (.t 2)⟩,
     ⟨(some 12), none, .mov (.t 1)⟩,
     ⟨(some 13), none, .call fid_spec_l12Up false [.im, .im] [(.t 11), (.t 12)]⟩,
     ⟨(some 6), none, .mov (.t 13)⟩] [6])
  (.seq
  (.reg [
     ⟨(some 14), none, .mov (.t 6)⟩,
     ⟨(some 15), none, .mov (.t 6)⟩,
     ⟨(some 16), none, .len (.t 15)⟩,
     ⟨(some 17), none, .bin .sub (.t 16) (.v (.i .i64 1))⟩,
     ⟨(some 18), none, .indexAddr 1 (.t 14) (.t 17)⟩,
     ⟨(some 19), none, .load false 1 (.t 18)⟩,
     ⟨(some 4), none, .mov (.t 19)⟩,
     ⟨(some 5), none, .mov (.v (.b true))⟩] [4, 5])
  (.ret))))
theorem get_spec_RootOf : Go.Proofs.Try.prog.funcs[fid_spec_RootOf]? = some Go.Proofs.Try.f35 := Go.Proofs.Try.func35
theorem ok_spec_RootOf : okFn Go.Proofs.Try.prog Go.Proofs.Try.f35 20 [] [(4, none), (5, none)] mc_spec_RootOf = true := by kernel_rfl
def mc_impl_RootOf : MCode :=
 .seq
  (.reg [
     ⟨(some 2), none, .box 2 (.t 0)⟩,
     ⟨(some 4), none, .mov (.v (.i .i64 0))⟩,
     ⟨(some 5), none, .mov (.v (.b false))⟩] [1, 2])
  (.seq
  (.seq
   (.reg [
      ⟨(some 6), none, .load true 2 (.t 2)⟩,
      ⟨(some 7), none, .mov (.t 1)⟩,
      ⟨(some 8), none, .call fid_impl_Rooted_hasNode false [.im, .im] [(.t 6), (.t 7)]⟩,
      ⟨(some 9), none, .un .not (.t 8)⟩] [1, 2, 9])
   (.cond (.t 9)
   (.seq
    (.reg [
       ⟨(some 4), none, .mov (.v (.i .i64 0))⟩,
       ⟨(some 5), none, .mov (.v (.b false))⟩] [4, 5])
    (.ret))
   (.skip)))
  (.seq
  (.reg [
     ⟨(some 10), none, .load true 2 (.t 2)⟩,
     ⟨(some 11), none, .mov (.t 1)⟩,
     ⟨(some 12), none, .call fid_impl_Rooted_root false [.im, .im] [(.t 10), (.t 11)]⟩,
     ⟨(some 4), none, .mov (.t 12)⟩,
     ⟨(some 5), none, .mov (.v (.b true))⟩] [4, 5])
  (.ret)))
theorem get_impl_RootOf : Go.Proofs.Try.prog.funcs[fid_impl_RootOf]? = some Go.Proofs.Try.f36 := Go.Proofs.Try.func36
theorem ok_impl_RootOf : okFn Go.Proofs.Try.prog Go.Proofs.Try.f36 13 [] [(4, none), (5, none)] mc_impl_RootOf = true := by kernel_rfl
def mc_spec_WayUp : MCode :=
 .seq
  (.reg [
     ⟨(some 2), none, .box 2 (.t 0)⟩,
     ⟨(some 4), none, .mov (.v (.nl 1))⟩,
     ⟨(some 5), none, .mov (.v (.b false))⟩] [1, 2])
  (.seq
  (.seq
   (.reg [
      ⟨(some 6), none, .load true 2 (.t 2)⟩,
      ⟨(some 7), none, .mov (.t 1)⟩,
      ⟨(some 8), none, .call fid_spec_l12Node false [.im, .im] [(.t 6), (.t 7)]⟩,
      ⟨(some 9), none, .un .not (.t 8)⟩] [1, 2, 9])
   (.cond (.t 9)
   (.seq
    (.reg [
       ⟨(some 10), none, .buildSlice 1 []⟩,
       ⟨(some 4), none, .mov (.t 10)⟩,
       ⟨(some 5), none, .mov (.v (.b false))⟩] [4, 5])
    (.ret))
   (.skip)))
  (.seq
  (.reg [
     ⟨(some 11), none, .load true 2 (.t 2)⟩,
     ⟨(some 12), none, .mov (.t 1)⟩,
     ⟨(some 13), none, .call fid_spec_l12Up false [.im, .im] [(.t 11), (.t 12)]⟩,
     ⟨(some 4), none, .mov (.t 13)⟩,
     ⟨(some 5), none, .mov (.v (.b true))⟩] [4, 5])
  (.ret)))
theorem get_spec_WayUp : Go.Proofs.Try.prog.funcs[fid_spec_WayUp]? = some Go.Proofs.Try.f37 := Go.Proofs.Try.func37
theorem ok_spec_WayUp : okFn Go.Proofs.Try.prog Go.Proofs.Try.f37 14 [] [(4, none), (5, none)] mc_spec_WayUp = true := by kernel_rfl
def mc_impl_WayUp : MCode :=
 .seq
  (.reg [
     ⟨(some 2), none, .box 2 (.t 0)⟩,
     ⟨(some 4), none, .mov (.v (.nl 1))⟩,
     ⟨(some 5), none, .mov (.v (.b false))⟩] [1, 2])
  (.seq
  (.seq
   (.reg [
      ⟨(some 6), none, .load true 2 (.t 2)⟩,
      ⟨(some 7), none, .mov (.t 1)⟩,
      ⟨(some 8), none, .call fid_impl_Rooted_hasNode false [.im, .im] [(.t 6), (.t 7)]⟩,
      ⟨(some 9), none, .un .not (.t 8)⟩] [1, 2, 9])
   (.cond (.t 9)
   (.seq
    (.reg [
       ⟨(some 4), none, .mov (.v (.nl 1))⟩,
       ⟨(some 5), none, .mov (.v (.b false))⟩] [4, 5])
    (.ret))
   (.skip)))
  (.seq
  (.reg [
     ⟨(some 10), none, .load true 2 (.t 2)⟩,
     ⟨(some 11), none, .mov (.t 1)⟩,
     ⟨(some 12), none, .call fid_impl_Rooted_wayUp false [.im, .im] [(.t 10), (.t 11)]⟩,
     ⟨(some 13), none, .extract (.t 12) 0⟩,
     ⟨(some 14), none, .extract (.t 12) 1⟩,
     ⟨(some 4), none, .mov (.t 13)⟩,
     ⟨(some 5), none, .mov (.t 14)⟩] [4, 5])
  (.ret)))
theorem get_impl_WayUp : Go.Proofs.Try.prog.funcs[fid_impl_WayUp]? = some Go.Proofs.Try.f38 := Go.Proofs.Try.func38
theorem ok_impl_WayUp : okFn Go.Proofs.Try.prog Go.Proofs.Try.f38 15 [] [(4, none), (5, none)] mc_impl_WayUp = true := by kernel_rfl
def mc_laws_markRooted : MCode :=
 .seq
  (.reg [
     ⟨(some 2), none, .box 2 (.t 0)⟩,
     ⟨(some 4), none, .mov (.v (.i .i64 0))⟩] [0, 1, 2])
  (.seq
  (.reg [
     ⟨(some 5), none, .fieldAddr 0 (.t 2)⟩,
     ⟨(some 6), none, .load false 1 (.t 5)⟩,
     ⟨(some 7), none, .mov (.t 1)⟩,
     ⟨(some 8), none, .call fid_laws_markIntS false [.io, .im] [(.t 6), (.t 7)]⟩,
     ⟨(some 1), none, .mov (.t 8)⟩] [0, 1, 2])
  (.seq
  (.reg [
     ⟨(some 9), none, .fieldAddr 1 (.t 2)⟩,
     ⟨(some 10), none, .load false 1 (.t 9)⟩,
     ⟨(some 11), none, .mov (.t 1)⟩,
     ⟨(some 12), none, .call fid_laws_markIntS false [.io, .im] [(.t 10), (.t 11)]⟩,
     ⟨(some 1), none, .mov (.t 12)⟩] [0, 1])
  (.seq
  (.reg [
     ⟨(some 13), none, .mov (.t 1)⟩,
     ⟨(some 4), none, .mov (.t 13)⟩] [0, 4])
  (.ret))))
theorem get_laws_markRooted : Go.Proofs.Try.prog.funcs[fid_laws_markRooted]? = some Go.Proofs.Try.f39 := Go.Proofs.Try.func39
theorem ok_laws_markRooted : okFn Go.Proofs.Try.prog Go.Proofs.Try.f39 14 [0] [(4, none)] mc_laws_markRooted = true := by kernel_rfl
def mc_laws_heldIntS : MCode :=
 .seq
  (.reg [
     ⟨(some 4), none, .mov (.v (.i .i64 0))⟩] [0, 1])
  (.seq
  (.seq
   (.reg [
      ⟨(some 5), none, .mov (.v (.i .i64 0))⟩] [0, 1, 5])
   (.block 0
   (.loop [0, 1, 5]
    (.seq
     (.seq
      (.reg [
         ⟨(some 6), none, .mov (.t 5)⟩,
         ⟨(some 7), none, .mov (.t 0)⟩,
         ⟨(some 8), none, .len (.t 7)⟩,
         ⟨(some 9), none, .bin .lss (.t 6) (.t 8)⟩] [0, 1, 5, 9])
      (.cond (.t 9)
      (.skip)
      (.exit 0)))
     (.seq
     (.block 1
      (.seq
       (.seq
        (.reg [
           ⟨(some 12), none, .mov (.t 0)⟩,
           ⟨(some 13), none, .mov (.t 5)⟩,
           ⟨(some 14), none, .indexAddr 1 (.t 12) (.t 13)⟩,
           ⟨(some 15), none, .load false 1 (.t 14)⟩,
           ⟨(some 16), none, .mov (.t 1)⟩,
           ⟨(some 17), none, .bin .neq (.t 15) (.t 16)⟩] [0, 1, 5, 17])
        (.cond (.t 17)
        (.seq
         (.reg [
            ⟨(some 4), none, .mov (.v (.i .i64 (-1)))⟩] [4])
         (.ret))
        (.skip)))
       (.reg [
         ⟨(some 18), none, .mov (.t 1)⟩,
         ⟨(some 19), none, .bin .add (.t 18) (.v (.i .i64 1))⟩,
         ⟨(some 1), none, .mov (.t 19)⟩] [0, 1, 5])))
     (.reg [
       ⟨(some 10), none, .mov (.t 5)⟩,
       ⟨(some 11), none, .bin .add (.t 10) (.v (.i .i64 1))⟩,
       ⟨(some 5), none, .mov (.t 11)⟩] [0, 1, 5]))))))
  (.seq
  (.reg [
     ⟨(some 20), none, .mov (.t 1)⟩,
     ⟨(some 4), none, .mov (.t 20)⟩] [4])
  (.ret)))
theorem get_laws_heldIntS : Go.Proofs.Try.prog.funcs[fid_laws_heldIntS]? = some Go.Proofs.Try.f40 := Go.Proofs.Try.func40
theorem ok_laws_heldIntS : okFn Go.Proofs.Try.prog Go.Proofs.Try.f40 21 [] [(4, none)] mc_laws_heldIntS = true := by kernel_rfl
def mc_spec_DrawWayUp : MCode :=
 .seq
  (.reg [
     ⟨(some 2), none, .alloc [.nl 1, .nl 1]⟩,
     ⟨(some 3), none, .mov (.v (.i .i64 0))⟩] [0, 2])
  (.seq
  (.reg [
     ⟨(some 4), none, .mov (.t 0)⟩,
     ⟨(some 5), none, .call fid_spec_DrawRootOf false [.im] [(.t 4)]⟩,
     ⟨(some 6), none, .extract (.t 5) 0⟩,
     ⟨(some 7), none, .extract (.t 5) 1⟩,
     ⟨none, none, .store 2 (.t 2) (.t 6)⟩,
     ⟨(some 3), none, .mov (.t 7)⟩] [2, 3])
  (.ret))
theorem get_spec_DrawWayUp : Go.Proofs.Try.prog.funcs[fid_spec_DrawWayUp]? = some Go.Proofs.Try.f41 := Go.Proofs.Try.func41
theorem ok_spec_DrawWayUp : okFn Go.Proofs.Try.prog Go.Proofs.Try.f41 8 [] [(2, some (true, 2)), (3, none)] mc_spec_DrawWayUp = true := by kernel_rfl
def mc_laws_dyInts : MCode :=
 .seq
  (.reg [
     ⟨(some 4), none, .mov (.v (.b false))⟩] [0, 1])
  (.seq
  (.seq
   (.reg [
      ⟨(some 6), none, .mov (.t 0)⟩,
      ⟨(some 7), none, .len (.t 6)⟩,
      ⟨(some 8), none, .mov (.t 1)⟩,
      ⟨(some 9), none, .len (.t 8)⟩,
      ⟨(some 10), none, .bin .neq (.t 7) (.t 9)⟩] [0, 1, 10])
   (.cond (.t 10)
   (.seq
    (.reg [
       ⟨(some 4), none, .mov (.v (.b false))⟩] [4])
    (.ret))
   (.skip)))
  (.seq
  (.seq
   (.reg [
      ⟨(some 5), none, .mov (.v (.i .i64 0))⟩] [0, 1, 5])
   (.block 0
   (.loop [0, 1, 5]
    (.seq
     (.seq
      (.reg [
         ⟨(some 11), none, .mov (.t 5)⟩,
         ⟨(some 12), none, .mov (.t 0)⟩,
         ⟨(some 13), none, .len (.t 12)⟩,
         ⟨(some 14), none, .bin .lss (.t 11) (.t 13)⟩] [0, 1, 5, 14])
      (.cond (.t 14)
      (.skip)
      (.exit 0)))
     (.seq
     (.block 1
      (.seq
       (.draw [0, 0, 3, 7, 0, 0, 48, 112, 255] [
          ⟨(some 17), none, .mov (.t 0)⟩,
          ⟨(some 18), none, .mov (.t 5)⟩,
          ⟨(some 19), none, .indexAddr 1 (.t 17) (.t 18)⟩,
          ⟨(some 20), none, .load false 1 (.t 19)⟩,
          ⟨(some 21), none, .mov (.t 1)⟩,
          ⟨(some 22), none, .mov (.t 5)⟩,
          ⟨(some 23), none, .indexAddr 1 (.t 21) (.t 22)⟩,
          ⟨(some 24), none, .load false 1 (.t 23)⟩,
          ⟨(some 25), none, .bin .neq (.t 20) (.t 24)⟩] [0, 1, 5, 25])
       (.cond (.t 25)
       (.seq
        (.reg [
           ⟨(some 4), none, .mov (.v (.b false))⟩] [4])
        (.ret))
       (.skip))))
     (.reg [
       ⟨(some 15), none, .mov (.t 5)⟩,
       ⟨(some 16), none, .bin .add (.t 15) (.v (.i .i64 1))⟩,
       ⟨(some 5), none, .mov (.t 16)⟩] [0, 1, 5]))))))
  (.seq
  (.reg [
     ⟨(some 4), none, .mov (.v (.b true))⟩] [4])
  (.ret))))
theorem get_laws_dyInts : Go.Proofs.Try.prog.funcs[fid_laws_dyInts]? = some Go.Proofs.Try.f42 := Go.Proofs.Try.func42
theorem ok_laws_dyInts : okFn Go.Proofs.Try.prog Go.Proofs.Try.f42 26 [] [(4, none)] mc_laws_dyInts = true := by kernel_rfl
def mc_laws_dyIn : MCode :=
 .seq
  (.reg [
     ⟨(some 4), none, .mov (.v (.b false))⟩] [0, 1])
  (.seq
  (.seq
   (.reg [
      ⟨(some 5), none, .mov (.v (.i .i64 0))⟩] [0, 1, 5])
   (.block 0
   (.loop [0, 1, 5]
    (.seq
     (.seq
      (.reg [
         ⟨(some 6), none, .mov (.t 5)⟩,
         ⟨(some 7), none, .mov (.t 0)⟩,
         ⟨(some 8), none, .len (.t 7)⟩,
         ⟨(some 9), none, .bin .lss (.t 6) (.t 8)⟩] [0, 1, 5, 9])
      (.cond (.t 9)
      (.skip)
      (.exit 0)))
     (.seq
     (.block 1
      (.seq
       (.reg [
          ⟨(some 12), none, .mov (.t 0)⟩,
          ⟨(some 13), none, .mov (.t 5)⟩,
          ⟨(some 14), none, .indexAddr 1 (.t 12) (.t 13)⟩,
          ⟨(some 15), none, .load false 1 (.t 14)⟩,
          ⟨(some 16), none, .mov (.t 1)⟩,
          ⟨(some 17), none, .bin .eql (.t 15) (.t 16)⟩] [0, 1, 5, 17])
       (.cond (.t 17)
       (.seq
        (.reg [
           ⟨(some 4), none, .mov (.v (.b true))⟩] [4])
        (.ret))
       (.skip))))
     (.reg [
       ⟨(some 10), none, .mov (.t 5)⟩,
       ⟨(some 11), none, .bin .add (.t 10) (.v (.i .i64 1))⟩,
       ⟨(some 5), none, .mov (.t 11)⟩] [0, 1, 5]))))))
  (.seq
  (.reg [
     ⟨(some 4), none, .mov (.v (.b false))⟩] [4])
  (.ret)))
theorem get_laws_dyIn : Go.Proofs.Try.prog.funcs[fid_laws_dyIn]? = some Go.Proofs.Try.f43 := Go.Proofs.Try.func43
theorem ok_laws_dyIn : okFn Go.Proofs.Try.prog Go.Proofs.Try.f43 18 [] [(4, none)] mc_laws_dyIn = true := by kernel_rfl
def mc_spec_MeetOf : MCode :=
 .seq
  (.reg [
     ⟨(some 3), none, .box 2 (.t 0)⟩,
     ⟨(some 6), none, .mov (.v (.i .i64 0))⟩,
     ⟨(some 7), none, .mov (.v (.b false))⟩] [1, 2, 3])
  (.seq
  (.seq
   (.reg [
      ⟨(some 11), none, .load true 2 (.t 3)⟩,
      ⟨(some 12), none, .mov (.t 1)⟩,
      ⟨(some 13), none, .call fid_spec_l12Node false [.im, .im] [(.t 11), (.t 12)]⟩,
      ⟨(some 14), none, .un .not (.t 13)⟩,
      ⟨(some 15), none, .mov (.t 14)⟩,
      ⟨(some 16), (some (15, false)), .load true 2 (.t 3)⟩,
      ⟨(some 17), (some (15, false)), .mov (.t 2)⟩,
      ⟨(some 18), (some (15, false)), .call fid_spec_l12Node false [.im, .im] [(.t 16), (.t 17)]⟩,
      ⟨(some 19), (some (15, false)), .un .not (.t 18)⟩,
      ⟨(some 20), none, .pick (.t 15) (.v (.b true)) (.t 19)⟩] [1, 2, 3, 20])
   (.cond (.t 20)
   (.seq
    (.reg [
       ⟨(some 6), none, .mov (.v (.i .i64 0))⟩,
       ⟨(some 7), none, .mov (.v (.b false))⟩] [6, 7])
    (.ret))
   (.skip)))
  (.seq
  (.reg [
     ⟨(some 21), none, .load true 2 (.t 3)⟩,
     ⟨(some 22), none, .mov (.t 1)⟩,
     ⟨(some 23), none, .call fid_spec_l12Up false [.im, .im] [(.t 21), (.t 22)]⟩,
     ⟨(some 8), none, .mov (.t 23)⟩] [2, 3, 8])
  (.seq
  (.reg [
     ⟨(some 24), none, .load true 2 (.t 3)⟩,
     ⟨(some 25), none, .mov (.t 2)⟩,
     ⟨(some 26), none, .call fid_spec_l12Up false [.im, .im] [(.t 24), (.t 25)]⟩,
     ⟨(some 9), none, .mov (.t 26)⟩] [8, 9])
  (.seq
  (.seq
   (.reg [
      ⟨(some 10), none, .mov (.v (.i .i64 0))⟩] [8, 9, 10])
   (.block 0
   (.loop [8, 9, 10]
    (.seq
     (.seq
      (.reg [
         ⟨(some 27), none, .mov (.t 10)⟩,
         ⟨(some 28), none, .mov (.t 8)⟩,
         ⟨(some 29), none, .len (.t 28)⟩,
         ⟨(some 30), none, .bin .lss (.t 27) (.t 29)⟩] [8, 9, 10, 30])
      (.cond (.t 30)
      (.skip)
      (.exit 0)))
     (.seq
     (.block 1
      (.seq
       (.reg [
          ⟨(some 33), none, .mov (.t 9)⟩,
          ⟨(some 34), none, .mov (.t 8)⟩,
          ⟨(some 35), none, .mov (.t 10)⟩,
          ⟨(some 36), none, .indexAddr 1 (.t 34) (.t 35)⟩,
          ⟨(some 37), none, .load false 1 (.t 36)⟩,
          ⟨(some 38), none, .call fid_spec_l6In false [.im, .im] [(.t 33), (.t 37)]⟩] [8, 9, 10, 38])
       (.cond (.t 38)
       (.seq
        (.reg [
           ⟨(some 39), none, .mov (.t 8)⟩,
           ⟨(some 40), none, .mov (.t 10)⟩,
           ⟨(some 41), none, .indexAddr 1 (.t 39) (.t 40)⟩,
           ⟨(some 42), none, .load false 1 (.t 41)⟩,
           ⟨(some 6), none, .mov (.t 42)⟩,
           ⟨(some 7), none, .mov (.v (.b true))⟩] [6, 7])
        (.ret))
       (.skip))))
     (.reg [
       ⟨(some 31), none, .mov (.t 10)⟩,
       ⟨(some 32), none, .bin .add (.t 31) (.v (.i .i64 1))⟩,
       ⟨(some 10), none, .mov (.t 32)⟩] [8, 9, 10]))))))
  (.seq
  (.reg [
     ⟨(some 6), none, .mov (.v (.i .i64 0))⟩,
     ⟨(some 7), none, .mov (.v (.b false))⟩] [6, 7])
  (.ret))))))
theorem get_spec_MeetOf : Go.Proofs.Try.prog.funcs[fid_spec_MeetOf]? = some Go.Proofs.Try.f44 := Go.Proofs.Try.func44
theorem ok_spec_MeetOf : okFn Go.Proofs.Try.prog Go.Proofs.Try.f44 43 [] [(6, none), (7, none)] mc_spec_MeetOf = true := by kernel_rfl
def mc_impl_MeetOf : MCode :=
 .seq
  (.reg [
     ⟨(some 3), none, .box 2 (.t 0)⟩,
     ⟨(some 6), none, .mov (.v (.i .i64 0))⟩,
     ⟨(some 7), none, .mov (.v (.b false))⟩] [1, 2, 3])
  (.seq
  (.reg [
     ⟨(some 15), none, .load true 2 (.t 3)⟩,
     ⟨(some 16), none, .mov (.t 1)⟩,
     ⟨(some 17), none, .call fid_impl_WayUp false [.im, .im] [(.t 15), (.t 16)]⟩,
     ⟨(some 14), none, .mov (.t 17)⟩,
     ⟨(some 18), none, .extract (.t 14) 0⟩,
     ⟨(some 19), none, .extract (.t 14) 1⟩,
     ⟨(some 8), none, .mov (.t 18)⟩,
     ⟨(some 9), none, .mov (.t 19)⟩] [2, 3, 8, 9])
  (.seq
  (.reg [
     ⟨(some 21), none, .load true 2 (.t 3)⟩,
     ⟨(some 22), none, .mov (.t 2)⟩,
     ⟨(some 23), none, .call fid_impl_WayUp false [.im, .im] [(.t 21), (.t 22)]⟩,
     ⟨(some 20), none, .mov (.t 23)⟩,
     ⟨(some 24), none, .extract (.t 20) 0⟩,
     ⟨(some 25), none, .extract (.t 20) 1⟩,
     ⟨(some 10), none, .mov (.t 24)⟩,
     ⟨(some 11), none, .mov (.t 25)⟩] [8, 9, 10, 11])
  (.seq
  (.seq
   (.reg [
      ⟨(some 26), none, .mov (.t 9)⟩,
      ⟨(some 27), none, .un .not (.t 26)⟩,
      ⟨(some 28), none, .mov (.t 27)⟩,
      ⟨(some 29), (some (28, false)), .mov (.t 11)⟩,
      ⟨(some 30), (some (28, false)), .un .not (.t 29)⟩,
      ⟨(some 31), none, .pick (.t 28) (.v (.b true)) (.t 30)⟩] [8, 10, 31])
   (.cond (.t 31)
   (.seq
    (.reg [
       ⟨(some 6), none, .mov (.v (.i .i64 0))⟩,
       ⟨(some 7), none, .mov (.v (.b false))⟩] [6, 7])
    (.ret))
   (.skip)))
  (.seq
  (.seq
   (.reg [
      ⟨(some 32), none, .mov (.t 8)⟩,
      ⟨(some 33), none, .len (.t 32)⟩,
      ⟨(some 34), none, .mov (.v (.i .i64 0))⟩] [10, 32, 33, 34])
   (.block 0
   (.loop [10, 32, 33, 34]
    (.seq
     (.reg [
        ⟨(some 35), none, .bin .lss (.t 34) (.t 33)⟩] [10, 32, 33, 34, 35])
     (.seq
     (.cond (.t 35)
      (.skip)
      (.exit 0))
     (.seq
     (.block 1
      (.seq
       (.reg [
          ⟨(some 36), none, .indexAddr 1 (.t 32) (.t 34)⟩,
          ⟨(some 37), none, .load false 1 (.t 36)⟩,
          ⟨(some 13), none, .mov (.t 37)⟩] [10, 13, 32, 33, 34])
       (.seq
       (.reg [
          ⟨(some 38), none, .mov (.t 10)⟩,
          ⟨(some 39), none, .mov (.t 13)⟩,
          ⟨(some 40), none, .call fid_slices_Contains_int_int false [.im, .im] [(.t 38), (.t 39)]⟩] [10, 13, 32, 33, 34, 40])
       (.cond (.t 40)
       (.seq
        (.reg [
           ⟨(some 41), none, .mov (.t 13)⟩,
           ⟨(some 6), none, .mov (.t 41)⟩,
           ⟨(some 7), none, .mov (.v (.b true))⟩] [6, 7])
        (.ret))
       (.skip)))))
     (.reg [
       ⟨(some 42), none, .bin .add (.t 34) (.v (.i .i64 1))⟩,
       ⟨(some 34), none, .mov (.t 42)⟩] [10, 32, 33, 34])))))))
  (.seq
  (.reg [
     ⟨(some 6), none, .mov (.v (.i .i64 0))⟩,
     ⟨(some 7), none, .mov (.v (.b false))⟩] [6, 7])
  (.ret))))))
theorem get_impl_MeetOf : Go.Proofs.Try.prog.funcs[fid_impl_MeetOf]? = some Go.Proofs.Try.f45 := Go.Proofs.Try.func45
theorem ok_impl_MeetOf : okFn Go.Proofs.Try.prog Go.Proofs.Try.f45 43 [] [(6, none), (7, none)] mc_impl_MeetOf = true := by kernel_rfl
def mc_spec_CutParent : MCode :=
 .seq
  (.reg [
     ⟨(some 2), none, .box 2 (.t 0)⟩,
     ⟨(some 4), none, .alloc [.nl 1, .nl 1]⟩,
     ⟨(some 5), none, .mov (.v (.b false))⟩] [1, 2, 4])
  (.seq
  (.seq
   (.reg [
      ⟨(some 7), none, .load true 2 (.t 2)⟩,
      ⟨(some 8), none, .mov (.t 1)⟩,
      ⟨(some 9), none, .call fid_spec_l12Node false [.im, .im] [(.t 7), (.t 8)]⟩,
      ⟨(some 10), none, .un .not (.t 9)⟩,
      ⟨(some 11), none, .mov (.t 10)⟩,
      ⟨(some 12), (some (11, false)), .fieldAddr 0 (.t 2)⟩,
      ⟨(some 13), (some (11, false)), .load false 1 (.t 12)⟩,
      ⟨(some 14), (some (11, false)), .mov (.t 1)⟩,
      ⟨(some 15), (some (11, false)), .indexAddr 1 (.t 13) (.t 14)⟩,
      ⟨(some 16), (some (11, false)), .load false 1 (.t 15)⟩,
      ⟨(some 17), (some (11, false)), .bin .lss (.t 16) (.v (.i .i64 0))⟩,
      ⟨(some 18), none, .pick (.t 11) (.v (.b true)) (.t 17)⟩] [1, 2, 4, 18])
   (.cond (.t 18)
   (.seq
    (.reg [
       ⟨(some 19), none, .build [.nl 1, .nl 1] []⟩,
       ⟨none, none, .store 2 (.t 4) (.t 19)⟩,
       ⟨(some 5), none, .mov (.v (.b false))⟩] [4, 5])
    (.ret))
   (.skip)))
  (.seq
  (.reg [
     ⟨(some 20), none, .load true 2 (.t 2)⟩,
     ⟨(some 21), none, .call fid_spec_l12Copy false [.im] [(.t 20)]⟩,
     ⟨(some 6), none, .alloc [.nl 1, .nl 1]⟩,
     ⟨none, none, .store 2 (.t 6) (.t 21)⟩] [1, 4, 6])
  (.seq
  (.reg [
     ⟨(some 22), none, .fieldAddr 0 (.t 6)⟩,
     ⟨(some 23), none, .load false 1 (.t 22)⟩,
     ⟨(some 24), none, .mov (.t 1)⟩,
     ⟨(some 25), none, .indexAddr 1 (.t 23) (.t 24)⟩,
     ⟨none, none, .store 1 (.t 25) (.v (.i .i64 (-1)))⟩] [1, 4, 6])
  (.seq
  (.reg [
     ⟨(some 26), none, .fieldAddr 1 (.t 6)⟩,
     ⟨(some 27), none, .load false 1 (.t 26)⟩,
     ⟨(some 28), none, .mov (.t 1)⟩,
     ⟨(some 29), none, .indexAddr 1 (.t 27) (.t 28)⟩,
     ⟨none, none, .store 1 (.t 29) (.v (.i .i64 0))⟩] [4, 6])
  (.seq
  (.reg [
     ⟨(some 30), none, .load true 2 (.t 6)⟩,
     ⟨none, none, .store 2 (.t 4) (.t 30)⟩,
     ⟨(some 5), none, .mov (.v (.b true))⟩] [4, 5])
  (.ret))))))
theorem get_spec_CutParent : Go.Proofs.Try.prog.funcs[fid_spec_CutParent]? = some Go.Proofs.Try.f46 := Go.Proofs.Try.func46
theorem ok_spec_CutParent : okFn Go.Proofs.Try.prog Go.Proofs.Try.f46 31 [] [(4, some (true, 2)), (5, none)] mc_spec_CutParent = true := by kernel_rfl
def mc_impl_CutParent : MCode :=
 .seq
  (.reg [
     ⟨(some 2), none, .box 2 (.t 0)⟩,
     ⟨(some 4), none, .alloc [.nl 1, .nl 1]⟩,
     ⟨(some 5), none, .mov (.v (.b false))⟩] [1, 2, 4])
  (.seq
  (.seq
   (.reg [
      ⟨(some 6), none, .load true 2 (.t 2)⟩,
      ⟨(some 7), none, .mov (.t 1)⟩,
      ⟨(some 8), none, .call fid_impl_Rooted_hasNode false [.im, .im] [(.t 6), (.t 7)]⟩,
      ⟨(some 9), none, .un .not (.t 8)⟩,
      ⟨(some 10), none, .mov (.t 9)⟩,
      ⟨(some 11), (some (10, false)), .fieldAddr 0 (.t 2)⟩,
      ⟨(some 12), (some (10, false)), .load false 1 (.t 11)⟩,
      ⟨(some 13), (some (10, false)), .mov (.t 1)⟩,
      ⟨(some 14), (some (10, false)), .indexAddr 1 (.t 12) (.t 13)⟩,
      ⟨(some 15), (some (10, false)), .load false 1 (.t 14)⟩,
      ⟨(some 16), (some (10, false)), .bin .eql (.t 15) (.v (.i .i64 (-1)))⟩,
      ⟨(some 17), none, .pick (.t 10) (.v (.b true)) (.t 16)⟩] [1, 2, 4, 17])
   (.cond (.t 17)
   (.seq
    (.reg [
       ⟨(some 18), none, .build [.nl 1, .nl 1] []⟩,
       ⟨none, none, .store 2 (.t 4) (.t 18)⟩,
       ⟨(some 5), none, .mov (.v (.b false))⟩] [4, 5])
    (.ret))
   (.skip)))
  (.seq
  (.reg [
     ⟨(some 19), none, .load true 2 (.t 2)⟩,
     ⟨(some 20), none, .mov (.t 1)⟩,
     ⟨(some 21), none, .call fid_impl_Rooted_with false [.im, .im, .im, .im] [(.t 19), (.t 20), (.v (.i .i64 (-1))), (.v (.i .i64 0))]⟩,
     ⟨none, none, .store 2 (.t 4) (.t 21)⟩,
     ⟨(some 5), none, .mov (.v (.b true))⟩] [4, 5])
  (.ret)))
theorem get_impl_CutParent : Go.Proofs.Try.prog.funcs[fid_impl_CutParent]? = some Go.Proofs.Try.f47 := Go.Proofs.Try.func47
theorem ok_impl_CutParent : okFn Go.Proofs.Try.prog Go.Proofs.Try.f47 22 [] [(4, some (true, 2)), (5, none)] mc_impl_CutParent = true := by kernel_rfl
def mc_laws_heldRooted : MCode :=
 .seq
  (.reg [
     ⟨(some 2), none, .box 2 (.t 0)⟩,
     ⟨(some 4), none, .mov (.v (.i .i64 0))⟩] [1, 2])
  (.seq
  (.reg [
     ⟨(some 5), none, .fieldAddr 0 (.t 2)⟩,
     ⟨(some 6), none, .load false 1 (.t 5)⟩,
     ⟨(some 7), none, .mov (.t 1)⟩,
     ⟨(some 8), none, .call fid_laws_heldIntS false [.im, .im] [(.t 6), (.t 7)]⟩,
     ⟨(some 1), none, .mov (.t 8)⟩] [1, 2])
  (.seq
  (.seq
   (.reg [
      ⟨(some 9), none, .mov (.t 1)⟩,
      ⟨(some 10), none, .bin .lss (.t 9) (.v (.i .i64 0))⟩] [1, 2, 10])
   (.cond (.t 10)
   (.seq
    (.reg [
       ⟨(some 4), none, .mov (.v (.i .i64 (-1)))⟩] [4])
    (.ret))
   (.skip)))
  (.seq
  (.reg [
     ⟨(some 11), none, .fieldAddr 1 (.t 2)⟩,
     ⟨(some 12), none, .load false 1 (.t 11)⟩,
     ⟨(some 13), none, .mov (.t 1)⟩,
     ⟨(some 14), none, .call fid_laws_heldIntS false [.im, .im] [(.t 12), (.t 13)]⟩,
     ⟨(some 1), none, .mov (.t 14)⟩] [1])
  (.seq
  (.seq
   (.reg [
      ⟨(some 15), none, .mov (.t 1)⟩,
      ⟨(some 16), none, .bin .lss (.t 15) (.v (.i .i64 0))⟩] [1, 16])
   (.cond (.t 16)
   (.seq
    (.reg [
       ⟨(some 4), none, .mov (.v (.i .i64 (-1)))⟩] [4])
    (.ret))
   (.skip)))
  (.seq
  (.reg [
     ⟨(some 17), none, .mov (.t 1)⟩,
     ⟨(some 4), none, .mov (.t 17)⟩] [4])
  (.ret))))))
theorem get_laws_heldRooted : Go.Proofs.Try.prog.funcs[fid_laws_heldRooted]? = some Go.Proofs.Try.f48 := Go.Proofs.Try.func48
theorem ok_laws_heldRooted : okFn Go.Proofs.Try.prog Go.Proofs.Try.f48 18 [] [(4, none)] mc_laws_heldRooted = true := by kernel_rfl
def mc_laws_szGraph : MCode :=
 .seq
  (.reg [
     ⟨(some 2), none, .box 2 (.t 0)⟩,
     ⟨(some 4), none, .mov (.v (.i .i64 0))⟩] [1, 2])
  (.seq
  (.reg [
     ⟨(some 5), none, .fieldAddr 1 (.t 2)⟩,
     ⟨(some 6), none, .load false 1 (.t 5)⟩,
     ⟨(some 7), none, .mov (.t 1)⟩,
     ⟨(some 8), none, .call fid_laws_szEdgeS false [.im, .im] [(.t 6), (.t 7)]⟩,
     ⟨(some 1), none, .mov (.t 8)⟩] [1])
  (.seq
  (.seq
   (.reg [
      ⟨(some 9), none, .mov (.t 1)⟩,
      ⟨(some 10), none, .bin .lss (.t 9) (.v (.i .i64 0))⟩] [1, 10])
   (.cond (.t 10)
   (.seq
    (.reg [
       ⟨(some 4), none, .mov (.v (.i .i64 (-1)))⟩] [4])
    (.ret))
   (.skip)))
  (.seq
  (.reg [
     ⟨(some 11), none, .mov (.t 1)⟩,
     ⟨(some 4), none, .mov (.t 11)⟩] [4])
  (.ret))))
theorem get_laws_szGraph : Go.Proofs.Try.prog.funcs[fid_laws_szGraph]? = some Go.Proofs.Try.f49 := Go.Proofs.Try.func49
theorem ok_laws_szGraph : okFn Go.Proofs.Try.prog Go.Proofs.Try.f49 12 [] [(4, none)] mc_laws_szGraph = true := by kernel_rfl
def mc_spec_Connected : MCode :=
 .seq
  (.reg [
     ⟨(some 3), none, .box 2 (.t 0)⟩,
     ⟨(some 6), none, .mov (.v (.b false))⟩] [1, 2, 3])
  (.seq
  (.reg [
     ⟨(some 7), none, .load true 2 (.t 3)⟩,
     ⟨(some 8), none, .mov (.t 1)⟩,
     ⟨(some 9), none, .call fid_spec_l2Node false [.im, .im] [(.t 7), (.t 8)]⟩,
     ⟨(some 10), none, .mov (.t 9)⟩,
     ⟨(some 11), (some (10, true)), .load true 2 (.t 3)⟩,
     ⟨(some 12), (some (10, true)), .mov (.t 2)⟩,
     ⟨(some 13), (some (10, true)), .call fid_spec_l2Node false [.im, .im] [(.t 11), (.t 12)]⟩,
     ⟨(some 14), none, .pick (.t 10) (.t 13) (.v (.b false))⟩,
     ⟨(some 15), none, .mov (.t 14)⟩,
     ⟨(some 16), (some (15, true)), .load true 2 (.t 3)⟩,
     ⟨(some 17), (some (15, true)), .mov (.t 1)⟩,
     ⟨(some 18), (some (15, true)), .mov (.t 2)⟩,
     ⟨(some 19), (some (15, true)), .call fid_spec_l2Joined false [.im, .im, .im] [(.t 16), (.t 17), (.t 18)]⟩,
     ⟨(some 20), none, .pick (.t 15) (.t 19) (.v (.b false))⟩,
     ⟨(some 6), none, .mov (.t 20)⟩] [6])
  (.ret))
theorem get_spec_Connected : Go.Proofs.Try.prog.funcs[fid_spec_Connected]? = some Go.Proofs.Try.f50 := Go.Proofs.Try.func50
theorem ok_spec_Connected : okFn Go.Proofs.Try.prog Go.Proofs.Try.f50 21 [] [(6, none)] mc_spec_Connected = true := by kernel_rfl
def mc_laws_toGraph : MCode :=
 .seq
  (.reg [
     ⟨(some 1), none, .box 2 (.t 0)⟩,
     ⟨(some 2), none, .alloc [.i .i64 0, .nl 2]⟩] [1, 2])
  (.seq
  (.reg [
     ⟨(some 3), none, .alloc [.i .i64 0, .nl 2]⟩] [1, 2, 3])
  (.seq
  (.reg [
     ⟨(some 4), none, .fieldAddr 0 (.t 1)⟩,
     ⟨(some 5), none, .load false 1 (.t 4)⟩,
     ⟨(some 6), none, .fieldAddr 0 (.t 3)⟩,
     ⟨none, none, .store 1 (.t 6) (.t 5)⟩] [1, 2, 3])
  (.seq
  (.reg [
     ⟨(some 7), none, .fieldAddr 1 (.t 1)⟩,
     ⟨(some 8), none, .load false 1 (.t 7)⟩,
     ⟨(some 9), none, .call fid_laws_toEdgeS false [.im] [(.t 8)]⟩,
     ⟨(some 10), none, .fieldAddr 1 (.t 3)⟩,
     ⟨none, none, .store 1 (.t 10) (.t 9)⟩] [2, 3])
  (.seq
  (.reg [
     ⟨(some 11), none, .load true 2 (.t 3)⟩,
     ⟨none, none, .store 2 (.t 2) (.t 11)⟩] [2])
  (.ret)))))
theorem get_laws_toGraph : Go.Proofs.Try.prog.funcs[fid_laws_toGraph]? = some Go.Proofs.Try.f51 := Go.Proofs.Try.func51
theorem ok_laws_toGraph : okFn Go.Proofs.Try.prog Go.Proofs.Try.f51 12 [] [(2, some (true, 2))] mc_laws_toGraph = true := by kernel_rfl
def mc_impl_Connected : MCode :=
 .seq
  (.reg [
     ⟨(some 3), none, .box 2 (.t 0)⟩,
     ⟨(some 6), none, .mov (.v (.b false))⟩] [1, 2, 3])
  (.seq
  (.reg [
     ⟨(some 7), none, .load true 2 (.t 3)⟩,
     ⟨(some 8), none, .mov (.t 1)⟩,
     ⟨(some 9), none, .call fid_impl_Graph_hasNode false [.im, .im] [(.t 7), (.t 8)]⟩,
     ⟨(some 10), none, .mov (.t 9)⟩,
     ⟨(some 11), (some (10, true)), .load true 2 (.t 3)⟩,
     ⟨(some 12), (some (10, true)), .mov (.t 2)⟩,
     ⟨(some 13), (some (10, true)), .call fid_impl_Graph_hasNode false [.im, .im] [(.t 11), (.t 12)]⟩,
     ⟨(some 14), none, .pick (.t 10) (.t 13) (.v (.b false))⟩,
     ⟨(some 15), none, .mov (.t 14)⟩,
     ⟨(some 16), (some (15, true)), .load true 2 (.t 3)⟩,
     ⟨(some 17), (some (15, true)), .mov (.t 1)⟩,
     ⟨(some 18), (some (15, true)), .mov (.t 2)⟩,
     ⟨(some 19), (some (15, true)), .call fid_impl_Graph_connected false [.im, .im, .im] [(.t 16), (.t 17), (.t 18)]⟩,
     ⟨(some 20), none, .pick (.t 15) (.t 19) (.v (.b false))⟩,
     ⟨(some 6), none, .mov (.t 20)⟩] [6])
  (.ret))
theorem get_impl_Connected : Go.Proofs.Try.prog.funcs[fid_impl_Connected]? = some Go.Proofs.Try.f52 := Go.Proofs.Try.func52
theorem ok_impl_Connected : okFn Go.Proofs.Try.prog Go.Proofs.Try.f52 21 [] [(6, none)] mc_impl_Connected = true := by kernel_rfl
def mc_laws_eqGraph : MCode :=
 .seq
  (.reg [
     ⟨(some 2), none, .box 2 (.t 0)⟩,
     ⟨(some 3), none, .box 2 (.t 1)⟩,
     ⟨(some 4), none, .mov (.v (.b false))⟩] [2, 3])
  (.seq
  (.seq
   (.reg [
      ⟨(some 5), none, .fieldAddr 0 (.t 2)⟩,
      ⟨(some 6), none, .load false 1 (.t 5)⟩,
      ⟨(some 7), none, .fieldAddr 0 (.t 3)⟩,
      ⟨(some 8), none, .load false 1 (.t 7)⟩,
      ⟨(some 9), none, .bin .neq (.t 6) (.t 8)⟩] [2, 3, 9])
   (.cond (.t 9)
   (.seq
    (.reg [
       ⟨(some 4), none, .mov (.v (.b false))⟩] [4])
    (.ret))
   (.skip)))
  (.seq
  (.seq
   (.reg [
      ⟨(some 10), none, .fieldAddr 1 (.t 2)⟩,
      ⟨(some 11), none, .load false 1 (.t 10)⟩,
      ⟨(some 12), none, .fieldAddr 1 (.t 3)⟩,
      ⟨(some 13), none, .load false 1 (.t 12)⟩,
      ⟨(some 14), none, .call fid_laws_eqEdgeS false [.im, .im] [(.t 11), (.t 13)]⟩,
      ⟨(some 15), none, .un .not (.t 14)⟩] [15])
   (.cond (.t 15)
   (.seq
    (.reg [
       ⟨(some 4), none, .mov (.v (.b false))⟩] [4])
    (.ret))
   (.skip)))
  (.seq
  (.reg [
     ⟨(some 4), none, .mov (.v (.b true))⟩] [4])
  (.ret))))
theorem get_laws_eqGraph : Go.Proofs.Try.prog.funcs[fid_laws_eqGraph]? = some Go.Proofs.Try.f53 := Go.Proofs.Try.func53
theorem ok_laws_eqGraph : okFn Go.Proofs.Try.prog Go.Proofs.Try.f53 16 [] [(4, none)] mc_laws_eqGraph = true := by kernel_rfl
def mc_spec_DrawMeetOf : MCode :=
 .seq
  (.reg [
     ⟨(some 2), none, .alloc [.nl 1, .nl 1]⟩,
     ⟨(some 3), none, .mov (.v (.i .i64 0))⟩,
     ⟨(some 4), none, .mov (.v (.i .i64 0))⟩] [0, 2])
  (.seq
  (.reg [
     ⟨(some 5), none, .mov (.t 0)⟩,
     ⟨(some 6), none, .call fid_spec_l12Two false [.im] [(.t 5)]⟩,
     ⟨(some 7), none, .extract (.t 6) 0⟩,
     ⟨(some 8), none, .extract (.t 6) 1⟩,
     ⟨(some 9), none, .extract (.t 6) 2⟩,
     ⟨none, none, .store 2 (.t 2) (.t 7)⟩,
     ⟨(some 3), none, .mov (.t 8)⟩,
     ⟨(some 4), none, .mov (.t 9)⟩] [2, 3, 4])
  (.ret))
theorem get_spec_DrawMeetOf : Go.Proofs.Try.prog.funcs[fid_spec_DrawMeetOf]? = some Go.Proofs.Try.f54 := Go.Proofs.Try.func54
theorem ok_spec_DrawMeetOf : okFn Go.Proofs.Try.prog Go.Proofs.Try.f54 10 [] [(2, some (true, 2)), (3, none), (4, none)] mc_spec_DrawMeetOf = true := by kernel_rfl
def mc_spec_l14Open : MCode :=
 .seq
  (.reg [
     ⟨(some 2), none, .mov (.v (.u))⟩] [0])
  (.seq
  (.seq
   (.reg [
      ⟨(some 3), none, .mov (.t 0)⟩,
      ⟨(some 4), none, .len (.t 3)⟩,
      ⟨(some 5), none, .bin .gtr (.t 4) (.v (.i .i64 2000))⟩] [0, 5])
   (.cond (.t 5)
   (.reg [
      ⟨(some 6), none, .mov (.t 0)⟩,
      ⟨(some 7), none, .slice 1 (.t 6) none (some (.v (.i .i64 2000)))⟩,
      ⟨(some 0), none, .mov (.t 7)⟩] [0])
   (.skip)))
  (.seq
  (.reg [
     ⟨(some 8), none, .mov (.t 0)⟩,
     ⟨(some 9), none, .build [.nl 1, .i .i64 0] [(0, 1, (.t 8))]⟩,
     ⟨(some 10), none, .box 2 (.t 9)⟩,
     ⟨(some 2), none, .mov (.t 10)⟩] [2])
  (.ret)))
theorem get_spec_l14Open : Go.Proofs.Try.prog.funcs[fid_spec_l14Open]? = some Go.Proofs.Try.f55 := Go.Proofs.Try.func55
theorem ok_spec_l14Open : okFn Go.Proofs.Try.prog Go.Proofs.Try.f55 11 [] [(2, none)] mc_spec_l14Open = true := by kernel_rfl
def mc_p_spec_l14Rd_num : MCode :=
 .seq
  (.reg [
     ⟨(some 4), none, .mov (.v (.i .i64 0))⟩] [0, 1])
  (.seq
  (.reg [
     ⟨(some 5), none, .mov (.t 1)⟩,
     ⟨(some 6), none, .mov (.t 0)⟩,
     ⟨(some 7), none, .mov (.t 1)⟩,
     ⟨(some 8), none, .len (.t 7)⟩,
     ⟨(some 9), none, .call fid_p_spec_l14Rd_pick false [.io, .im] [(.t 6), (.t 8)]⟩,
     ⟨(some 10), none, .indexAddr 1 (.t 5) (.t 9)⟩,
     ⟨(some 11), none, .load false 1 (.t 10)⟩,
     ⟨(some 4), none, .mov (.t 11)⟩] [0, 4])
  (.ret))
theorem get_p_spec_l14Rd_num : Go.Proofs.Try.prog.funcs[fid_p_spec_l14Rd_num]? = some Go.Proofs.Try.f56 := Go.Proofs.Try.func56
theorem ok_p_spec_l14Rd_num : okFn Go.Proofs.Try.prog Go.Proofs.Try.f56 12 [0] [(4, none)] mc_p_spec_l14Rd_num = true := by kernel_rfl
def mc_impl_spans : MCode :=
 .seq
  (.reg [
     ⟨(some 8), none, .mov (.v (.nl 4))⟩] [0, 1, 2, 3])
  (.seq
  (.block 0
   (.seq
    (.reg [
       ⟨(some 11), none, .mov (.t 2)⟩,
       ⟨(some 12), none, .mov (.t 0)⟩,
       ⟨(some 13), none, .bin .leq (.t 11) (.t 12)⟩,
       ⟨(some 14), none, .mov (.t 13)⟩,
       ⟨(some 15), (some (14, true)), .mov (.t 1)⟩,
       ⟨(some 16), (some (14, true)), .mov (.t 3)⟩,
       ⟨(some 17), (some (14, true)), .bin .leq (.t 15) (.t 16)⟩,
       ⟨(some 18), none, .pick (.t 14) (.t 17) (.v (.b false))⟩,
       ⟨(some 10), none, .mov (.t 18)⟩] [0, 1, 2, 3, 10])
    (.cond (.t 10)
    (.seq
     (.reg [
        ⟨(some 19), none, .mov (.t 0)⟩,
        ⟨(some 20), none, .mov (.t 1)⟩,
        ⟨(some 21), none, .build [.i .i64 0, .i .i64 0, .i .i64 0, .i .i64 0] [(2, 1, (.t 19)), (3, 1, (.t 20))]⟩,
        ⟨(some 22), none, .buildSlice 4 [(.t 21)]⟩,
        ⟨(some 8), none, .mov (.t 22)⟩] [8])
     (.ret))
    (.seq
     (.reg [
        ⟨(some 24), none, .mov (.t 1)⟩,
        ⟨(some 25), none, .mov (.t 2)⟩,
        ⟨(some 26), none, .bin .leq (.t 24) (.t 25)⟩,
        ⟨(some 27), none, .mov (.t 26)⟩,
        ⟨(some 28), (some (27, false)), .mov (.t 3)⟩,
        ⟨(some 29), (some (27, false)), .mov (.t 0)⟩,
        ⟨(some 30), (some (27, false)), .bin .leq (.t 28) (.t 29)⟩,
        ⟨(some 31), none, .pick (.t 27) (.v (.b true)) (.t 30)⟩,
        ⟨(some 23), none, .mov (.t 31)⟩] [0, 1, 2, 3, 23])
     (.cond (.t 23)
     (.seq
      (.reg [
         ⟨(some 8), none, .mov (.v (.nl 4))⟩] [8])
      (.ret))
     (.skip))))))
  (.seq
  (.reg [
     ⟨(some 32), none, .mov (.t 0)⟩,
     ⟨(some 33), none, .mov (.t 1)⟩,
     ⟨(some 34), none, .bin .add (.t 32) (.t 33)⟩,
     ⟨(some 35), none, .bin .quo (.t 34) (.v (.i .i64 2))⟩,
     ⟨(some 9), none, .mov (.t 35)⟩] [0, 1, 2, 3, 9])
  (.seq
  (.reg [
     ⟨(some 36), none, .mov (.t 0)⟩,
     ⟨(some 37), none, .mov (.t 9)⟩,
     ⟨(some 38), none, .mov (.t 2)⟩,
     ⟨(some 39), none, .mov (.t 3)⟩,
     ⟨(some 40), none, .call fid_impl_spans false [.im, .im, .im, .im] [(.t 36), (.t 37), (.t 38), (.t 39)]⟩,
     ⟨(some 41), none, .mov (.t 9)⟩,
     ⟨(some 42), none, .mov (.t 1)⟩,
     ⟨(some 43), none, .mov (.t 2)⟩,
     ⟨(some 44), none, .mov (.t 3)⟩,
     ⟨(some 45), none, .call fid_impl_spans false [.im, .im, .im, .im] [(.t 41), (.t 42), (.t 43), (.t 44)]⟩,
     ⟨(some 46), none, .append 4 32 false (.t 40) (.t 45)⟩,
     ⟨(some 8), none, .mov (.t 46)⟩] [8])
  (.ret))))
theorem get_impl_spans : Go.Proofs.Try.prog.funcs[fid_impl_spans]? = some Go.Proofs.Try.f57 := Go.Proofs.Try.func57
theorem ok_impl_spans : okFn Go.Proofs.Try.prog Go.Proofs.Try.f57 47 [] [(8, none)] mc_impl_spans = true := by kernel_rfl
def mc_spec_l8Spans : MCode :=
 .seq
  (.reg [
     ⟨(some 10), none, .mov (.v (.nl 4))⟩] [0, 1, 2, 3, 4])
  (.seq
  (.seq
   (.reg [
      ⟨(some 12), none, .mov (.t 2)⟩,
      ⟨(some 13), none, .mov (.t 1)⟩,
      ⟨(some 14), none, .bin .geq (.t 12) (.t 13)⟩,
      ⟨(some 15), none, .mov (.t 14)⟩,
      ⟨(some 16), (some (15, false)), .mov (.t 3)⟩,
      ⟨(some 17), (some (15, false)), .mov (.t 0)⟩,
      ⟨(some 18), (some (15, false)), .bin .leq (.t 16) (.t 17)⟩,
      ⟨(some 19), none, .pick (.t 15) (.v (.b true)) (.t 18)⟩,
      ⟨(some 20), none, .mov (.t 19)⟩,
      ⟨(some 21), (some (20, false)), .mov (.t 2)⟩,
      ⟨(some 22), (some (20, false)), .mov (.t 3)⟩,
      ⟨(some 23), (some (20, false)), .bin .geq (.t 21) (.t 22)⟩,
      ⟨(some 24), none, .pick (.t 20) (.v (.b true)) (.t 23)⟩] [0, 1, 2, 3, 4, 24])
   (.cond (.t 24)
   (.seq
    (.reg [
       ⟨(some 25), none, .mov (.t 4)⟩,
       ⟨(some 10), none, .mov (.t 25)⟩] [10])
    (.ret))
   (.skip)))
  (.seq
  (.seq
   (.reg [
      ⟨(some 26), none, .mov (.t 2)⟩,
      ⟨(some 27), none, .mov (.t 0)⟩,
      ⟨(some 28), none, .bin .leq (.t 26) (.t 27)⟩,
      ⟨(some 29), none, .mov (.t 28)⟩,
      ⟨(some 30), (some (29, true)), .mov (.t 3)⟩,
      ⟨(some 31), (some (29, true)), .mov (.t 1)⟩,
      ⟨(some 32), (some (29, true)), .bin .geq (.t 30) (.t 31)⟩,
      ⟨(some 33), none, .pick (.t 29) (.t 32) (.v (.b false))⟩] [0, 1, 2, 3, 4, 33])
   (.cond (.t 33)
   (.seq
    (.reg [
       ⟨(some 34), none, .mov (.t 4)⟩,
       ⟨(some 35), none, .mov (.t 0)⟩,
       ⟨(some 36), none, .mov (.t 1)⟩,
       ⟨(some 37), none, .build [.i .i64 0, .i .i64 0, .i .i64 0, .i .i64 0] [(2, 1, (.t 35)), (3, 1, (.t 36))]⟩,
       ⟨(some 38), none, .buildSlice 4 [(.t 37)]⟩,
       ⟨(some 39), none, .append 4 32 true (.t 34) (.t 38)⟩,
       ⟨(some 10), none, .mov (.t 39)⟩] [10])
    (.ret))
   (.skip)))
  (.seq
  (.reg [
     ⟨(some 40), none, .mov (.t 0)⟩,
     ⟨(some 41), none, .mov (.t 1)⟩,
     ⟨(some 42), none, .bin .add (.t 40) (.t 41)⟩,
     ⟨(some 43), none, .bin .quo (.t 42) (.v (.i .i64 2))⟩,
     ⟨(some 11), none, .mov (.t 43)⟩] [0, 1, 2, 3, 4, 11])
  (.seq
  (.reg [
     ⟨(some 44), none, .mov (.t 11)⟩,
     ⟨(some 45), none, .mov (.t 1)⟩,
     ⟨(some 46), none, .mov (.t 2)⟩,
     ⟨(some 47), none, .mov (.t 3)⟩,
     ⟨(some 48), none, .mov (.t 0)⟩,
     ⟨(some 49), none, .mov (.t 11)⟩,
     ⟨(some 50), none, .mov (.t 2)⟩,
     ⟨(some 51), none, .mov (.t 3)⟩,
     ⟨(some 52), none, .mov (.t 4)⟩,
     ⟨(some 53), none, .call fid_spec_l8Spans false [.im, .im, .im, .im, .co] [(.t 48), (.t 49), (.t 50), (.t 51), (.t 52)]⟩,
     ⟨(some 54), none, .call fid_spec_l8Spans false [.im, .im, .im, .im, .co] [(.t 44), (.t 45), (.t 46), (.t 47), (.t 53)]⟩,
     ⟨(some 10), none, .mov (.t 54)⟩] [10])
  (.ret)))))
theorem get_spec_l8Spans : Go.Proofs.Try.prog.funcs[fid_spec_l8Spans]? = some Go.Proofs.Try.f58 := Go.Proofs.Try.func58
theorem ok_spec_l8Spans : okFn Go.Proofs.Try.prog Go.Proofs.Try.f58 55 [] [(10, none)] mc_spec_l8Spans = true := by kernel_rfl
def mc_laws_szIntS : MCode :=
 .seq
  (.reg [
     ⟨(some 4), none, .mov (.v (.i .i64 0))⟩] [0, 1])
  (.seq
  (.reg [
     ⟨(some 5), none, .mov (.t 1)⟩,
     ⟨(some 6), none, .mov (.t 0)⟩,
     ⟨(some 7), none, .len (.t 6)⟩,
     ⟨(some 8), none, .bin .sub (.t 5) (.t 7)⟩,
     ⟨(some 1), none, .mov (.t 8)⟩] [1])
  (.seq
  (.seq
   (.reg [
      ⟨(some 9), none, .mov (.t 1)⟩,
      ⟨(some 10), none, .bin .lss (.t 9) (.v (.i .i64 0))⟩] [1, 10])
   (.cond (.t 10)
   (.seq
    (.reg [
       ⟨(some 4), none, .mov (.v (.i .i64 (-1)))⟩] [4])
    (.ret))
   (.skip)))
  (.seq
  (.reg [
     ⟨(some 11), none, .mov (.t 1)⟩,
     ⟨(some 4), none, .mov (.t 11)⟩] [4])
  (.ret))))
theorem get_laws_szIntS : Go.Proofs.Try.prog.funcs[fid_laws_szIntS]? = some Go.Proofs.Try.f59 := Go.Proofs.Try.func59
theorem ok_laws_szIntS : okFn Go.Proofs.Try.prog Go.Proofs.Try.f59 12 [] [(4, none)] mc_laws_szIntS = true := by kernel_rfl
def mc_impl_Rooted_wayUp : MCode :=
 .seq
  (.reg [
     ⟨(some 2), none, .box 2 (.t 0)⟩,
     ⟨(some 4), none, .mov (.v (.nl 1))⟩,
     ⟨(some 5), none, .mov (.v (.b false))⟩] [1, 2])
  (.seq
  (.reg [
     ⟨(some 7), none, .buildSlice 1 []⟩,
     ⟨(some 6), none, .mov (.t 7)⟩] [1, 2, 6])
  (.seq
  (.block 0
   (.loop [1, 2, 6]
    (.seq
     (.seq
      (.reg [
         ⟨(some 8), none, .mov (.t 1)⟩,
         ⟨(some 9), none, .bin .neq (.t 8) (.v (.i .i64 (-1)))⟩] [1, 2, 6, 9])
      (.cond (.t 9)
      (.skip)
      (.exit 0)))
     (.block 1
     (.seq
      (.seq
       (.reg [
          ⟨(some 10), none, .mov (.t 6)⟩,
          ⟨(some 11), none, .len (.t 10)⟩,
          ⟨(some 12), none, .fieldAddr 0 (.t 2)⟩,
          ⟨(some 13), none, .load false 1 (.t 12)⟩,
          ⟨(some 14), none, .len (.t 13)⟩,
          ⟨(some 15), none, .bin .eql (.t 11) (.t 14)⟩] [1, 2, 6, 15])
       (.cond (.t 15)
       (.seq
        (.reg [
           ⟨(some 4), none, .mov (.v (.nl 1))⟩,
           ⟨(some 5), none, .mov (.v (.b false))⟩] [4, 5])
        (.ret))
       (.skip)))
      (.draw [0, 0, 2, 7, 0, 16, 0, 112, 240, 15, 1023] [
        ⟨(some 16), none, .mov (.t 6)⟩,
        ⟨(some 17), none, .mov (.t 1)⟩,
        ⟨(some 18), none, .buildSlice 1 [(.t 17)]⟩,
        ⟨(some 19), none, .append 1 8 true (.t 16) (.t 18)⟩,
        ⟨(some 20), none, .fieldAddr 0 (.t 2)⟩,
        ⟨(some 21), none, .load false 1 (.t 20)⟩,
        ⟨(some 22), none, .mov (.t 1)⟩,
        ⟨(some 23), none, .indexAddr 1 (.t 21) (.t 22)⟩,
        ⟨(some 24), none, .load false 1 (.t 23)⟩,
        ⟨(some 6), none, .mov (.t 19)⟩,
        ⟨(some 1), none, .mov (.t 24)⟩] [1, 2, 6]))))))
  (.seq
  (.reg [
     ⟨(some 25), none, .mov (.t 6)⟩,
     ⟨(some 4), none, .mov (.t 25)⟩,
     ⟨(some 5), none, .mov (.v (.b true))⟩] [4, 5])
  (.ret))))
theorem get_impl_Rooted_wayUp : Go.Proofs.Try.prog.funcs[fid_impl_Rooted_wayUp]? = some Go.Proofs.Try.f60 := Go.Proofs.Try.func60
theorem ok_impl_Rooted_wayUp : okFn Go.Proofs.Try.prog Go.Proofs.Try.f60 26 [] [(4, none), (5, none)] mc_impl_Rooted_wayUp = true := by kernel_rfl
def mc_laws_eqLife : MCode :=
 .seq
  (.reg [
     ⟨(some 2), none, .box 4 (.t 0)⟩,
     ⟨(some 3), none, .box 4 (.t 1)⟩,
     ⟨(some 4), none, .mov (.v (.b false))⟩] [2, 3])
  (.seq
  (.seq
   (.reg [
      ⟨(some 5), none, .fieldAddr 0 (.t 2)⟩,
      ⟨(some 6), none, .load true 2 (.t 5)⟩,
      ⟨(some 7), none, .fieldAddr 0 (.t 3)⟩,
      ⟨(some 8), none, .load true 2 (.t 7)⟩,
      ⟨(some 9), none, .call fid_laws_eqEdge false [.im, .im] [(.t 6), (.t 8)]⟩,
      ⟨(some 10), none, .un .not (.t 9)⟩] [2, 3, 10])
   (.cond (.t 10)
   (.seq
    (.reg [
       ⟨(some 4), none, .mov (.v (.b false))⟩] [4])
    (.ret))
   (.skip)))
  (.seq
  (.seq
   (.reg [
      ⟨(some 11), none, .fieldAddr 2 (.t 2)⟩,
      ⟨(some 12), none, .load false 1 (.t 11)⟩,
      ⟨(some 13), none, .fieldAddr 2 (.t 3)⟩,
      ⟨(some 14), none, .load false 1 (.t 13)⟩,
      ⟨(some 15), none, .bin .neq (.t 12) (.t 14)⟩] [2, 3, 15])
   (.cond (.t 15)
   (.seq
    (.reg [
       ⟨(some 4), none, .mov (.v (.b false))⟩] [4])
    (.ret))
   (.skip)))
  (.seq
  (.seq
   (.reg [
      ⟨(some 16), none, .fieldAddr 3 (.t 2)⟩,
      ⟨(some 17), none, .load false 1 (.t 16)⟩,
      ⟨(some 18), none, .fieldAddr 3 (.t 3)⟩,
      ⟨(some 19), none, .load false 1 (.t 18)⟩,
      ⟨(some 20), none, .bin .neq (.t 17) (.t 19)⟩] [20])
   (.cond (.t 20)
   (.seq
    (.reg [
       ⟨(some 4), none, .mov (.v (.b false))⟩] [4])
    (.ret))
   (.skip)))
  (.seq
  (.reg [
     ⟨(some 4), none, .mov (.v (.b true))⟩] [4])
  (.ret)))))
theorem get_laws_eqLife : Go.Proofs.Try.prog.funcs[fid_laws_eqLife]? = some Go.Proofs.Try.f61 := Go.Proofs.Try.func61
theorem ok_laws_eqLife : okFn Go.Proofs.Try.prog Go.Proofs.Try.f61 21 [] [(4, none)] mc_laws_eqLife = true := by kernel_rfl
def mc_spec_l1Edge : MCode :=
 .seq
  (.reg [
     ⟨(some 4), none, .alloc [.i .i64 0, .i .i64 0]⟩] [0, 1, 4])
  (.seq
  (.seq
   (.reg [
      ⟨(some 5), none, .mov (.t 0)⟩,
      ⟨(some 6), none, .mov (.t 1)⟩,
      ⟨(some 7), none, .bin .lss (.t 5) (.t 6)⟩] [0, 1, 4, 7])
   (.cond (.t 7)
   (.seq
    (.reg [
       ⟨(some 8), none, .mov (.t 0)⟩,
       ⟨(some 9), none, .mov (.t 1)⟩,
       ⟨(some 10), none, .build [.i .i64 0, .i .i64 0] [(0, 1, (.t 8)), (1, 1, (.t 9))]⟩,
       ⟨none, none, .store 2 (.t 4) (.t 10)⟩] [4])
    (.ret))
   (.skip)))
  (.seq
  (.reg [
     ⟨(some 11), none, .mov (.t 1)⟩,
     ⟨(some 12), none, .mov (.t 0)⟩,
     ⟨(some 13), none, .build [.i .i64 0, .i .i64 0] [(0, 1, (.t 11)), (1, 1, (.t 12))]⟩,
     ⟨none, none, .store 2 (.t 4) (.t 13)⟩] [4])
  (.ret)))
theorem get_spec_l1Edge : Go.Proofs.Try.prog.funcs[fid_spec_l1Edge]? = some Go.Proofs.Try.f62 := Go.Proofs.Try.func62
theorem ok_spec_l1Edge : okFn Go.Proofs.Try.prog Go.Proofs.Try.f62 14 [] [(4, some (true, 2))] mc_spec_l1Edge = true := by kernel_rfl
def mc_slices_ContainsFunc_int_int : MCode :=
 .seq
  (.reg [
     ⟨(some 4), none, .mov (.v (.b false))⟩] [0, 1])
  (.seq
  (.reg [
     ⟨(some 5), none, .mov (.t 0)⟩,
     ⟨(some 6), none, .mov (.t 1)⟩,
     ⟨(some 7), none, .call fid_slices_IndexFunc_int_int false [.im, .fn] [(.t 5), (.t 6)]⟩,
     ⟨(some 8), none, .bin .geq (.t 7) (.v (.i .i64 0))⟩,
     ⟨(some 4), none, .mov (.t 8)⟩] [4])
  (.ret))
theorem get_slices_ContainsFunc_int_int : Go.Proofs.Try.prog.funcs[fid_slices_ContainsFunc_int_int]? = some Go.Proofs.Try.f63 := Go.Proofs.Try.func63
theorem ok_slices_ContainsFunc_int_int : okFn Go.Proofs.Try.prog Go.Proofs.Try.f63 9 [] [(4, none)] mc_slices_ContainsFunc_int_int = true := by kernel_rfl
def mc_impl_ChainEdges_1 : MCode :=
 .seq
  (.reg [
     ⟨(some 2), none, .mov (.v (.b false))⟩] [0])
  (.seq
  (.reg [
     ⟨(some 3), none, .mov (.t 0)⟩,
     ⟨(some 4), none, .call fid_impl_isNode false [.im] [(.t 3)]⟩,
     ⟨(some 5), none, .un .not (.t 4)⟩,
     ⟨(some 2), none, .mov (.t 5)⟩] [2])
  (.ret))
theorem get_impl_ChainEdges_1 : Go.Proofs.Try.prog.funcs[fid_impl_ChainEdges_1]? = some Go.Proofs.Try.f64 := Go.Proofs.Try.func64
theorem ok_impl_ChainEdges_1 : okFn Go.Proofs.Try.prog Go.Proofs.Try.f64 6 [] [(2, none)] mc_impl_ChainEdges_1 = true := by kernel_rfl
def mc_impl_isNode : MCode :=
 .seq
  (.reg [
     ⟨(some 2), none, .mov (.v (.b false))⟩] [0])
  (.seq
  (.reg [
     ⟨(some 3), none, .mov (.t 0)⟩,
     ⟨(some 4), none, .bin .geq (.t 3) (.v (.i .i64 0))⟩,
     ⟨(some 5), none, .mov (.t 4)⟩,
     ⟨(some 6), (some (5, true)), .mov (.t 0)⟩,
     ⟨(some 7), (some (5, true)), .bin .lss (.t 6) (.v (.i .i64 16))⟩,
     ⟨(some 8), none, .pick (.t 5) (.t 7) (.v (.b false))⟩,
     ⟨(some 2), none, .mov (.t 8)⟩] [2])
  (.ret))
theorem get_impl_isNode : Go.Proofs.Try.prog.funcs[fid_impl_isNode]? = some Go.Proofs.Try.f65 := Go.Proofs.Try.func65
theorem ok_impl_isNode : okFn Go.Proofs.Try.prog Go.Proofs.Try.f65 9 [] [(2, none)] mc_impl_isNode = true := by kernel_rfl
def mc_impl_steps : MCode :=
 .seq
  (.reg [
     ⟨(some 2), none, .mov (.v (.nl 2))⟩,
     ⟨(some 3), none, .mov (.v (.b false))⟩] [0])
  (.seq
  (.reg [
     ⟨(some 8), none, .buildSlice 2 []⟩,
     ⟨(some 4), none, .mov (.t 8)⟩] [0, 4])
  (.seq
  (.seq
   (.reg [
      ⟨(some 5), none, .mov (.v (.i .i64 1))⟩] [0, 4, 5])
   (.block 0
   (.loop [0, 4, 5]
    (.seq
     (.seq
      (.reg [
         ⟨(some 9), none, .mov (.t 5)⟩,
         ⟨(some 10), none, .mov (.t 0)⟩,
         ⟨(some 11), none, .len (.t 10)⟩,
         ⟨(some 12), none, .bin .lss (.t 9) (.t 11)⟩] [0, 4, 5, 12])
      (.cond (.t 12)
      (.skip)
      (.exit 0)))
     (.seq
     (.block 1
      (.seq
       (.draw [0, 0, 2, 7, 15, 0, 0, 96, 224, 511, 1023, 2047, 2047, 0, 12287, 32767] [
          ⟨(some 16), none, .mov (.t 0)⟩,
          ⟨(some 17), none, .mov (.t 5)⟩,
          ⟨(some 18), none, .bin .sub (.t 17) (.v (.i .i64 1))⟩,
          ⟨(some 19), none, .indexAddr 1 (.t 16) (.t 18)⟩,
          ⟨(some 20), none, .load false 1 (.t 19)⟩,
          ⟨(some 21), none, .mov (.t 0)⟩,
          ⟨(some 22), none, .mov (.t 5)⟩,
          ⟨(some 23), none, .indexAddr 1 (.t 21) (.t 22)⟩,
          ⟨(some 24), none, .load false 1 (.t 23)⟩,
          ⟨(some 25), none, .call fid_impl_EdgeOf false [.im, .im] [(.t 20), (.t 24)]⟩,
          ⟨(some 15), none, .mov (.t 25)⟩,
          ⟨(some 26), none, .extract (.t 15) 0⟩,
          ⟨(some 27), none, .extract (.t 15) 1⟩,
          ⟨(some 6), none, .alloc [.i .i64 0, .i .i64 0]⟩,
          ⟨none, none, .store 2 (.t 6) (.t 26)⟩,
          ⟨(some 7), none, .mov (.t 27)⟩] [0, 4, 5, 6, 7])
       (.seq
       (.seq
        (.reg [
           ⟨(some 28), none, .mov (.t 7)⟩,
           ⟨(some 29), none, .un .not (.t 28)⟩] [0, 4, 5, 6, 29])
        (.cond (.t 29)
        (.seq
         (.reg [
            ⟨(some 2), none, .mov (.v (.nl 2))⟩,
            ⟨(some 3), none, .mov (.v (.b false))⟩] [2, 3])
         (.ret))
        (.skip)))
       (.reg [
         ⟨(some 30), none, .mov (.t 4)⟩,
         ⟨(some 31), none, .load true 2 (.t 6)⟩,
         ⟨(some 32), none, .buildSlice 2 [(.t 31)]⟩,
         ⟨(some 33), none, .append 2 16 true (.t 30) (.t 32)⟩,
         ⟨(some 4), none, .mov (.t 33)⟩] [0, 4, 5]))))
     (.reg [
       ⟨(some 13), none, .mov (.t 5)⟩,
       ⟨(some 14), none, .bin .add (.t 13) (.v (.i .i64 1))⟩,
       ⟨(some 5), none, .mov (.t 14)⟩] [0, 4, 5]))))))
  (.seq
  (.reg [
     ⟨(some 34), none, .mov (.t 4)⟩,
     ⟨(some 2), none, .mov (.t 34)⟩,
     ⟨(some 3), none, .mov (.v (.b true))⟩] [2, 3])
  (.ret))))
theorem get_impl_steps : Go.Proofs.Try.prog.funcs[fid_impl_steps]? = some Go.Proofs.Try.f66 := Go.Proofs.Try.func66
theorem ok_impl_steps : okFn Go.Proofs.Try.prog Go.Proofs.Try.f66 35 [] [(2, none), (3, none)] mc_impl_steps = true := by kernel_rfl
def mc_laws_eqEdge : MCode :=
 .seq
  (.reg [
     ⟨(some 2), none, .box 2 (.t 0)⟩,
     ⟨(some 3), none, .box 2 (.t 1)⟩,
     ⟨(some 4), none, .mov (.v (.b false))⟩] [2, 3])
  (.seq
  (.seq
   (.reg [
      ⟨(some 5), none, .fieldAddr 0 (.t 2)⟩,
      ⟨(some 6), none, .load false 1 (.t 5)⟩,
      ⟨(some 7), none, .fieldAddr 0 (.t 3)⟩,
      ⟨(some 8), none, .load false 1 (.t 7)⟩,
      ⟨(some 9), none, .bin .neq (.t 6) (.t 8)⟩] [2, 3, 9])
   (.cond (.t 9)
   (.seq
    (.reg [
       ⟨(some 4), none, .mov (.v (.b false))⟩] [4])
    (.ret))
   (.skip)))
  (.seq
  (.seq
   (.reg [
      ⟨(some 10), none, .fieldAddr 1 (.t 2)⟩,
      ⟨(some 11), none, .load false 1 (.t 10)⟩,
      ⟨(some 12), none, .fieldAddr 1 (.t 3)⟩,
      ⟨(some 13), none, .load false 1 (.t 12)⟩,
      ⟨(some 14), none, .bin .neq (.t 11) (.t 13)⟩] [14])
   (.cond (.t 14)
   (.seq
    (.reg [
       ⟨(some 4), none, .mov (.v (.b false))⟩] [4])
    (.ret))
   (.skip)))
  (.seq
  (.reg [
     ⟨(some 4), none, .mov (.v (.b true))⟩] [4])
  (.ret))))
theorem get_laws_eqEdge : Go.Proofs.Try.prog.funcs[fid_laws_eqEdge]? = some Go.Proofs.Try.f67 := Go.Proofs.Try.func67
theorem ok_laws_eqEdge : okFn Go.Proofs.Try.prog Go.Proofs.Try.f67 15 [] [(4, none)] mc_laws_eqEdge = true := by kernel_rfl
def mc_spec_l12Node : MCode :=
 .seq
  (.reg [
     ⟨(some 2), none, .box 2 (.t 0)⟩,
     ⟨(some 4), none, .mov (.v (.b false))⟩] [1, 2])
  (.seq
  (.reg [
     ⟨(some 5), none, .load true 2 (.t 2)⟩,
     ⟨(some 6), none, .call fid_spec_RootedValid false [.im] [(.t 5)]⟩,
     ⟨(some 7), none, .mov (.t 6)⟩,
     ⟨(some 8), (some (7, true)), .mov (.t 1)⟩,
     ⟨(some 9), (some (7, true)), .bin .geq (.t 8) (.v (.i .i64 0))⟩,
     ⟨(some 10), none, .pick (.t 7) (.t 9) (.v (.b false))⟩,
     ⟨(some 11), none, .mov (.t 10)⟩,
     ⟨(some 12), (some (11, true)), .mov (.t 1)⟩,
     ⟨(some 13), (some (11, true)), .fieldAddr 0 (.t 2)⟩,
     ⟨(some 14), (some (11, true)), .load false 1 (.t 13)⟩,
     ⟨(some 15), (some (11, true)), .len (.t 14)⟩,
     ⟨(some 16), (some (11, true)), .bin .lss (.t 12) (.t 15)⟩,
     ⟨(some 17), none, .pick (.t 11) (.t 16) (.v (.b false))⟩,
     ⟨(some 4), none, .mov (.t 17)⟩] [4])
  (.ret))
theorem get_spec_l12Node : Go.Proofs.Try.prog.funcs[fid_spec_l12Node]? = some Go.Proofs.Try.f68 := Go.Proofs.Try.func68
theorem ok_spec_l12Node : okFn Go.Proofs.Try.prog Go.Proofs.Try.f68 18 [] [(4, none)] mc_spec_l12Node = true := by kernel_rfl
def mc_spec_l12Up : MCode :=
 .seq
  (.reg [
     ⟨(some 2), none, .box 2 (.t 0)⟩,
     ⟨(some 4), none, .mov (.v (.nl 1))⟩] [1, 2])
  (.seq
  (.reg [
     ⟨(some 7), none, .buildSlice 1 []⟩,
     ⟨(some 5), none, .mov (.t 7)⟩] [1, 2, 5])
  (.seq
  (.seq
   (.reg [
      ⟨(some 8), none, .mov (.t 1)⟩,
      ⟨(some 6), none, .mov (.t 8)⟩] [2, 5, 6])
   (.block 0
   (.loop [2, 5, 6]
    (.seq
     (.seq
      (.reg [
         ⟨(some 9), none, .mov (.t 6)⟩,
         ⟨(some 10), none, .bin .geq (.t 9) (.v (.i .i64 0))⟩] [2, 5, 6, 10])
      (.cond (.t 10)
      (.skip)
      (.exit 0)))
     (.seq
     (.block 1
      (.reg [
         ⟨(some 16), none, .mov (.t 5)⟩,
         ⟨(some 17), none, .mov (.t 6)⟩,
         ⟨(some 18), none, .buildSlice 1 [(.t 17)]⟩,
         ⟨(some 19), none, .append 1 8 true (.t 16) (.t 18)⟩,
         ⟨(some 5), none, .mov (.t 19)⟩] [2, 5, 6]))
     (.reg [
       ⟨(some 11), none, .fieldAddr 0 (.t 2)⟩,
       ⟨(some 12), none, .load false 1 (.t 11)⟩,
       ⟨(some 13), none, .mov (.t 6)⟩,
       ⟨(some 14), none, .indexAddr 1 (.t 12) (.t 13)⟩,
       ⟨(some 15), none, .load false 1 (.t 14)⟩,
       ⟨(some 6), none, .mov (.t 15)⟩] [2, 5, 6]))))))
  (.seq
  (.reg [
     ⟨(some 20), none, .mov (.t 5)⟩,
     ⟨(some 4), none, .mov (.t 20)⟩] [4])
  (.ret))))
theorem get_spec_l12Up : Go.Proofs.Try.prog.funcs[fid_spec_l12Up]? = some Go.Proofs.Try.f69 := Go.Proofs.Try.func69
theorem ok_spec_l12Up : okFn Go.Proofs.Try.prog Go.Proofs.Try.f69 21 [] [(4, none)] mc_spec_l12Up = true := by kernel_rfl
def mc_impl_Rooted_hasNode : MCode :=
 .seq
  (.reg [
     ⟨(some 2), none, .box 2 (.t 0)⟩,
     ⟨(some 4), none, .mov (.v (.b false))⟩] [1, 2])
  (.seq
  (.reg [
     ⟨(some 5), none, .load true 2 (.t 2)⟩,
     ⟨(some 6), none, .call fid_impl_RootedValid false [.im] [(.t 5)]⟩,
     ⟨(some 7), none, .mov (.t 6)⟩,
     ⟨(some 8), (some (7, true)), .mov (.t 1)⟩,
     ⟨(some 9), (some (7, true)), .bin .geq (.t 8) (.v (.i .i64 0))⟩,
     ⟨(some 10), none, .pick (.t 7) (.t 9) (.v (.b false))⟩,
     ⟨(some 11), none, .mov (.t 10)⟩,
     ⟨(some 12), (some (11, true)), .mov (.t 1)⟩,
     ⟨(some 13), (some (11, true)), .fieldAddr 0 (.t 2)⟩,
     ⟨(some 14), (some (11, true)), .load false 1 (.t 13)⟩,
     ⟨(some 15), (some (11, true)), .len (.t 14)⟩,
     ⟨(some 16), (some (11, true)), .bin .lss (.t 12) (.t 15)⟩,
     ⟨(some 17), none, .pick (.t 11) (.t 16) (.v (.b false))⟩,
     ⟨(some 4), none, .mov (.t 17)⟩] [4])
  (.ret))
theorem get_impl_Rooted_hasNode : Go.Proofs.Try.prog.funcs[fid_impl_Rooted_hasNode]? = some Go.Proofs.Try.f70 := Go.Proofs.Try.func70
theorem ok_impl_Rooted_hasNode : okFn Go.Proofs.Try.prog Go.Proofs.Try.f70 18 [] [(4, none)] mc_impl_Rooted_hasNode = true := by kernel_rfl
def mc_impl_Rooted_root : MCode :=
 .seq
  (.reg [
     ⟨(some 2), none, .box 2 (.t 0)⟩,
     ⟨(some 4), none, .mov (.v (.i .i64 0))⟩] [1, 2])
  (.seq
  (.reg [
     ⟨(some 8), none, .load true 2 (.t 2)⟩,
     ⟨(some 9), none, .mov (.t 1)⟩,
     ⟨(some 10), none, .call fid_impl_Rooted_wayUp false [.im, .im] [(.t 8), (.t 9)]⟩,
     ⟨(some 7), none, .mov (.t 10)⟩,
     ⟨(some 11), none, .extract (.t 7) 0⟩,
     ⟨(some 12), none, .extract (.t 7) 1⟩,
     ⟨(some 5), none, .mov (.t 11)⟩,
     ⟨(some 6), none, .mov (.t 12)⟩] [5])
  (.seq
  (.reg [
     ⟨(some 13), none, .mov (.t 5)⟩,
     ⟨(some 14), none, .mov (.t 5)⟩,
     ⟨(some 15), none, .len (.t 14)⟩,
     ⟨(some 16), none, .bin .sub (.t 15) (.v (.i .i64 1))⟩,
     ⟨(some 17), none, .indexAddr 1 (.t 13) (.t 16)⟩,
     ⟨(some 18), none, .load false 1 (.t 17)⟩,
     ⟨(some 4), none, .mov (.t 18)⟩] [4])
  (.ret)))
theorem get_impl_Rooted_root : Go.Proofs.Try.prog.funcs[fid_impl_Rooted_root]? = some Go.Proofs.Try.f71 := Go.Proofs.Try.func71
theorem ok_impl_Rooted_root : okFn Go.Proofs.Try.prog Go.Proofs.Try.f71 19 [] [(4, none)] mc_impl_Rooted_root = true := by kernel_rfl
def mc_spec_DrawRootOf : MCode :=
 .seq
  (.reg [
     ⟨(some 2), none, .alloc [.nl 1, .nl 1]⟩,
     ⟨(some 3), none, .mov (.v (.i .i64 0))⟩] [0, 2])
  (.seq
  (.reg [
     ⟨(some 8), none, .mov (.t 0)⟩,
     ⟨(some 9), none, .call fid_spec_l12Two false [.im] [(.t 8)]⟩,
     ⟨(some 7), none, .mov (.t 9)⟩,
     ⟨(some 10), none, .extract (.t 7) 0⟩,
     ⟨(some 11), none, .extract (.t 7) 1⟩,
     ⟨(some 12), none, .extract (.t 7) 2⟩,
     ⟨(some 4), none, .alloc [.nl 1, .nl 1]⟩,
     ⟨none, none, .store 2 (.t 4) (.t 10)⟩,
     ⟨(some 5), none, .mov (.t 11)⟩,
     ⟨(some 6), none, .mov (.t 12)⟩] [2, 4, 5])
  (.seq
  (.reg [
     ⟨(some 13), none, .load true 2 (.t 4)⟩,
     ⟨(some 14), none, .mov (.t 5)⟩,
     ⟨none, none, .store 2 (.t 2) (.t 13)⟩,
     ⟨(some 3), none, .mov (.t 14)⟩] [2, 3])
  (.ret)))
theorem get_spec_DrawRootOf : Go.Proofs.Try.prog.funcs[fid_spec_DrawRootOf]? = some Go.Proofs.Try.f72 := Go.Proofs.Try.func72
theorem ok_spec_DrawRootOf : okFn Go.Proofs.Try.prog Go.Proofs.Try.f72 15 [] [(2, some (true, 2)), (3, none)] mc_spec_DrawRootOf = true := by kernel_rfl
def mc_spec_l6In : MCode :=
 .seq
  (.reg [
     ⟨(some 4), none, .mov (.v (.b false))⟩] [0, 1])
  (.seq
  (.seq
   (.reg [
      ⟨(some 5), none, .mov (.v (.i .i64 0))⟩] [0, 1, 5])
   (.block 0
   (.loop [0, 1, 5]
    (.seq
     (.seq
      (.reg [
         ⟨(some 6), none, .mov (.t 5)⟩,
         ⟨(some 7), none, .mov (.t 0)⟩,
         ⟨(some 8), none, .len (.t 7)⟩,
         ⟨(some 9), none, .bin .lss (.t 6) (.t 8)⟩] [0, 1, 5, 9])
      (.cond (.t 9)
      (.skip)
      (.exit 0)))
     (.seq
     (.block 1
      (.seq
       (.reg [
          ⟨(some 12), none, .mov (.t 0)⟩,
          ⟨(some 13), none, .mov (.t 5)⟩,
          ⟨(some 14), none, .indexAddr 1 (.t 12) (.t 13)⟩,
          ⟨(some 15), none, .load false 1 (.t 14)⟩,
          ⟨(some 16), none, .mov (.t 1)⟩,
          ⟨(some 17), none, .bin .eql (.t 15) (.t 16)⟩] [0, 1, 5, 17])
       (.cond (.t 17)
       (.seq
        (.reg [
           ⟨(some 4), none, .mov (.v (.b true))⟩] [4])
        (.ret))
       (.skip))))
     (.reg [
       ⟨(some 10), none, .mov (.t 5)⟩,
       ⟨(some 11), none, .bin .add (.t 10) (.v (.i .i64 1))⟩,
       ⟨(some 5), none, .mov (.t 11)⟩] [0, 1, 5]))))))
  (.seq
  (.reg [
     ⟨(some 4), none, .mov (.v (.b false))⟩] [4])
  (.ret)))
theorem get_spec_l6In : Go.Proofs.Try.prog.funcs[fid_spec_l6In]? = some Go.Proofs.Try.f73 := Go.Proofs.Try.func73
theorem ok_spec_l6In : okFn Go.Proofs.Try.prog Go.Proofs.Try.f73 18 [] [(4, none)] mc_spec_l6In = true := by kernel_rfl
def mc_slices_Contains_int_int : MCode :=
 .seq
  (.reg [
     ⟨(some 4), none, .mov (.v (.b false))⟩] [0, 1])
  (.seq
  (.reg [
     ⟨(some 5), none, .mov (.t 0)⟩,
     ⟨(some 6), none, .mov (.t 1)⟩,
     ⟨(some 7), none, .call fid_slices_Index_int_int false [.im, .im] [(.t 5), (.t 6)]⟩,
     ⟨(some 8), none, .bin .geq (.t 7) (.v (.i .i64 0))⟩,
     ⟨(some 4), none, .mov (.t 8)⟩] [4])
  (.ret))
theorem get_slices_Contains_int_int : Go.Proofs.Try.prog.funcs[fid_slices_Contains_int_int]? = some Go.Proofs.Try.f74 := Go.Proofs.Try.func74
theorem ok_slices_Contains_int_int : okFn Go.Proofs.Try.prog Go.Proofs.Try.f74 9 [] [(4, none)] mc_slices_Contains_int_int = true := by kernel_rfl
def mc_spec_l12Copy : MCode :=
 .seq
  (.reg [
     ⟨(some 1), none, .box 2 (.t 0)⟩,
     ⟨(some 2), none, .alloc [.nl 1, .nl 1]⟩] [1, 2])
  (.seq
  (.draw [0, 0, 2, 7, 0, 0, 32, 127, 255, 511] [
     ⟨(some 3), none, .buildSlice 1 []⟩,
     ⟨(some 4), none, .fieldAddr 0 (.t 1)⟩,
     ⟨(some 5), none, .load false 1 (.t 4)⟩,
     ⟨(some 6), none, .append 1 8 false (.t 3) (.t 5)⟩,
     ⟨(some 7), none, .buildSlice 1 []⟩,
     ⟨(some 8), none, .fieldAddr 1 (.t 1)⟩,
     ⟨(some 9), none, .load false 1 (.t 8)⟩,
     ⟨(some 10), none, .append 1 8 false (.t 7) (.t 9)⟩,
     ⟨(some 11), none, .build [.nl 1, .nl 1] [(0, 1, (.t 6)), (1, 1, (.t 10))]⟩,
     ⟨none, none, .store 2 (.t 2) (.t 11)⟩] [2])
  (.ret))
theorem get_spec_l12Copy : Go.Proofs.Try.prog.funcs[fid_spec_l12Copy]? = some Go.Proofs.Try.f75 := Go.Proofs.Try.func75
theorem ok_spec_l12Copy : okFn Go.Proofs.Try.prog Go.Proofs.Try.f75 12 [] [(2, some (true, 2))] mc_spec_l12Copy = true := by kernel_rfl
def mc_impl_Rooted_with : MCode :=
 .seq
  (.reg [
     ⟨(some 4), none, .box 2 (.t 0)⟩,
     ⟨(some 8), none, .alloc [.nl 1, .nl 1]⟩] [1, 2, 3, 4, 8])
  (.seq
  (.draw [0, 1, 3, 0, 8, 31, 63, 0, 255] [
     ⟨(some 10), none, .fieldAddr 0 (.t 4)⟩,
     ⟨(some 11), none, .load false 1 (.t 10)⟩,
     ⟨(some 12), none, .call fid_slices_Clone_int_int false [.im] [(.t 11)]⟩,
     ⟨(some 13), none, .fieldAddr 1 (.t 4)⟩,
     ⟨(some 14), none, .load false 1 (.t 13)⟩,
     ⟨(some 15), none, .call fid_slices_Clone_int_int false [.im] [(.t 14)]⟩,
     ⟨(some 16), none, .build [.nl 1, .nl 1] [(0, 1, (.t 12)), (1, 1, (.t 15))]⟩,
     ⟨(some 9), none, .alloc [.nl 1, .nl 1]⟩,
     ⟨none, none, .store 2 (.t 9) (.t 16)⟩] [1, 2, 3, 8, 9])
  (.seq
  (.draw [0, 1, 0, 0, 8, 0, 0, 0, 71, 327, 1023, 2047] [
     ⟨(some 17), none, .fieldAddr 0 (.t 9)⟩,
     ⟨(some 18), none, .load false 1 (.t 17)⟩,
     ⟨(some 19), none, .mov (.t 1)⟩,
     ⟨(some 20), none, .fieldAddr 1 (.t 9)⟩,
     ⟨(some 21), none, .load false 1 (.t 20)⟩,
     ⟨(some 22), none, .mov (.t 1)⟩,
     ⟨(some 23), none, .mov (.t 2)⟩,
     ⟨(some 24), none, .mov (.t 3)⟩,
     ⟨(some 25), none, .indexAddr 1 (.t 18) (.t 19)⟩,
     ⟨none, none, .store 1 (.t 25) (.t 23)⟩,
     ⟨(some 26), none, .indexAddr 1 (.t 21) (.t 22)⟩,
     ⟨none, none, .store 1 (.t 26) (.t 24)⟩] [8, 9])
  (.seq
  (.reg [
     ⟨(some 27), none, .load true 2 (.t 9)⟩,
     ⟨none, none, .store 2 (.t 8) (.t 27)⟩] [8])
  (.ret))))
theorem get_impl_Rooted_with : Go.Proofs.Try.prog.funcs[fid_impl_Rooted_with]? = some Go.Proofs.Try.f76 := Go.Proofs.Try.func76
theorem ok_impl_Rooted_with : okFn Go.Proofs.Try.prog Go.Proofs.Try.f76 28 [] [(8, some (true, 2))] mc_impl_Rooted_with = true := by kernel_rfl
def mc_laws_szEdgeS : MCode :=
 .seq
  (.reg [
     ⟨(some 4), none, .mov (.v (.i .i64 0))⟩] [0, 1])
  (.seq
  (.reg [
     ⟨(some 5), none, .mov (.t 1)⟩,
     ⟨(some 6), none, .mov (.t 0)⟩,
     ⟨(some 7), none, .len (.t 6)⟩,
     ⟨(some 8), none, .bin .sub (.t 5) (.t 7)⟩,
     ⟨(some 1), none, .mov (.t 8)⟩] [1])
  (.seq
  (.seq
   (.reg [
      ⟨(some 9), none, .mov (.t 1)⟩,
      ⟨(some 10), none, .bin .lss (.t 9) (.v (.i .i64 0))⟩] [1, 10])
   (.cond (.t 10)
   (.seq
    (.reg [
       ⟨(some 4), none, .mov (.v (.i .i64 (-1)))⟩] [4])
    (.ret))
   (.skip)))
  (.seq
  (.reg [
     ⟨(some 11), none, .mov (.t 1)⟩,
     ⟨(some 4), none, .mov (.t 11)⟩] [4])
  (.ret))))
theorem get_laws_szEdgeS : Go.Proofs.Try.prog.funcs[fid_laws_szEdgeS]? = some Go.Proofs.Try.f77 := Go.Proofs.Try.func77
theorem ok_laws_szEdgeS : okFn Go.Proofs.Try.prog Go.Proofs.Try.f77 12 [] [(4, none)] mc_laws_szEdgeS = true := by kernel_rfl
def mc_spec_l2Node : MCode :=
 .seq
  (.reg [
     ⟨(some 2), none, .box 2 (.t 0)⟩,
     ⟨(some 4), none, .mov (.v (.b false))⟩] [1, 2])
  (.seq
  (.reg [
     ⟨(some 5), none, .load true 2 (.t 2)⟩,
     ⟨(some 6), none, .call fid_spec_GraphValid false [.im] [(.t 5)]⟩,
     ⟨(some 7), none, .mov (.t 6)⟩,
     ⟨(some 8), (some (7, true)), .mov (.t 1)⟩,
     ⟨(some 9), (some (7, true)), .bin .geq (.t 8) (.v (.i .i64 0))⟩,
     ⟨(some 10), none, .pick (.t 7) (.t 9) (.v (.b false))⟩,
     ⟨(some 11), none, .mov (.t 10)⟩,
     ⟨(some 12), (some (11, true)), .mov (.t 1)⟩,
     ⟨(some 13), (some (11, true)), .fieldAddr 0 (.t 2)⟩,
     ⟨(some 14), (some (11, true)), .load false 1 (.t 13)⟩,
     ⟨(some 15), (some (11, true)), .bin .lss (.t 12) (.t 14)⟩,
     ⟨(some 16), none, .pick (.t 11) (.t 15) (.v (.b false))⟩,
     ⟨(some 4), none, .mov (.t 16)⟩] [4])
  (.ret))
theorem get_spec_l2Node : Go.Proofs.Try.prog.funcs[fid_spec_l2Node]? = some Go.Proofs.Try.f78 := Go.Proofs.Try.func78
theorem ok_spec_l2Node : okFn Go.Proofs.Try.prog Go.Proofs.Try.f78 17 [] [(4, none)] mc_spec_l2Node = true := by kernel_rfl
def mc_spec_l2Joined : MCode :=
 .seq
  (.reg [
     ⟨(some 3), none, .box 2 (.t 0)⟩,
     ⟨(some 6), none, .mov (.v (.b false))⟩] [1, 2, 3])
  (.seq
  (.reg [
     ⟨(some 8), none, .load true 2 (.t 3)⟩,
     ⟨(some 9), none, .call fid_spec_l2Labels false [.im] [(.t 8)]⟩,
     ⟨(some 7), none, .mov (.t 9)⟩] [1, 2, 7])
  (.seq
  (.draw [0, 0, 3, 7, 0, 0, 48, 112, 255, 511] [
     ⟨(some 10), none, .mov (.t 7)⟩,
     ⟨(some 11), none, .mov (.t 1)⟩,
     ⟨(some 12), none, .indexAddr 1 (.t 10) (.t 11)⟩,
     ⟨(some 13), none, .load false 1 (.t 12)⟩,
     ⟨(some 14), none, .mov (.t 7)⟩,
     ⟨(some 15), none, .mov (.t 2)⟩,
     ⟨(some 16), none, .indexAddr 1 (.t 14) (.t 15)⟩,
     ⟨(some 17), none, .load false 1 (.t 16)⟩,
     ⟨(some 18), none, .bin .eql (.t 13) (.t 17)⟩,
     ⟨(some 6), none, .mov (.t 18)⟩] [6])
  (.ret)))
theorem get_spec_l2Joined : Go.Proofs.Try.prog.funcs[fid_spec_l2Joined]? = some Go.Proofs.Try.f79 := Go.Proofs.Try.func79
theorem ok_spec_l2Joined : okFn Go.Proofs.Try.prog Go.Proofs.Try.f79 19 [] [(6, none)] mc_spec_l2Joined = true := by kernel_rfl
def mc_laws_toEdgeS : MCode :=
 .seq
  (.reg [
     ⟨(some 2), none, .mov (.v (.nl 2))⟩] [0])
  (.seq
  (.reg [
     ⟨(some 5), none, .mov (.t 0)⟩,
     ⟨(some 6), none, .len (.t 5)⟩,
     ⟨(some 7), none, .makeSlice 2 16 [.i .i64 0, .i .i64 0] (.t 6) (.t 6)⟩,
     ⟨(some 3), none, .mov (.t 7)⟩] [0, 3])
  (.seq
  (.seq
   (.reg [
      ⟨(some 4), none, .mov (.v (.i .i64 0))⟩] [0, 3, 4])
   (.block 0
   (.loop [0, 3, 4]
    (.seq
     (.seq
      (.reg [
         ⟨(some 8), none, .mov (.t 4)⟩,
         ⟨(some 9), none, .mov (.t 0)⟩,
         ⟨(some 10), none, .len (.t 9)⟩,
         ⟨(some 11), none, .bin .lss (.t 8) (.t 10)⟩] [0, 3, 4, 11])
      (.cond (.t 11)
      (.skip)
      (.exit 0)))
     (.seq
     (.block 1
      (.reg [
         ⟨(some 14), none, .mov (.t 3)⟩,
         ⟨(some 15), none, .mov (.t 4)⟩,
         ⟨(some 16), none, .mov (.t 0)⟩,
         ⟨(some 17), none, .mov (.t 4)⟩,
         ⟨(some 18), none, .indexAddr 2 (.t 16) (.t 17)⟩,
         ⟨(some 19), none, .load true 2 (.t 18)⟩,
         ⟨(some 20), none, .call fid_laws_toEdge false [.im] [(.t 19)]⟩,
         ⟨(some 21), none, .indexAddr 2 (.t 14) (.t 15)⟩,
         ⟨none, none, .store 2 (.t 21) (.t 20)⟩] [0, 3, 4]))
     (.reg [
       ⟨(some 12), none, .mov (.t 4)⟩,
       ⟨(some 13), none, .bin .add (.t 12) (.v (.i .i64 1))⟩,
       ⟨(some 4), none, .mov (.t 13)⟩] [0, 3, 4]))))))
  (.seq
  (.reg [
     ⟨(some 22), none, .mov (.t 3)⟩,
     ⟨(some 2), none, .mov (.t 22)⟩] [2])
  (.ret))))
theorem get_laws_toEdgeS : Go.Proofs.Try.prog.funcs[fid_laws_toEdgeS]? = some Go.Proofs.Try.f80 := Go.Proofs.Try.func80
theorem ok_laws_toEdgeS : okFn Go.Proofs.Try.prog Go.Proofs.Try.f80 23 [] [(2, none)] mc_laws_toEdgeS = true := by kernel_rfl
def mc_impl_Graph_hasNode : MCode :=
 .seq
  (.reg [
     ⟨(some 2), none, .box 2 (.t 0)⟩,
     ⟨(some 4), none, .mov (.v (.b false))⟩] [1, 2])
  (.seq
  (.reg [
     ⟨(some 5), none, .load true 2 (.t 2)⟩,
     ⟨(some 6), none, .call fid_impl_GraphValid false [.im] [(.t 5)]⟩,
     ⟨(some 7), none, .mov (.t 6)⟩,
     ⟨(some 8), (some (7, true)), .mov (.t 1)⟩,
     ⟨(some 9), (some (7, true)), .bin .geq (.t 8) (.v (.i .i64 0))⟩,
     ⟨(some 10), none, .pick (.t 7) (.t 9) (.v (.b false))⟩,
     ⟨(some 11), none, .mov (.t 10)⟩,
     ⟨(some 12), (some (11, true)), .mov (.t 1)⟩,
     ⟨(some 13), (some (11, true)), .fieldAddr 0 (.t 2)⟩,
     ⟨(some 14), (some (11, true)), .load false 1 (.t 13)⟩,
     ⟨(some 15), (some (11, true)), .bin .lss (.t 12) (.t 14)⟩,
     ⟨(some 16), none, .pick (.t 11) (.t 15) (.v (.b false))⟩,
     ⟨(some 4), none, .mov (.t 16)⟩] [4])
  (.ret))
theorem get_impl_Graph_hasNode : Go.Proofs.Try.prog.funcs[fid_impl_Graph_hasNode]? = some Go.Proofs.Try.f81 := Go.Proofs.Try.func81
theorem ok_impl_Graph_hasNode : okFn Go.Proofs.Try.prog Go.Proofs.Try.f81 17 [] [(4, none)] mc_impl_Graph_hasNode = true := by kernel_rfl
def mc_impl_Graph_connected : MCode :=
 .seq
  (.reg [
     ⟨(some 3), none, .box 2 (.t 0)⟩,
     ⟨(some 6), none, .mov (.v (.b false))⟩] [1, 2, 3])
  (.seq
  (.reg [
     ⟨(some 8), none, .load true 2 (.t 3)⟩,
     ⟨(some 9), none, .call fid_impl_Graph_parts false [.im] [(.t 8)]⟩,
     ⟨(some 7), none, .mov (.t 9)⟩] [1, 2, 7])
  (.seq
  (.draw [0, 0, 3, 7, 0, 0, 48, 112, 255, 511] [
     ⟨(some 10), none, .mov (.t 7)⟩,
     ⟨(some 11), none, .mov (.t 1)⟩,
     ⟨(some 12), none, .indexAddr 1 (.t 10) (.t 11)⟩,
     ⟨(some 13), none, .load false 1 (.t 12)⟩,
     ⟨(some 14), none, .mov (.t 7)⟩,
     ⟨(some 15), none, .mov (.t 2)⟩,
     ⟨(some 16), none, .indexAddr 1 (.t 14) (.t 15)⟩,
     ⟨(some 17), none, .load false 1 (.t 16)⟩,
     ⟨(some 18), none, .bin .eql (.t 13) (.t 17)⟩,
     ⟨(some 6), none, .mov (.t 18)⟩] [6])
  (.ret)))
theorem get_impl_Graph_connected : Go.Proofs.Try.prog.funcs[fid_impl_Graph_connected]? = some Go.Proofs.Try.f82 := Go.Proofs.Try.func82
theorem ok_impl_Graph_connected : okFn Go.Proofs.Try.prog Go.Proofs.Try.f82 19 [] [(6, none)] mc_impl_Graph_connected = true := by kernel_rfl
def mc_spec_l12Two : MCode :=
 .seq
  (.reg [
     ⟨(some 2), none, .alloc [.nl 1, .nl 1]⟩,
     ⟨(some 3), none, .mov (.v (.i .i64 0))⟩,
     ⟨(some 4), none, .mov (.v (.i .i64 0))⟩] [0, 2])
  (.seq
  (.reg [
     ⟨(some 8), none, .mov (.t 0)⟩,
     ⟨(some 9), none, .call fid_spec_l12Draw false [.im] [(.t 8)]⟩,
     ⟨(some 5), none, .alloc [.nl 1, .nl 1]⟩,
     ⟨none, none, .store 2 (.t 5) (.t 9)⟩] [0, 2, 5])
  (.seq
  (.reg [
     ⟨(some 10), none, .mov (.t 0)⟩,
     ⟨(some 11), none, .call fid_spec_l14Open true [.im] [(.t 10)]⟩,
     ⟨(some 6), none, .mov (.t 11)⟩] [2, 5, 6])
  (.seq
  (.reg [
     ⟨(some 12), none, .fieldAddr 0 (.t 5)⟩,
     ⟨(some 13), none, .load false 1 (.t 12)⟩,
     ⟨(some 14), none, .len (.t 13)⟩,
     ⟨(some 7), none, .mov (.t 14)⟩] [2, 5, 6, 7])
  (.seq
  (.seq
   (.reg [
      ⟨(some 15), none, .mov (.t 6)⟩,
      ⟨(some 16), none, .call fid_p_spec_l14Rd_pick true [.io, .im] [(.t 15), (.v (.i .i64 20))]⟩,
      ⟨(some 17), none, .bin .eql (.t 16) (.v (.i .i64 0))⟩] [2, 5, 6, 7, 17])
   (.cond (.t 17)
   (.seq
    (.draw [0, 0, 0, 6, 15, 31, 63] [
       ⟨(some 18), none, .load true 2 (.t 5)⟩,
       ⟨(some 19), none, .mov (.t 6)⟩,
       ⟨(some 20), none, .buildSlice 1 [(.v (.i .i64 (-1))), (.v (.i .i64 16))]⟩,
       ⟨(some 21), none, .call fid_p_spec_l14Rd_num true [.io, .im] [(.t 19), (.t 20)]⟩,
       ⟨none, none, .store 2 (.t 2) (.t 18)⟩,
       ⟨(some 3), none, .mov (.t 21)⟩,
       ⟨(some 4), none, .mov (.v (.i .i64 0))⟩] [2, 3, 4])
    (.ret))
   (.skip)))
  (.seq
  (.draw [0, 0, 0, 6, 0, 0, 62, 127, 255, 511] [
     ⟨(some 22), none, .load true 2 (.t 5)⟩,
     ⟨(some 23), none, .mov (.t 6)⟩,
     ⟨(some 24), none, .mov (.t 7)⟩,
     ⟨(some 25), none, .call fid_p_spec_l14Rd_pick true [.io, .im] [(.t 23), (.t 24)]⟩,
     ⟨(some 26), none, .mov (.t 6)⟩,
     ⟨(some 27), none, .mov (.t 7)⟩,
     ⟨(some 28), none, .call fid_p_spec_l14Rd_pick true [.io, .im] [(.t 26), (.t 27)]⟩,
     ⟨none, none, .store 2 (.t 2) (.t 22)⟩,
     ⟨(some 3), none, .mov (.t 25)⟩,
     ⟨(some 4), none, .mov (.t 28)⟩] [2, 3, 4])
  (.ret))))))
theorem get_spec_l12Two : Go.Proofs.Try.prog.funcs[fid_spec_l12Two]? = some Go.Proofs.Try.f83 := Go.Proofs.Try.func83
theorem ok_spec_l12Two : okFn Go.Proofs.Try.prog Go.Proofs.Try.f83 29 [] [(2, some (true, 2)), (3, none), (4, none)] mc_spec_l12Two = true := by kernel_rfl
def mc_p_spec_l14Rd_pick : MCode :=
 .seq
  (.reg [
     ⟨(some 4), none, .mov (.v (.i .i64 0))⟩] [0, 1])
  (.seq
  (.reg [
     ⟨(some 7), none, .mov (.t 0)⟩,
     ⟨(some 8), none, .mov (.t 0)⟩,
     ⟨(some 9), none, .nilCheck (.t 8)⟩,
     ⟨(some 10), none, .fieldAddr 1 (.t 9)⟩,
     ⟨(some 11), none, .load false 1 (.t 10)⟩,
     ⟨(some 12), none, .bin .add (.t 11) (.v (.i .i64 1))⟩,
     ⟨(some 13), none, .nilCheck (.t 7)⟩,
     ⟨(some 14), none, .fieldAddr 1 (.t 13)⟩,
     ⟨none, none, .store 1 (.t 14) (.t 12)⟩] [0, 1])
  (.seq
  (.seq
   (.reg [
      ⟨(some 15), none, .mov (.t 1)⟩,
      ⟨(some 16), none, .bin .lss (.t 15) (.v (.i .i64 1))⟩,
      ⟨(some 17), none, .mov (.t 16)⟩,
      ⟨(some 18), (some (17, false)), .mov (.t 0)⟩,
      ⟨(some 19), (some (17, false)), .nilCheck (.t 18)⟩,
      ⟨(some 20), (some (17, false)), .fieldAddr 0 (.t 19)⟩,
      ⟨(some 21), (some (17, false)), .load false 1 (.t 20)⟩,
      ⟨(some 22), (some (17, false)), .len (.t 21)⟩,
      ⟨(some 23), (some (17, false)), .bin .eql (.t 22) (.v (.i .i64 0))⟩,
      ⟨(some 24), none, .pick (.t 17) (.v (.b true)) (.t 23)⟩] [0, 1, 24])
   (.cond (.t 24)
   (.seq
    (.reg [
       ⟨(some 4), none, .mov (.v (.i .i64 0))⟩] [0, 4])
    (.ret))
   (.skip)))
  (.seq
  (.reg [
     ⟨(some 25), none, .mov (.t 0)⟩,
     ⟨(some 26), none, .nilCheck (.t 25)⟩,
     ⟨(some 27), none, .fieldAddr 1 (.t 26)⟩,
     ⟨(some 28), none, .load false 1 (.t 27)⟩,
     ⟨(some 29), none, .bin .sub (.t 28) (.v (.i .i64 1))⟩,
     ⟨(some 5), none, .mov (.t 29)⟩] [0, 1, 5])
  (.seq
  (.seq
   (.reg [
      ⟨(some 30), none, .mov (.t 5)⟩,
      ⟨(some 31), none, .mov (.t 0)⟩,
      ⟨(some 32), none, .nilCheck (.t 31)⟩,
      ⟨(some 33), none, .fieldAddr 0 (.t 32)⟩,
      ⟨(some 34), none, .load false 1 (.t 33)⟩,
      ⟨(some 35), none, .len (.t 34)⟩,
      ⟨(some 36), none, .bin .lss (.t 30) (.t 35)⟩] [0, 1, 5, 36])
   (.cond (.t 36)
   (.seq
    (.reg [
       ⟨(some 37), none, .mov (.t 0)⟩,
       ⟨(some 38), none, .nilCheck (.t 37)⟩,
       ⟨(some 39), none, .fieldAddr 0 (.t 38)⟩,
       ⟨(some 40), none, .load false 1 (.t 39)⟩,
       ⟨(some 41), none, .mov (.t 5)⟩,
       ⟨(some 42), none, .indexAddr 1 (.t 40) (.t 41)⟩,
       ⟨(some 43), none, .load false 1 (.t 42)⟩,
       ⟨(some 44), none, .conv .i64 (.t 43)⟩,
       ⟨(some 45), none, .mov (.t 1)⟩,
       ⟨(some 46), none, .bin .rem (.t 44) (.t 45)⟩,
       ⟨(some 4), none, .mov (.t 46)⟩] [0, 4])
    (.ret))
   (.skip)))
  (.seq
  (.draw [0, 1, 3, 7, 0, 0, 32, 96, 224, 480, 1008, 2047, 4095, 8191, 16383, 0, 32768, 98304, 229376, 0, 524288, 1572864, 0, 4194304, 12582912, 29360128, 62914560, 133693440, 268402688, 536838144, 1073709056, 2147450880, 4294967295, 0, 8589934592, 34359738367, 0, 0, 137438953472, 412316860416, 962072674304, 2061584302080, 4329327034368, 8727373545472, 17592186044415, 35184372088831] [
     ⟨(some 47), none, .mov (.t 0)⟩,
     ⟨(some 48), none, .nilCheck (.t 47)⟩,
     ⟨(some 49), none, .fieldAddr 0 (.t 48)⟩,
     ⟨(some 50), none, .load false 1 (.t 49)⟩,
     ⟨(some 51), none, .mov (.t 5)⟩,
     ⟨(some 52), none, .mov (.t 0)⟩,
     ⟨(some 53), none, .nilCheck (.t 52)⟩,
     ⟨(some 54), none, .fieldAddr 0 (.t 53)⟩,
     ⟨(some 55), none, .load false 1 (.t 54)⟩,
     ⟨(some 56), none, .len (.t 55)⟩,
     ⟨(some 57), none, .bin .rem (.t 51) (.t 56)⟩,
     ⟨(some 58), none, .indexAddr 1 (.t 50) (.t 57)⟩,
     ⟨(some 59), none, .load false 1 (.t 58)⟩,
     ⟨(some 60), none, .conv .i64 (.t 59)⟩,
     ⟨(some 61), none, .bin .mul (.t 60) (.v (.i .i64 131))⟩,
     ⟨(some 62), none, .mov (.t 0)⟩,
     ⟨(some 63), none, .nilCheck (.t 62)⟩,
     ⟨(some 64), none, .fieldAddr 0 (.t 63)⟩,
     ⟨(some 65), none, .load false 1 (.t 64)⟩,
     ⟨(some 66), none, .mov (.t 5)⟩,
     ⟨(some 67), none, .bin .mul (.t 66) (.v (.i .i64 7))⟩,
     ⟨(some 68), none, .bin .add (.t 67) (.v (.i .i64 3))⟩,
     ⟨(some 69), none, .mov (.t 0)⟩,
     ⟨(some 70), none, .nilCheck (.t 69)⟩,
     ⟨(some 71), none, .fieldAddr 0 (.t 70)⟩,
     ⟨(some 72), none, .load false 1 (.t 71)⟩,
     ⟨(some 73), none, .len (.t 72)⟩,
     ⟨(some 74), none, .bin .rem (.t 68) (.t 73)⟩,
     ⟨(some 75), none, .indexAddr 1 (.t 65) (.t 74)⟩,
     ⟨(some 76), none, .load false 1 (.t 75)⟩,
     ⟨(some 77), none, .conv .i64 (.t 76)⟩,
     ⟨(some 78), none, .bin .mul (.t 77) (.v (.i .i64 1117))⟩,
     ⟨(some 79), none, .bin .add (.t 61) (.t 78)⟩,
     ⟨(some 80), none, .mov (.t 5)⟩,
     ⟨(some 81), none, .bin .mul (.t 80) (.v (.i .i64 29))⟩,
     ⟨(some 82), none, .bin .add (.t 79) (.t 81)⟩,
     ⟨(some 83), none, .mov (.t 5)⟩,
     ⟨(some 84), none, .mov (.t 0)⟩,
     ⟨(some 85), none, .nilCheck (.t 84)⟩,
     ⟨(some 86), none, .fieldAddr 0 (.t 85)⟩,
     ⟨(some 87), none, .load false 1 (.t 86)⟩,
     ⟨(some 88), none, .len (.t 87)⟩,
     ⟨(some 89), none, .bin .quo (.t 83) (.t 88)⟩,
     ⟨(some 90), none, .bin .mul (.t 89) (.v (.i .i64 53))⟩,
     ⟨(some 91), none, .bin .add (.t 82) (.t 90)⟩,
     ⟨(some 6), none, .mov (.t 91)⟩] [0, 1, 6])
  (.seq
  (.reg [
     ⟨(some 92), none, .mov (.t 6)⟩,
     ⟨(some 93), none, .mov (.t 6)⟩,
     ⟨(some 94), none, .bin .quo (.t 93) (.v (.i .i64 64))⟩,
     ⟨(some 95), none, .bin .xor (.t 92) (.t 94)⟩,
     ⟨(some 6), none, .mov (.t 95)⟩] [0, 1, 6])
  (.seq
  (.reg [
     ⟨(some 96), none, .mov (.t 6)⟩,
     ⟨(some 97), none, .mov (.t 1)⟩,
     ⟨(some 98), none, .bin .rem (.t 96) (.t 97)⟩,
     ⟨(some 4), none, .mov (.t 98)⟩] [0, 4])
  (.ret))))))))
theorem get_p_spec_l14Rd_pick : Go.Proofs.Try.prog.funcs[fid_p_spec_l14Rd_pick]? = some Go.Proofs.Try.f84 := Go.Proofs.Try.func84
theorem ok_p_spec_l14Rd_pick : okFn Go.Proofs.Try.prog Go.Proofs.Try.f84 99 [0] [(4, none)] mc_p_spec_l14Rd_pick = true := by kernel_rfl
def mc_slices_IndexFunc_int_int : MCode :=
 .seq
  (.reg [
     ⟨(some 4), none, .mov (.v (.i .i64 0))⟩] [0, 1])
  (.seq
  (.seq
   (.reg [
      ⟨(some 6), none, .mov (.t 0)⟩,
      ⟨(some 7), none, .len (.t 6)⟩,
      ⟨(some 8), none, .mov (.v (.i .i64 0))⟩] [0, 1, 7, 8])
   (.block 0
   (.loop [0, 1, 7, 8]
    (.seq
     (.reg [
        ⟨(some 9), none, .bin .lss (.t 8) (.t 7)⟩] [0, 1, 7, 8, 9])
     (.seq
     (.cond (.t 9)
      (.skip)
      (.exit 0))
     (.seq
     (.block 1
      (.seq
       (.reg [
          ⟨(some 10), none, .mov (.t 8)⟩,
          ⟨(some 5), none, .mov (.t 10)⟩] [0, 1, 5, 7, 8])
       (.seq
       (.reg [
          ⟨(some 11), none, .mov (.t 1)⟩,
          ⟨(some 12), none, .mov (.t 0)⟩,
          ⟨(some 13), none, .mov (.t 5)⟩,
          ⟨(some 14), none, .indexAddr 1 (.t 12) (.t 13)⟩,
          ⟨(some 15), none, .load false 1 (.t 14)⟩,
          ⟨(some 16), none, .callv (.t 11) [(.t 15)]⟩] [0, 1, 5, 7, 8, 16])
       (.cond (.t 16)
       (.seq
        (.reg [
           ⟨(some 17), none, .mov (.t 5)⟩,
           ⟨(some 4), none, .mov (.t 17)⟩] [4])
        (.ret))
       (.skip)))))
     (.reg [
       ⟨(some 18), none, .bin .add (.t 8) (.v (.i .i64 1))⟩,
       ⟨(some 8), none, .mov (.t 18)⟩] [0, 1, 7, 8])))))))
  (.seq
  (.reg [
     ⟨(some 4), none, .mov (.v (.i .i64 (-1)))⟩] [4])
  (.ret)))
theorem get_slices_IndexFunc_int_int : Go.Proofs.Try.prog.funcs[fid_slices_IndexFunc_int_int]? = some Go.Proofs.Try.f85 := Go.Proofs.Try.func85
theorem ok_slices_IndexFunc_int_int : okFn Go.Proofs.Try.prog Go.Proofs.Try.f85 19 [] [(4, none)] mc_slices_IndexFunc_int_int = true := by kernel_rfl
def mc_impl_EdgeOf : MCode :=
 .seq
  (.reg [
     ⟨(some 4), none, .alloc [.i .i64 0, .i .i64 0]⟩,
     ⟨(some 5), none, .mov (.v (.b false))⟩] [0, 1, 4])
  (.seq
  (.seq
   (.reg [
      ⟨(some 6), none, .mov (.t 0)⟩,
      ⟨(some 7), none, .mov (.t 1)⟩,
      ⟨(some 8), none, .bin .eql (.t 6) (.t 7)⟩,
      ⟨(some 9), none, .mov (.t 8)⟩,
      ⟨(some 10), (some (9, false)), .mov (.t 0)⟩,
      ⟨(some 11), (some (9, false)), .call fid_impl_isNode false [.im] [(.t 10)]⟩,
      ⟨(some 12), (some (9, false)), .un .not (.t 11)⟩,
      ⟨(some 13), none, .pick (.t 9) (.v (.b true)) (.t 12)⟩,
      ⟨(some 14), none, .mov (.t 13)⟩,
      ⟨(some 15), (some (14, false)), .mov (.t 1)⟩,
      ⟨(some 16), (some (14, false)), .call fid_impl_isNode false [.im] [(.t 15)]⟩,
      ⟨(some 17), (some (14, false)), .un .not (.t 16)⟩,
      ⟨(some 18), none, .pick (.t 14) (.v (.b true)) (.t 17)⟩] [0, 1, 4, 18])
   (.cond (.t 18)
   (.seq
    (.reg [
       ⟨(some 19), none, .build [.i .i64 0, .i .i64 0] []⟩,
       ⟨none, none, .store 2 (.t 4) (.t 19)⟩,
       ⟨(some 5), none, .mov (.v (.b false))⟩] [4, 5])
    (.ret))
   (.skip)))
  (.seq
  (.reg [
     ⟨(some 20), none, .mov (.t 0)⟩,
     ⟨(some 21), none, .mov (.t 1)⟩,
     ⟨(some 22), none, .minmax false (.t 20) (.t 21)⟩,
     ⟨(some 23), none, .mov (.t 0)⟩,
     ⟨(some 24), none, .mov (.t 1)⟩,
     ⟨(some 25), none, .minmax true (.t 23) (.t 24)⟩,
     ⟨(some 26), none, .build [.i .i64 0, .i .i64 0] [(0, 1, (.t 22)), (1, 1, (.t 25))]⟩,
     ⟨none, none, .store 2 (.t 4) (.t 26)⟩,
     ⟨(some 5), none, .mov (.v (.b true))⟩] [4, 5])
  (.ret)))
theorem get_impl_EdgeOf : Go.Proofs.Try.prog.funcs[fid_impl_EdgeOf]? = some Go.Proofs.Try.f86 := Go.Proofs.Try.func86
theorem ok_impl_EdgeOf : okFn Go.Proofs.Try.prog Go.Proofs.Try.f86 27 [] [(4, some (true, 2)), (5, none)] mc_impl_EdgeOf = true := by kernel_rfl
def mc_slices_Index_int_int : MCode :=
 .seq
  (.reg [
     ⟨(some 4), none, .mov (.v (.i .i64 0))⟩] [0, 1])
  (.seq
  (.seq
   (.reg [
      ⟨(some 6), none, .mov (.t 0)⟩,
      ⟨(some 7), none, .len (.t 6)⟩,
      ⟨(some 8), none, .mov (.v (.i .i64 0))⟩] [0, 1, 7, 8])
   (.block 0
   (.loop [0, 1, 7, 8]
    (.seq
     (.reg [
        ⟨(some 9), none, .bin .lss (.t 8) (.t 7)⟩] [0, 1, 7, 8, 9])
     (.seq
     (.cond (.t 9)
      (.skip)
      (.exit 0))
     (.seq
     (.block 1
      (.seq
       (.reg [
          ⟨(some 10), none, .mov (.t 8)⟩,
          ⟨(some 5), none, .mov (.t 10)⟩] [0, 1, 5, 7, 8])
       (.seq
       (.reg [
          ⟨(some 11), none, .mov (.t 1)⟩,
          ⟨(some 12), none, .mov (.t 0)⟩,
          ⟨(some 13), none, .mov (.t 5)⟩,
          ⟨(some 14), none, .indexAddr 1 (.t 12) (.t 13)⟩,
          ⟨(some 15), none, .load false 1 (.t 14)⟩,
          ⟨(some 16), none, .bin .eql (.t 11) (.t 15)⟩] [0, 1, 5, 7, 8, 16])
       (.cond (.t 16)
       (.seq
        (.reg [
           ⟨(some 17), none, .mov (.t 5)⟩,
           ⟨(some 4), none, .mov (.t 17)⟩] [4])
        (.ret))
       (.skip)))))
     (.reg [
       ⟨(some 18), none, .bin .add (.t 8) (.v (.i .i64 1))⟩,
       ⟨(some 8), none, .mov (.t 18)⟩] [0, 1, 7, 8])))))))
  (.seq
  (.reg [
     ⟨(some 4), none, .mov (.v (.i .i64 (-1)))⟩] [4])
  (.ret)))
theorem get_slices_Index_int_int : Go.Proofs.Try.prog.funcs[fid_slices_Index_int_int]? = some Go.Proofs.Try.f87 := Go.Proofs.Try.func87
theorem ok_slices_Index_int_int : okFn Go.Proofs.Try.prog Go.Proofs.Try.f87 19 [] [(4, none)] mc_slices_Index_int_int = true := by kernel_rfl
def mc_slices_Clone_int_int : MCode :=
 .seq
  (.reg [
     ⟨(some 2), none, .mov (.v (.nl 1))⟩] [0])
  (.seq
  (.seq
   (.reg [
      ⟨(some 3), none, .mov (.t 0)⟩,
      ⟨(some 4), none, .nilq false (.t 3)⟩] [0, 4])
   (.cond (.t 4)
   (.seq
    (.reg [
       ⟨(some 2), none, .mov (.v (.nl 1))⟩] [2])
    (.ret))
   (.skip)))
  (.seq
  (.reg [
     ⟨(some 5), none, .buildSlice 1 []⟩,
     ⟨(some 6), none, .mov (.t 0)⟩,
     ⟨(some 7), none, .append 1 8 false (.t 5) (.t 6)⟩,
     ⟨(some 2), none, .mov (.t 7)⟩] [2])
  (.ret)))
theorem get_slices_Clone_int_int : Go.Proofs.Try.prog.funcs[fid_slices_Clone_int_int]? = some Go.Proofs.Try.f88 := Go.Proofs.Try.func88
theorem ok_slices_Clone_int_int : okFn Go.Proofs.Try.prog Go.Proofs.Try.f88 8 [] [(2, none)] mc_slices_Clone_int_int = true := by kernel_rfl
def mc_spec_GraphValid : MCode :=
 .seq
  (.reg [
     ⟨(some 1), none, .box 2 (.t 0)⟩,
     ⟨(some 2), none, .mov (.v (.b false))⟩] [1])
  (.seq
  (.seq
   (.reg [
      ⟨(some 5), none, .fieldAddr 0 (.t 1)⟩,
      ⟨(some 6), none, .load false 1 (.t 5)⟩,
      ⟨(some 7), none, .bin .lss (.t 6) (.v (.i .i64 1))⟩,
      ⟨(some 8), none, .mov (.t 7)⟩,
      ⟨(some 9), (some (8, false)), .fieldAddr 0 (.t 1)⟩,
      ⟨(some 10), (some (8, false)), .load false 1 (.t 9)⟩,
      ⟨(some 11), (some (8, false)), .bin .gtr (.t 10) (.v (.i .i64 16))⟩,
      ⟨(some 12), none, .pick (.t 8) (.v (.b true)) (.t 11)⟩,
      ⟨(some 13), none, .mov (.t 12)⟩,
      ⟨(some 14), (some (13, false)), .fieldAddr 1 (.t 1)⟩,
      ⟨(some 15), (some (13, false)), .load false 1 (.t 14)⟩,
      ⟨(some 16), (some (13, false)), .len (.t 15)⟩,
      ⟨(some 17), (some (13, false)), .bin .gtr (.t 16) (.v (.i .i64 40))⟩,
      ⟨(some 18), none, .pick (.t 13) (.v (.b true)) (.t 17)⟩] [1, 18])
   (.cond (.t 18)
   (.seq
    (.reg [
       ⟨(some 2), none, .mov (.v (.b false))⟩] [2])
    (.ret))
   (.skip)))
  (.seq
  (.seq
   (.reg [
      ⟨(some 3), none, .mov (.v (.i .i64 0))⟩] [1, 3])
   (.block 0
   (.loop [1, 3]
    (.seq
     (.seq
      (.reg [
         ⟨(some 19), none, .mov (.t 3)⟩,
         ⟨(some 20), none, .fieldAddr 1 (.t 1)⟩,
         ⟨(some 21), none, .load false 1 (.t 20)⟩,
         ⟨(some 22), none, .len (.t 21)⟩,
         ⟨(some 23), none, .bin .lss (.t 19) (.t 22)⟩] [1, 3, 23])
      (.cond (.t 23)
      (.skip)
      (.exit 0)))
     (.seq
     (.block 1
      (.seq
       (.reg [
          ⟨(some 26), none, .fieldAddr 1 (.t 1)⟩,
          ⟨(some 27), none, .load false 1 (.t 26)⟩,
          ⟨(some 28), none, .mov (.t 3)⟩,
          ⟨(some 29), none, .indexAddr 2 (.t 27) (.t 28)⟩,
          ⟨(some 30), none, .load true 2 (.t 29)⟩,
          ⟨(some 4), none, .alloc [.i .i64 0, .i .i64 0]⟩,
          ⟨none, none, .store 2 (.t 4) (.t 30)⟩] [1, 3, 4])
       (.seq
       (.draw [0, 1, 3, 7, 15, 31, 15, 79, 255, 511, 1023, 2047, 4095, 2047, 10239, 32767, 65535, 131071, 262143, 524287, 1048575, 2097151, 4194303, 2097151, 10485759, 33554431, 67108863, 2097151, 268435455, 536870911, 1073741823, 2147483647] [
          ⟨(some 31), none, .fieldAddr 0 (.t 4)⟩,
          ⟨(some 32), none, .load false 1 (.t 31)⟩,
          ⟨(some 33), none, .bin .lss (.t 32) (.v (.i .i64 0))⟩,
          ⟨(some 34), none, .mov (.t 33)⟩,
          ⟨(some 35), (some (34, false)), .fieldAddr 0 (.t 4)⟩,
          ⟨(some 36), (some (34, false)), .load false 1 (.t 35)⟩,
          ⟨(some 37), (some (34, false)), .fieldAddr 1 (.t 4)⟩,
          ⟨(some 38), (some (34, false)), .load false 1 (.t 37)⟩,
          ⟨(some 39), (some (34, false)), .bin .geq (.t 36) (.t 38)⟩,
          ⟨(some 40), none, .pick (.t 34) (.v (.b true)) (.t 39)⟩,
          ⟨(some 41), none, .mov (.t 40)⟩,
          ⟨(some 42), (some (41, false)), .fieldAddr 1 (.t 4)⟩,
          ⟨(some 43), (some (41, false)), .load false 1 (.t 42)⟩,
          ⟨(some 44), (some (41, false)), .fieldAddr 0 (.t 1)⟩,
          ⟨(some 45), (some (41, false)), .load false 1 (.t 44)⟩,
          ⟨(some 46), (some (41, false)), .bin .geq (.t 43) (.t 45)⟩,
          ⟨(some 47), none, .pick (.t 41) (.v (.b true)) (.t 46)⟩,
          ⟨(some 48), none, .mov (.t 47)⟩,
          ⟨(some 49), (some (48, false)), .mov (.t 3)⟩,
          ⟨(some 50), (some (48, false)), .bin .gtr (.t 49) (.v (.i .i64 0))⟩,
          ⟨(some 51), (some (48, false)), .mov (.t 50)⟩,
          ⟨(some 52), (some (51, true)), .fieldAddr 1 (.t 1)⟩,
          ⟨(some 53), (some (51, true)), .load false 1 (.t 52)⟩,
          ⟨(some 54), (some (51, true)), .mov (.t 3)⟩,
          ⟨(some 55), (some (51, true)), .bin .sub (.t 54) (.v (.i .i64 1))⟩,
          ⟨(some 56), (some (51, true)), .indexAddr 2 (.t 53) (.t 55)⟩,
          ⟨(some 57), (some (51, true)), .load true 2 (.t 56)⟩,
          ⟨(some 58), (some (51, true)), .load true 2 (.t 4)⟩,
          ⟨(some 59), (some (51, true)), .call fid_spec_l1Less false [.im, .im] [(.t 57), (.t 58)]⟩,
          ⟨(some 60), (some (51, true)), .un .not (.t 59)⟩,
          ⟨(some 61), (some (48, false)), .pick (.t 51) (.t 60) (.v (.b false))⟩,
          ⟨(some 62), none, .pick (.t 48) (.v (.b true)) (.t 61)⟩] [1, 3, 62])
       (.cond (.t 62)
       (.seq
        (.reg [
           ⟨(some 2), none, .mov (.v (.b false))⟩] [2])
        (.ret))
       (.skip)))))
     (.reg [
       ⟨(some 24), none, .mov (.t 3)⟩,
       ⟨(some 25), none, .bin .add (.t 24) (.v (.i .i64 1))⟩,
       ⟨(some 3), none, .mov (.t 25)⟩] [1, 3]))))))
  (.seq
  (.reg [
     ⟨(some 2), none, .mov (.v (.b true))⟩] [2])
  (.ret))))
theorem get_spec_GraphValid : Go.Proofs.Try.prog.funcs[fid_spec_GraphValid]? = some Go.Proofs.Try.f89 := Go.Proofs.Try.func89
theorem ok_spec_GraphValid : okFn Go.Proofs.Try.prog Go.Proofs.Try.f89 63 [] [(2, none)] mc_spec_GraphValid = true := by kernel_rfl
def mc_spec_l2Labels : MCode :=
 .seq
  (.reg [
     ⟨(some 1), none, .box 2 (.t 0)⟩,
     ⟨(some 2), none, .mov (.v (.nl 1))⟩] [1])
  (.seq
  (.reg [
     ⟨(some 9), none, .buildSlice 1 []⟩,
     ⟨(some 3), none, .mov (.t 9)⟩] [1, 3])
  (.seq
  (.seq
   (.reg [
      ⟨(some 4), none, .mov (.v (.i .i64 0))⟩] [1, 3, 4])
   (.block 0
   (.loop [1, 3, 4]
    (.seq
     (.seq
      (.reg [
         ⟨(some 10), none, .mov (.t 4)⟩,
         ⟨(some 11), none, .fieldAddr 0 (.t 1)⟩,
         ⟨(some 12), none, .load false 1 (.t 11)⟩,
         ⟨(some 13), none, .bin .lss (.t 10) (.t 12)⟩] [1, 3, 4, 13])
      (.cond (.t 13)
      (.skip)
      (.exit 0)))
     (.seq
     (.block 1
      (.reg [
         ⟨(some 16), none, .mov (.t 3)⟩,
         ⟨(some 17), none, .mov (.t 4)⟩,
         ⟨(some 18), none, .buildSlice 1 [(.t 17)]⟩,
         ⟨(some 19), none, .append 1 8 true (.t 16) (.t 18)⟩,
         ⟨(some 3), none, .mov (.t 19)⟩] [1, 3, 4]))
     (.reg [
       ⟨(some 14), none, .mov (.t 4)⟩,
       ⟨(some 15), none, .bin .add (.t 14) (.v (.i .i64 1))⟩,
       ⟨(some 4), none, .mov (.t 15)⟩] [1, 3, 4]))))))
  (.seq
  (.seq
   (.reg [
      ⟨(some 5), none, .mov (.v (.b true))⟩] [1, 3, 5])
   (.block 2
   (.loop [1, 3, 5]
    (.seq
     (.seq
      (.reg [
         ⟨(some 20), none, .mov (.t 5)⟩] [1, 3, 20])
      (.cond (.t 20)
      (.skip)
      (.exit 2)))
     (.block 3
     (.seq
      (.reg [
         ⟨(some 5), none, .mov (.v (.b false))⟩] [1, 3, 5])
      (.seq
      (.reg [
         ⟨(some 6), none, .mov (.v (.i .i64 0))⟩] [1, 3, 5, 6])
      (.block 4
      (.loop [1, 3, 5, 6]
       (.seq
        (.seq
         (.reg [
            ⟨(some 21), none, .mov (.t 6)⟩,
            ⟨(some 22), none, .fieldAddr 1 (.t 1)⟩,
            ⟨(some 23), none, .load false 1 (.t 22)⟩,
            ⟨(some 24), none, .len (.t 23)⟩,
            ⟨(some 25), none, .bin .lss (.t 21) (.t 24)⟩] [1, 3, 5, 6, 25])
         (.cond (.t 25)
         (.skip)
         (.exit 4)))
        (.seq
        (.block 5
         (.seq
          (.reg [
             ⟨(some 28), none, .mov (.t 3)⟩,
             ⟨(some 29), none, .fieldAddr 1 (.t 1)⟩,
             ⟨(some 30), none, .load false 1 (.t 29)⟩,
             ⟨(some 31), none, .mov (.t 6)⟩,
             ⟨(some 32), none, .indexAddr 2 (.t 30) (.t 31)⟩,
             ⟨(some 33), none, .fieldAddr 0 (.t 32)⟩,
             ⟨(some 34), none, .load false 1 (.t 33)⟩,
             ⟨(some 35), none, .indexAddr 1 (.t 28) (.t 34)⟩,
             ⟨(some 36), none, .load false 1 (.t 35)⟩,
             ⟨(some 7), none, .mov (.t 36)⟩] [1, 3, 5, 6, 7])
          (.seq
          (.reg [
             ⟨(some 37), none, .mov (.t 3)⟩,
             ⟨(some 38), none, .fieldAddr 1 (.t 1)⟩,
             ⟨(some 39), none, .load false 1 (.t 38)⟩,
             ⟨(some 40), none, .mov (.t 6)⟩,
             ⟨(some 41), none, .indexAddr 2 (.t 39) (.t 40)⟩,
             ⟨(some 42), none, .fieldAddr 1 (.t 41)⟩,
             ⟨(some 43), none, .load false 1 (.t 42)⟩,
             ⟨(some 44), none, .indexAddr 1 (.t 37) (.t 43)⟩,
             ⟨(some 45), none, .load false 1 (.t 44)⟩,
             ⟨(some 8), none, .mov (.t 45)⟩] [1, 3, 5, 6, 7, 8])
          (.seq
          (.seq
           (.reg [
              ⟨(some 46), none, .mov (.t 7)⟩,
              ⟨(some 47), none, .mov (.t 8)⟩,
              ⟨(some 48), none, .bin .lss (.t 46) (.t 47)⟩] [1, 3, 5, 6, 7, 8, 48])
           (.cond (.t 48)
           (.seq
            (.reg [
               ⟨(some 49), none, .mov (.t 3)⟩,
               ⟨(some 50), none, .fieldAddr 1 (.t 1)⟩,
               ⟨(some 51), none, .load false 1 (.t 50)⟩,
               ⟨(some 52), none, .mov (.t 6)⟩,
               ⟨(some 53), none, .indexAddr 2 (.t 51) (.t 52)⟩,
               ⟨(some 54), none, .fieldAddr 1 (.t 53)⟩,
               ⟨(some 55), none, .load false 1 (.t 54)⟩,
               ⟨(some 56), none, .mov (.t 7)⟩,
               ⟨(some 57), none, .indexAddr 1 (.t 49) (.t 55)⟩,
               ⟨none, none, .store 1 (.t 57) (.t 56)⟩] [1, 3, 6, 7, 8])
            (.reg [
              ⟨(some 5), none, .mov (.v (.b true))⟩] [1, 3, 5, 6, 7, 8]))
           (.skip)))
          (.seq
          (.reg [
             ⟨(some 58), none, .mov (.t 8)⟩,
             ⟨(some 59), none, .mov (.t 7)⟩,
             ⟨(some 60), none, .bin .lss (.t 58) (.t 59)⟩] [1, 3, 5, 6, 8, 60])
          (.cond (.t 60)
          (.seq
           (.reg [
              ⟨(some 61), none, .mov (.t 3)⟩,
              ⟨(some 62), none, .fieldAddr 1 (.t 1)⟩,
              ⟨(some 63), none, .load false 1 (.t 62)⟩,
              ⟨(some 64), none, .mov (.t 6)⟩,
              ⟨(some 65), none, .indexAddr 2 (.t 63) (.t 64)⟩,
              ⟨(some 66), none, .fieldAddr 0 (.t 65)⟩,
              ⟨(some 67), none, .load false 1 (.t 66)⟩,
              ⟨(some 68), none, .mov (.t 8)⟩,
              ⟨(some 69), none, .indexAddr 1 (.t 61) (.t 67)⟩,
              ⟨none, none, .store 1 (.t 69) (.t 68)⟩] [1, 3, 6])
           (.reg [
             ⟨(some 5), none, .mov (.v (.b true))⟩] [1, 3, 5, 6]))
          (.skip)))))))
        (.reg [
          ⟨(some 26), none, .mov (.t 6)⟩,
          ⟨(some 27), none, .bin .add (.t 26) (.v (.i .i64 1))⟩,
          ⟨(some 6), none, .mov (.t 27)⟩] [1, 3, 5, 6]))))))))))))
  (.seq
  (.reg [
     ⟨(some 70), none, .mov (.t 3)⟩,
     ⟨(some 2), none, .mov (.t 70)⟩] [2])
  (.ret)))))
theorem get_spec_l2Labels : Go.Proofs.Try.prog.funcs[fid_spec_l2Labels]? = some Go.Proofs.Try.f90 := Go.Proofs.Try.func90
theorem ok_spec_l2Labels : okFn Go.Proofs.Try.prog Go.Proofs.Try.f90 71 [] [(2, none)] mc_spec_l2Labels = true := by kernel_rfl
def mc_laws_toEdge : MCode :=
 .seq
  (.reg [
     ⟨(some 1), none, .box 2 (.t 0)⟩,
     ⟨(some 2), none, .alloc [.i .i64 0, .i .i64 0]⟩] [1, 2])
  (.seq
  (.reg [
     ⟨(some 3), none, .alloc [.i .i64 0, .i .i64 0]⟩] [1, 2, 3])
  (.seq
  (.reg [
     ⟨(some 4), none, .fieldAddr 0 (.t 1)⟩,
     ⟨(some 5), none, .load false 1 (.t 4)⟩,
     ⟨(some 6), none, .fieldAddr 0 (.t 3)⟩,
     ⟨none, none, .store 1 (.t 6) (.t 5)⟩] [1, 2, 3])
  (.seq
  (.reg [
     ⟨(some 7), none, .fieldAddr 1 (.t 1)⟩,
     ⟨(some 8), none, .load false 1 (.t 7)⟩,
     ⟨(some 9), none, .fieldAddr 1 (.t 3)⟩,
     ⟨none, none, .store 1 (.t 9) (.t 8)⟩] [2, 3])
  (.seq
  (.reg [
     ⟨(some 10), none, .load true 2 (.t 3)⟩,
     ⟨none, none, .store 2 (.t 2) (.t 10)⟩] [2])
  (.ret)))))
theorem get_laws_toEdge : Go.Proofs.Try.prog.funcs[fid_laws_toEdge]? = some Go.Proofs.Try.f91 := Go.Proofs.Try.func91
theorem ok_laws_toEdge : okFn Go.Proofs.Try.prog Go.Proofs.Try.f91 11 [] [(2, some (true, 2))] mc_laws_toEdge = true := by kernel_rfl
def mc_impl_GraphValid : MCode :=
 .seq
  (.reg [
     ⟨(some 1), none, .box 2 (.t 0)⟩,
     ⟨(some 2), none, .mov (.v (.b false))⟩] [1])
  (.seq
  (.seq
   (.reg [
      ⟨(some 5), none, .fieldAddr 0 (.t 1)⟩,
      ⟨(some 6), none, .load false 1 (.t 5)⟩,
      ⟨(some 7), none, .bin .lss (.t 6) (.v (.i .i64 1))⟩,
      ⟨(some 8), none, .mov (.t 7)⟩,
      ⟨(some 9), (some (8, false)), .fieldAddr 0 (.t 1)⟩,
      ⟨(some 10), (some (8, false)), .load false 1 (.t 9)⟩,
      ⟨(some 11), (some (8, false)), .bin .gtr (.t 10) (.v (.i .i64 16))⟩,
      ⟨(some 12), none, .pick (.t 8) (.v (.b true)) (.t 11)⟩,
      ⟨(some 13), none, .mov (.t 12)⟩,
      ⟨(some 14), (some (13, false)), .fieldAddr 1 (.t 1)⟩,
      ⟨(some 15), (some (13, false)), .load false 1 (.t 14)⟩,
      ⟨(some 16), (some (13, false)), .len (.t 15)⟩,
      ⟨(some 17), (some (13, false)), .bin .gtr (.t 16) (.v (.i .i64 40))⟩,
      ⟨(some 18), none, .pick (.t 13) (.v (.b true)) (.t 17)⟩] [1, 18])
   (.cond (.t 18)
   (.seq
    (.reg [
       ⟨(some 2), none, .mov (.v (.b false))⟩] [2])
    (.ret))
   (.skip)))
  (.seq
  (.seq
   (.reg [
      ⟨(some 19), none, .fieldAddr 1 (.t 1)⟩,
      ⟨(some 20), none, .load false 1 (.t 19)⟩,
      ⟨(some 21), none, .len (.t 20)⟩,
      ⟨(some 22), none, .mov (.v (.i .i64 0))⟩] [1, 20, 21, 22])
   (.block 0
   (.loop [1, 20, 21, 22]
    (.seq
     (.reg [
        ⟨(some 23), none, .bin .lss (.t 22) (.t 21)⟩] [1, 20, 21, 22, 23])
     (.seq
     (.cond (.t 23)
      (.skip)
      (.exit 0))
     (.seq
     (.block 1
      (.seq
       (.reg [
          ⟨(some 24), none, .mov (.t 22)⟩,
          ⟨(some 25), none, .indexAddr 2 (.t 20) (.t 22)⟩,
          ⟨(some 26), none, .load true 2 (.t 25)⟩,
          ⟨(some 4), none, .alloc [.i .i64 0, .i .i64 0]⟩,
          ⟨(some 3), none, .mov (.t 24)⟩,
          ⟨none, none, .store 2 (.t 4) (.t 26)⟩] [1, 3, 4, 20, 21, 22])
       (.seq
       (.draw [0, 1, 3, 7, 15, 31, 15, 79, 255, 511, 1023, 2047, 4095, 2047, 10239, 32767, 65535, 131071, 262143, 524287, 1048575, 2097151, 4194303, 2097151, 10485759, 33554431, 67108863, 2097151, 268435455, 536870911, 1073741823, 2147483647] [
          ⟨(some 27), none, .fieldAddr 0 (.t 4)⟩,
          ⟨(some 28), none, .load false 1 (.t 27)⟩,
          ⟨(some 29), none, .bin .lss (.t 28) (.v (.i .i64 0))⟩,
          ⟨(some 30), none, .mov (.t 29)⟩,
          ⟨(some 31), (some (30, false)), .fieldAddr 0 (.t 4)⟩,
          ⟨(some 32), (some (30, false)), .load false 1 (.t 31)⟩,
          ⟨(some 33), (some (30, false)), .fieldAddr 1 (.t 4)⟩,
          ⟨(some 34), (some (30, false)), .load false 1 (.t 33)⟩,
          ⟨(some 35), (some (30, false)), .bin .geq (.t 32) (.t 34)⟩,
          ⟨(some 36), none, .pick (.t 30) (.v (.b true)) (.t 35)⟩,
          ⟨(some 37), none, .mov (.t 36)⟩,
          ⟨(some 38), (some (37, false)), .fieldAddr 1 (.t 4)⟩,
          ⟨(some 39), (some (37, false)), .load false 1 (.t 38)⟩,
          ⟨(some 40), (some (37, false)), .fieldAddr 0 (.t 1)⟩,
          ⟨(some 41), (some (37, false)), .load false 1 (.t 40)⟩,
          ⟨(some 42), (some (37, false)), .bin .geq (.t 39) (.t 41)⟩,
          ⟨(some 43), none, .pick (.t 37) (.v (.b true)) (.t 42)⟩,
          ⟨(some 44), none, .mov (.t 43)⟩,
          ⟨(some 45), (some (44, false)), .mov (.t 3)⟩,
          ⟨(some 46), (some (44, false)), .bin .gtr (.t 45) (.v (.i .i64 0))⟩,
          ⟨(some 47), (some (44, false)), .mov (.t 46)⟩,
          ⟨(some 48), (some (47, true)), .fieldAddr 1 (.t 1)⟩,
          ⟨(some 49), (some (47, true)), .load false 1 (.t 48)⟩,
          ⟨(some 50), (some (47, true)), .mov (.t 3)⟩,
          ⟨(some 51), (some (47, true)), .bin .sub (.t 50) (.v (.i .i64 1))⟩,
          ⟨(some 52), (some (47, true)), .indexAddr 2 (.t 49) (.t 51)⟩,
          ⟨(some 53), (some (47, true)), .load true 2 (.t 52)⟩,
          ⟨(some 54), (some (47, true)), .load true 2 (.t 4)⟩,
          ⟨(some 55), (some (47, true)), .call fid_impl_compareEdges false [.im, .im] [(.t 53), (.t 54)]⟩,
          ⟨(some 56), (some (47, true)), .bin .geq (.t 55) (.v (.i .i64 0))⟩,
          ⟨(some 57), (some (44, false)), .pick (.t 47) (.t 56) (.v (.b false))⟩,
          ⟨(some 58), none, .pick (.t 44) (.v (.b true)) (.t 57)⟩] [1, 20, 21, 22, 58])
       (.cond (.t 58)
       (.seq
        (.reg [
           ⟨(some 2), none, .mov (.v (.b false))⟩] [2])
        (.ret))
       (.skip)))))
     (.reg [
       ⟨(some 59), none, .bin .add (.t 22) (.v (.i .i64 1))⟩,
       ⟨(some 22), none, .mov (.t 59)⟩] [1, 20, 21, 22])))))))
  (.seq
  (.reg [
     ⟨(some 2), none, .mov (.v (.b true))⟩] [2])
  (.ret))))
theorem get_impl_GraphValid : Go.Proofs.Try.prog.funcs[fid_impl_GraphValid]? = some Go.Proofs.Try.f92 := Go.Proofs.Try.func92
theorem ok_impl_GraphValid : okFn Go.Proofs.Try.prog Go.Proofs.Try.f92 60 [] [(2, none)] mc_impl_GraphValid = true := by kernel_rfl
def mc_impl_Graph_parts : MCode :=
 .seq
  (.reg [
     ⟨(some 1), none, .box 2 (.t 0)⟩,
     ⟨(some 2), none, .mov (.v (.nl 1))⟩] [1])
  (.seq
  (.reg [
     ⟨(some 8), none, .buildSlice 1 []⟩,
     ⟨(some 3), none, .mov (.t 8)⟩] [1, 3])
  (.seq
  (.seq
   (.reg [
      ⟨(some 9), none, .fieldAddr 0 (.t 1)⟩,
      ⟨(some 10), none, .load false 1 (.t 9)⟩,
      ⟨(some 11), none, .mov (.v (.i .i64 0))⟩] [1, 3, 10, 11])
   (.block 0
   (.loop [1, 3, 10, 11]
    (.seq
     (.reg [
        ⟨(some 12), none, .bin .lss (.t 11) (.t 10)⟩] [1, 3, 10, 11, 12])
     (.seq
     (.cond (.t 12)
      (.skip)
      (.exit 0))
     (.seq
     (.block 1
      (.seq
       (.reg [
          ⟨(some 13), none, .mov (.t 11)⟩,
          ⟨(some 4), none, .mov (.t 13)⟩] [1, 3, 4, 10, 11])
       (.reg [
         ⟨(some 14), none, .mov (.t 3)⟩,
         ⟨(some 15), none, .mov (.t 4)⟩,
         ⟨(some 16), none, .buildSlice 1 [(.t 15)]⟩,
         ⟨(some 17), none, .append 1 8 true (.t 14) (.t 16)⟩,
         ⟨(some 3), none, .mov (.t 17)⟩] [1, 3, 10, 11])))
     (.reg [
       ⟨(some 18), none, .bin .add (.t 11) (.v (.i .i64 1))⟩,
       ⟨(some 11), none, .mov (.t 18)⟩] [1, 3, 10, 11])))))))
  (.seq
  (.seq
   (.reg [
      ⟨(some 19), none, .fieldAddr 0 (.t 1)⟩,
      ⟨(some 20), none, .load false 1 (.t 19)⟩,
      ⟨(some 21), none, .mov (.v (.i .i64 0))⟩] [1, 3, 20, 21])
   (.block 2
   (.loop [1, 3, 20, 21]
    (.seq
     (.reg [
        ⟨(some 22), none, .bin .lss (.t 21) (.t 20)⟩] [1, 3, 20, 21, 22])
     (.seq
     (.cond (.t 22)
      (.skip)
      (.exit 2))
     (.seq
     (.block 3
      (.seq
       (.reg [
          ⟨(some 23), none, .fieldAddr 1 (.t 1)⟩,
          ⟨(some 24), none, .load false 1 (.t 23)⟩,
          ⟨(some 25), none, .len (.t 24)⟩,
          ⟨(some 26), none, .mov (.v (.i .i64 0))⟩] [1, 3, 20, 21, 24, 25, 26])
       (.block 4
       (.loop [1, 3, 20, 21, 24, 25, 26]
        (.seq
         (.reg [
            ⟨(some 27), none, .bin .lss (.t 26) (.t 25)⟩] [1, 3, 20, 21, 24, 25, 26, 27])
         (.seq
         (.cond (.t 27)
          (.skip)
          (.exit 4))
         (.seq
         (.block 5
          (.seq
           (.reg [
              ⟨(some 28), none, .indexAddr 2 (.t 24) (.t 26)⟩,
              ⟨(some 29), none, .load true 2 (.t 28)⟩,
              ⟨(some 6), none, .alloc [.i .i64 0, .i .i64 0]⟩,
              ⟨none, none, .store 2 (.t 6) (.t 29)⟩] [1, 3, 6, 20, 21, 24, 25, 26])
           (.seq
           (.draw [0, 0, 2, 7, 15, 0, 0, 64, 224, 480, 1023, 2047] [
              ⟨(some 30), none, .mov (.t 3)⟩,
              ⟨(some 31), none, .fieldAddr 0 (.t 6)⟩,
              ⟨(some 32), none, .load false 1 (.t 31)⟩,
              ⟨(some 33), none, .indexAddr 1 (.t 30) (.t 32)⟩,
              ⟨(some 34), none, .load false 1 (.t 33)⟩,
              ⟨(some 35), none, .mov (.t 3)⟩,
              ⟨(some 36), none, .fieldAddr 1 (.t 6)⟩,
              ⟨(some 37), none, .load false 1 (.t 36)⟩,
              ⟨(some 38), none, .indexAddr 1 (.t 35) (.t 37)⟩,
              ⟨(some 39), none, .load false 1 (.t 38)⟩,
              ⟨(some 40), none, .minmax false (.t 34) (.t 39)⟩,
              ⟨(some 7), none, .mov (.t 40)⟩] [1, 3, 6, 7, 20, 21, 24, 25, 26])
           (.draw [0, 0, 2, 0, 0, 16, 0, 0, 71, 327, 1023, 2047] [
             ⟨(some 41), none, .mov (.t 3)⟩,
             ⟨(some 42), none, .fieldAddr 0 (.t 6)⟩,
             ⟨(some 43), none, .load false 1 (.t 42)⟩,
             ⟨(some 44), none, .mov (.t 3)⟩,
             ⟨(some 45), none, .fieldAddr 1 (.t 6)⟩,
             ⟨(some 46), none, .load false 1 (.t 45)⟩,
             ⟨(some 47), none, .mov (.t 7)⟩,
             ⟨(some 48), none, .mov (.t 7)⟩,
             ⟨(some 49), none, .indexAddr 1 (.t 41) (.t 43)⟩,
             ⟨none, none, .store 1 (.t 49) (.t 47)⟩,
             ⟨(some 50), none, .indexAddr 1 (.t 44) (.t 46)⟩,
             ⟨none, none, .store 1 (.t 50) (.t 48)⟩] [1, 3, 20, 21, 24, 25, 26]))))
         (.reg [
           ⟨(some 51), none, .bin .add (.t 26) (.v (.i .i64 1))⟩,
           ⟨(some 26), none, .mov (.t 51)⟩] [1, 3, 20, 21, 24, 25, 26]))))))))
     (.reg [
       ⟨(some 52), none, .bin .add (.t 21) (.v (.i .i64 1))⟩,
       ⟨(some 21), none, .mov (.t 52)⟩] [1, 3, 20, 21])))))))
  (.seq
  (.reg [
     ⟨(some 53), none, .mov (.t 3)⟩,
     ⟨(some 2), none, .mov (.t 53)⟩] [2])
  (.ret)))))
theorem get_impl_Graph_parts : Go.Proofs.Try.prog.funcs[fid_impl_Graph_parts]? = some Go.Proofs.Try.f93 := Go.Proofs.Try.func93
theorem ok_impl_Graph_parts : okFn Go.Proofs.Try.prog Go.Proofs.Try.f93 54 [] [(2, none)] mc_impl_Graph_parts = true := by kernel_rfl
def mc_spec_l12Draw : MCode :=
 .seq
  (.reg [
     ⟨(some 2), none, .alloc [.nl 1, .nl 1]⟩] [0, 2])
  (.seq
  (.reg [
     ⟨(some 7), none, .mov (.t 0)⟩,
     ⟨(some 8), none, .call fid_spec_l14Open true [.im] [(.t 7)]⟩,
     ⟨(some 3), none, .mov (.t 8)⟩] [2, 3])
  (.seq
  (.reg [
     ⟨(some 9), none, .mov (.t 3)⟩,
     ⟨(some 10), none, .buildSlice 1 [(.v (.i .i64 6)), (.v (.i .i64 5)), (.v (.i .i64 8)), (.v (.i .i64 4)), (.v (.i .i64 3)), (.v (.i .i64 10)), (.v (.i .i64 1))]⟩,
     ⟨(some 11), none, .call fid_p_spec_l14Rd_num true [.io, .im] [(.t 9), (.t 10)]⟩,
     ⟨(some 4), none, .mov (.t 11)⟩] [2, 3, 4])
  (.seq
  (.reg [
     ⟨(some 12), none, .build [.nl 1, .nl 1] []⟩,
     ⟨(some 5), none, .alloc [.nl 1, .nl 1]⟩,
     ⟨none, none, .store 2 (.t 5) (.t 12)⟩] [2, 3, 4, 5])
  (.seq
  (.seq
   (.reg [
      ⟨(some 6), none, .mov (.v (.i .i64 0))⟩] [2, 3, 4, 5, 6])
   (.block 0
   (.loop [2, 3, 4, 5, 6]
    (.seq
     (.seq
      (.reg [
         ⟨(some 13), none, .mov (.t 6)⟩,
         ⟨(some 14), none, .mov (.t 4)⟩,
         ⟨(some 15), none, .bin .lss (.t 13) (.t 14)⟩] [2, 3, 4, 5, 6, 15])
      (.cond (.t 15)
      (.skip)
      (.exit 0)))
     (.seq
     (.block 1
      (.seq
       (.reg [
          ⟨(some 18), none, .fieldAddr 0 (.t 5)⟩,
          ⟨(some 19), none, .load false 1 (.t 18)⟩,
          ⟨(some 20), none, .buildSlice 1 [(.v (.i .i64 (-1)))]⟩,
          ⟨(some 21), none, .append 1 8 true (.t 19) (.t 20)⟩,
          ⟨(some 22), none, .fieldAddr 0 (.t 5)⟩,
          ⟨none, none, .store 1 (.t 22) (.t 21)⟩] [2, 3, 4, 5, 6])
       (.seq
       (.reg [
          ⟨(some 23), none, .fieldAddr 1 (.t 5)⟩,
          ⟨(some 24), none, .load false 1 (.t 23)⟩,
          ⟨(some 25), none, .buildSlice 1 [(.v (.i .i64 0))]⟩,
          ⟨(some 26), none, .append 1 8 true (.t 24) (.t 25)⟩,
          ⟨(some 27), none, .fieldAddr 1 (.t 5)⟩,
          ⟨none, none, .store 1 (.t 27) (.t 26)⟩] [2, 3, 4, 5, 6])
       (.seq
       (.reg [
          ⟨(some 28), none, .mov (.t 6)⟩,
          ⟨(some 29), none, .bin .gtr (.t 28) (.v (.i .i64 0))⟩,
          ⟨(some 30), none, .mov (.t 29)⟩,
          ⟨(some 31), (some (30, true)), .mov (.t 3)⟩,
          ⟨(some 32), (some (30, true)), .call fid_p_spec_l14Rd_pick true [.io, .im] [(.t 31), (.v (.i .i64 5))]⟩,
          ⟨(some 33), (some (30, true)), .bin .gtr (.t 32) (.v (.i .i64 0))⟩,
          ⟨(some 34), none, .pick (.t 30) (.t 33) (.v (.b false))⟩] [2, 3, 4, 5, 6, 34])
       (.cond (.t 34)
       (.seq
        (.draw [0, 1, 0, 0, 0, 24, 63, 127] [
           ⟨(some 35), none, .fieldAddr 0 (.t 5)⟩,
           ⟨(some 36), none, .load false 1 (.t 35)⟩,
           ⟨(some 37), none, .mov (.t 6)⟩,
           ⟨(some 38), none, .mov (.t 3)⟩,
           ⟨(some 39), none, .mov (.t 6)⟩,
           ⟨(some 40), none, .call fid_p_spec_l14Rd_pick true [.io, .im] [(.t 38), (.t 39)]⟩,
           ⟨(some 41), none, .indexAddr 1 (.t 36) (.t 37)⟩,
           ⟨none, none, .store 1 (.t 41) (.t 40)⟩] [2, 3, 4, 5, 6])
        (.draw [0, 1, 0, 0, 0, 24, 63, 127] [
          ⟨(some 42), none, .fieldAddr 1 (.t 5)⟩,
          ⟨(some 43), none, .load false 1 (.t 42)⟩,
          ⟨(some 44), none, .mov (.t 6)⟩,
          ⟨(some 45), none, .mov (.t 3)⟩,
          ⟨(some 46), none, .buildSlice 1 [(.v (.i .i64 1)), (.v (.i .i64 5)), (.v (.i .i64 3)), (.v (.i .i64 0)), (.v (.i .i64 20))]⟩,
          ⟨(some 47), none, .call fid_p_spec_l14Rd_num true [.io, .im] [(.t 45), (.t 46)]⟩,
          ⟨(some 48), none, .indexAddr 1 (.t 43) (.t 44)⟩,
          ⟨none, none, .store 1 (.t 48) (.t 47)⟩] [2, 3, 4, 5, 6]))
       (.skip))))))
     (.reg [
       ⟨(some 16), none, .mov (.t 6)⟩,
       ⟨(some 17), none, .bin .add (.t 16) (.v (.i .i64 1))⟩,
       ⟨(some 6), none, .mov (.t 17)⟩] [2, 3, 4, 5, 6]))))))
  (.seq
  (.seq
   (.reg [
      ⟨(some 49), none, .mov (.t 3)⟩,
      ⟨(some 50), none, .call fid_p_spec_l14Rd_pick true [.io, .im] [(.t 49), (.v (.i .i64 24))]⟩] [2, 3, 4, 5, 50])
   (.block 2
   (.seq
    (.reg [
       ⟨(some 52), none, .bin .eql (.t 50) (.v (.i .i64 0))⟩,
       ⟨(some 51), none, .mov (.t 52)⟩] [2, 3, 4, 5, 50, 51])
    (.cond (.t 51)
    (.draw [0, 1, 0, 0, 12, 0, 0, 64, 192, 508, 1023, 2047] [
       ⟨(some 53), none, .fieldAddr 0 (.t 5)⟩,
       ⟨(some 54), none, .load false 1 (.t 53)⟩,
       ⟨(some 55), none, .mov (.t 3)⟩,
       ⟨(some 56), none, .mov (.t 4)⟩,
       ⟨(some 57), none, .call fid_p_spec_l14Rd_pick true [.io, .im] [(.t 55), (.t 56)]⟩,
       ⟨(some 58), none, .mov (.t 3)⟩,
       ⟨(some 59), none, .mov (.t 4)⟩,
       ⟨(some 60), none, .bin .sub (.t 59) (.v (.i .i64 1))⟩,
       ⟨(some 61), none, .buildSlice 1 [(.v (.i .i64 (-2))), (.v (.i .i64 0)), (.v (.i .i64 16)), (.t 60)]⟩,
       ⟨(some 62), none, .call fid_p_spec_l14Rd_num true [.io, .im] [(.t 58), (.t 61)]⟩,
       ⟨(some 63), none, .indexAddr 1 (.t 54) (.t 57)⟩,
       ⟨none, none, .store 1 (.t 63) (.t 62)⟩] [2, 5])
    (.seq
     (.reg [
        ⟨(some 65), none, .bin .eql (.t 50) (.v (.i .i64 1))⟩,
        ⟨(some 64), none, .mov (.t 65)⟩] [2, 3, 4, 5, 50, 64])
     (.cond (.t 64)
     (.draw [0, 1, 0, 0, 12, 0, 0, 124, 255, 511] [
        ⟨(some 66), none, .fieldAddr 1 (.t 5)⟩,
        ⟨(some 67), none, .load false 1 (.t 66)⟩,
        ⟨(some 68), none, .mov (.t 3)⟩,
        ⟨(some 69), none, .mov (.t 4)⟩,
        ⟨(some 70), none, .call fid_p_spec_l14Rd_pick true [.io, .im] [(.t 68), (.t 69)]⟩,
        ⟨(some 71), none, .mov (.t 3)⟩,
        ⟨(some 72), none, .buildSlice 1 [(.v (.i .i64 (-1))), (.v (.i .i64 1000)), (.v (.i .i64 1))]⟩,
        ⟨(some 73), none, .call fid_p_spec_l14Rd_num true [.io, .im] [(.t 71), (.t 72)]⟩,
        ⟨(some 74), none, .indexAddr 1 (.t 67) (.t 70)⟩,
        ⟨none, none, .store 1 (.t 74) (.t 73)⟩] [2, 5])
     (.seq
      (.reg [
         ⟨(some 76), none, .bin .eql (.t 50) (.v (.i .i64 2))⟩,
         ⟨(some 75), none, .mov (.t 76)⟩] [2, 4, 5, 75])
      (.cond (.t 75)
      (.reg [
         ⟨(some 77), none, .fieldAddr 1 (.t 5)⟩,
         ⟨(some 78), none, .load false 1 (.t 77)⟩,
         ⟨(some 79), none, .mov (.t 4)⟩,
         ⟨(some 80), none, .bin .sub (.t 79) (.v (.i .i64 1))⟩,
         ⟨(some 81), none, .slice 1 (.t 78) none (some (.t 80))⟩,
         ⟨(some 82), none, .fieldAddr 1 (.t 5)⟩,
         ⟨none, none, .store 1 (.t 82) (.t 81)⟩] [2, 5])
      (.skip)))))))))
  (.seq
  (.reg [
     ⟨(some 83), none, .load true 2 (.t 5)⟩,
     ⟨none, none, .store 2 (.t 2) (.t 83)⟩] [2])
  (.ret)))))))
theorem get_spec_l12Draw : Go.Proofs.Try.prog.funcs[fid_spec_l12Draw]? = some Go.Proofs.Try.f94 := Go.Proofs.Try.func94
theorem ok_spec_l12Draw : okFn Go.Proofs.Try.prog Go.Proofs.Try.f94 84 [] [(2, some (true, 2))] mc_spec_l12Draw = true := by kernel_rfl
def mc_spec_l1Less : MCode :=
 .seq
  (.reg [
     ⟨(some 2), none, .box 2 (.t 0)⟩,
     ⟨(some 3), none, .box 2 (.t 1)⟩,
     ⟨(some 4), none, .mov (.v (.b false))⟩] [2, 3])
  (.seq
  (.reg [
     ⟨(some 5), none, .fieldAddr 0 (.t 2)⟩,
     ⟨(some 6), none, .load false 1 (.t 5)⟩,
     ⟨(some 7), none, .fieldAddr 0 (.t 3)⟩,
     ⟨(some 8), none, .load false 1 (.t 7)⟩,
     ⟨(some 9), none, .bin .lss (.t 6) (.t 8)⟩,
     ⟨(some 10), none, .mov (.t 9)⟩,
     ⟨(some 11), (some (10, false)), .fieldAddr 0 (.t 2)⟩,
     ⟨(some 12), (some (10, false)), .load false 1 (.t 11)⟩,
     ⟨(some 13), (some (10, false)), .fieldAddr 0 (.t 3)⟩,
     ⟨(some 14), (some (10, false)), .load false 1 (.t 13)⟩,
     ⟨(some 15), (some (10, false)), .bin .eql (.t 12) (.t 14)⟩,
     ⟨(some 16), (some (10, false)), .mov (.t 15)⟩,
     ⟨(some 17), (some (16, true)), .fieldAddr 1 (.t 2)⟩,
     ⟨(some 18), (some (16, true)), .load false 1 (.t 17)⟩,
     ⟨(some 19), (some (16, true)), .fieldAddr 1 (.t 3)⟩,
     ⟨(some 20), (some (16, true)), .load false 1 (.t 19)⟩,
     ⟨(some 21), (some (16, true)), .bin .lss (.t 18) (.t 20)⟩,
     ⟨(some 22), (some (10, false)), .pick (.t 16) (.t 21) (.v (.b false))⟩,
     ⟨(some 23), none, .pick (.t 10) (.v (.b true)) (.t 22)⟩,
     ⟨(some 4), none, .mov (.t 23)⟩] [4])
  (.ret))
theorem get_spec_l1Less : Go.Proofs.Try.prog.funcs[fid_spec_l1Less]? = some Go.Proofs.Try.f95 := Go.Proofs.Try.func95
theorem ok_spec_l1Less : okFn Go.Proofs.Try.prog Go.Proofs.Try.f95 24 [] [(4, none)] mc_spec_l1Less = true := by kernel_rfl
def mc_impl_compareEdges : MCode :=
 .seq
  (.reg [
     ⟨(some 2), none, .box 2 (.t 0)⟩,
     ⟨(some 3), none, .box 2 (.t 1)⟩,
     ⟨(some 4), none, .mov (.v (.i .i64 0))⟩] [2, 3])
  (.seq
  (.draw [0, 1, 0, 4, 15, 0, 32, 0, 128, 511, 1023, 2047, 4095] [
     ⟨(some 5), none, .fieldAddr 0 (.t 2)⟩,
     ⟨(some 6), none, .load false 1 (.t 5)⟩,
     ⟨(some 7), none, .fieldAddr 0 (.t 3)⟩,
     ⟨(some 8), none, .load false 1 (.t 7)⟩,
     ⟨(some 9), none, .call fid_cmp_Compare_int false [.im, .im] [(.t 6), (.t 8)]⟩,
     ⟨(some 10), none, .fieldAddr 1 (.t 2)⟩,
     ⟨(some 11), none, .load false 1 (.t 10)⟩,
     ⟨(some 12), none, .fieldAddr 1 (.t 3)⟩,
     ⟨(some 13), none, .load false 1 (.t 12)⟩,
     ⟨(some 14), none, .call fid_cmp_Compare_int false [.im, .im] [(.t 11), (.t 13)]⟩,
     ⟨(some 15), none, .buildSlice 1 [(.t 9), (.t 14)]⟩,
     ⟨(some 16), none, .call fid_cmp_Or_int false [.im] [(.t 15)]⟩,
     ⟨(some 4), none, .mov (.t 16)⟩] [4])
  (.ret))
theorem get_impl_compareEdges : Go.Proofs.Try.prog.funcs[fid_impl_compareEdges]? = some Go.Proofs.Try.f96 := Go.Proofs.Try.func96
theorem ok_impl_compareEdges : okFn Go.Proofs.Try.prog Go.Proofs.Try.f96 17 [] [(4, none)] mc_impl_compareEdges = true := by kernel_rfl
def mc_cmp_Or_int : MCode :=
 .seq
  (.reg [
     ⟨(some 2), none, .mov (.v (.i .i64 0))⟩] [0])
  (.seq
  (.reg [
     ⟨(some 3), none, .mov (.v (.i .i64 0))⟩] [0, 3])
  (.seq
  (.seq
   (.reg [
      ⟨(some 6), none, .mov (.t 0)⟩,
      ⟨(some 7), none, .len (.t 6)⟩,
      ⟨(some 8), none, .mov (.v (.i .i64 0))⟩] [3, 6, 7, 8])
   (.block 0
   (.loop [3, 6, 7, 8]
    (.seq
     (.reg [
        ⟨(some 9), none, .bin .lss (.t 8) (.t 7)⟩] [3, 6, 7, 8, 9])
     (.seq
     (.cond (.t 9)
      (.skip)
      (.exit 0))
     (.seq
     (.block 1
      (.seq
       (.reg [
          ⟨(some 10), none, .indexAddr 1 (.t 6) (.t 8)⟩,
          ⟨(some 11), none, .load false 1 (.t 10)⟩,
          ⟨(some 5), none, .mov (.t 11)⟩] [3, 5, 6, 7, 8])
       (.seq
       (.reg [
          ⟨(some 12), none, .mov (.t 5)⟩,
          ⟨(some 13), none, .mov (.t 3)⟩,
          ⟨(some 14), none, .bin .neq (.t 12) (.t 13)⟩] [3, 5, 6, 7, 8, 14])
       (.cond (.t 14)
       (.seq
        (.reg [
           ⟨(some 15), none, .mov (.t 5)⟩,
           ⟨(some 2), none, .mov (.t 15)⟩] [2])
        (.ret))
       (.skip)))))
     (.reg [
       ⟨(some 16), none, .bin .add (.t 8) (.v (.i .i64 1))⟩,
       ⟨(some 8), none, .mov (.t 16)⟩] [3, 6, 7, 8])))))))
  (.seq
  (.reg [
     ⟨(some 17), none, .mov (.t 3)⟩,
     ⟨(some 2), none, .mov (.t 17)⟩] [2])
  (.ret))))
theorem get_cmp_Or_int : Go.Proofs.Try.prog.funcs[fid_cmp_Or_int]? = some Go.Proofs.Try.f97 := Go.Proofs.Try.func97
theorem ok_cmp_Or_int : okFn Go.Proofs.Try.prog Go.Proofs.Try.f97 18 [] [(2, none)] mc_cmp_Or_int = true := by kernel_rfl
def mc_cmp_Compare_int : MCode :=
 .seq
  (.reg [
     ⟨(some 4), none, .mov (.v (.i .i64 0))⟩] [0, 1])
  (.seq
  (.reg [
     ⟨(some 7), none, .mov (.t 0)⟩,
     ⟨(some 8), none, .call fid_cmp_isNaN_int false [.im] [(.t 7)]⟩,
     ⟨(some 5), none, .mov (.t 8)⟩] [0, 1, 5])
  (.seq
  (.reg [
     ⟨(some 9), none, .mov (.t 1)⟩,
     ⟨(some 10), none, .call fid_cmp_isNaN_int false [.im] [(.t 9)]⟩,
     ⟨(some 6), none, .mov (.t 10)⟩] [0, 1, 5, 6])
  (.seq
  (.seq
   (.reg [
      ⟨(some 11), none, .mov (.t 5)⟩] [0, 1, 6, 11])
   (.cond (.t 11)
   (.seq
    (.seq
     (.reg [
        ⟨(some 12), none, .mov (.t 6)⟩] [12])
     (.cond (.t 12)
     (.seq
      (.reg [
         ⟨(some 4), none, .mov (.v (.i .i64 0))⟩] [4])
      (.ret))
     (.skip)))
    (.seq
    (.reg [
       ⟨(some 4), none, .mov (.v (.i .i64 (-1)))⟩] [4])
    (.ret)))
   (.skip)))
  (.seq
  (.seq
   (.reg [
      ⟨(some 13), none, .mov (.t 6)⟩] [0, 1, 13])
   (.cond (.t 13)
   (.seq
    (.reg [
       ⟨(some 4), none, .mov (.v (.i .i64 1))⟩] [4])
    (.ret))
   (.skip)))
  (.seq
  (.seq
   (.reg [
      ⟨(some 14), none, .mov (.t 0)⟩,
      ⟨(some 15), none, .mov (.t 1)⟩,
      ⟨(some 16), none, .bin .lss (.t 14) (.t 15)⟩] [0, 1, 16])
   (.cond (.t 16)
   (.seq
    (.reg [
       ⟨(some 4), none, .mov (.v (.i .i64 (-1)))⟩] [4])
    (.ret))
   (.skip)))
  (.seq
  (.seq
   (.reg [
      ⟨(some 17), none, .mov (.t 0)⟩,
      ⟨(some 18), none, .mov (.t 1)⟩,
      ⟨(some 19), none, .bin .gtr (.t 17) (.t 18)⟩] [19])
   (.cond (.t 19)
   (.seq
    (.reg [
       ⟨(some 4), none, .mov (.v (.i .i64 1))⟩] [4])
    (.ret))
   (.skip)))
  (.seq
  (.reg [
     ⟨(some 4), none, .mov (.v (.i .i64 0))⟩] [4])
  (.ret))))))))
theorem get_cmp_Compare_int : Go.Proofs.Try.prog.funcs[fid_cmp_Compare_int]? = some Go.Proofs.Try.f98 := Go.Proofs.Try.func98
theorem ok_cmp_Compare_int : okFn Go.Proofs.Try.prog Go.Proofs.Try.f98 20 [] [(4, none)] mc_cmp_Compare_int = true := by kernel_rfl
def mc_cmp_isNaN_int : MCode :=
 .seq
  (.reg [
     ⟨(some 2), none, .mov (.v (.b false))⟩] [0])
  (.seq
  (.reg [
     ⟨(some 3), none, .mov (.t 0)⟩,
     ⟨(some 4), none, .mov (.t 0)⟩,
     ⟨(some 5), none, .bin .neq (.t 3) (.t 4)⟩,
     ⟨(some 2), none, .mov (.t 5)⟩] [2])
  (.ret))
theorem get_cmp_isNaN_int : Go.Proofs.Try.prog.funcs[fid_cmp_isNaN_int]? = some Go.Proofs.Try.f99 := Go.Proofs.Try.func99
theorem ok_cmp_isNaN_int : okFn Go.Proofs.Try.prog Go.Proofs.Try.f99 6 [] [(2, none)] mc_cmp_isNaN_int = true := by kernel_rfl

end Go.Fw
