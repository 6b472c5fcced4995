/-
  The code of the reference's functions, as the model's own. Printed by a program.
-/
import Derived.Test.YtdfbdbbjnihmaaaCd
namespace Go.Fw
set_option maxRecDepth 100000
def mc_spec_ChainEdges : MCode :=
 .seq
  (.reg [
     ⟨(some 2), none, .mov (.v (.nl 2))⟩,
     ⟨(some 3), none, .mov (.v (.b false))⟩] [0])
  (.seq
  (.reg [
     ⟨(some 6), none, .buildSlice 2 []⟩,
     ⟨(some 4), none, .mov (.t 6)⟩] [0, 4])
  (.seq
  (.seq
   (.reg [
      ⟨(some 5), none, .mov (.v (.i .i64 0))⟩] [0, 4, 5])
   (.block 0
   (.loop [0, 4, 5]
    (.seq
     (.seq
      (.reg [
         ⟨(some 7), none, .mov (.t 5)⟩,
         ⟨(some 8), none, .mov (.t 0)⟩,
         ⟨(some 9), none, .len (.t 8)⟩,
         ⟨(some 10), none, .bin .lss (.t 7) (.t 9)⟩,
         ⟨(some 11), none, .mov (.t 10)⟩,
         ⟨(some 12), (some (11, true)), .mov (.t 5)⟩,
         ⟨(some 13), (some (11, true)), .bin .leq (.t 12) (.v (.i .i64 16))⟩,
         ⟨(some 14), none, .pick (.t 11) (.t 13) (.v (.b false))⟩] [0, 4, 5, 14])
      (.cond (.t 14)
      (.skip)
      (.exit 0)))
     (.seq
     (.block 1
      (.seq
       (.seq
        (.draw [0, 0, 3, 7, 15, 31, 63, 63, 255, 511, 1023, 2047, 4095, 8191, 16383, 32767, 65535, 65535, 262143, 524287, 65535, 65535, 2162687, 7405567, 15794175, 33554431, 67108863, 134217727] [
           ⟨(some 17), none, .mov (.t 0)⟩,
           ⟨(some 18), none, .mov (.t 5)⟩,
           ⟨(some 19), none, .indexAddr 1 (.t 17) (.t 18)⟩,
           ⟨(some 20), none, .load false 1 (.t 19)⟩,
           ⟨(some 21), none, .bin .lss (.t 20) (.v (.i .i64 0))⟩,
           ⟨(some 22), none, .mov (.t 21)⟩,
           ⟨(some 23), (some (22, false)), .mov (.t 0)⟩,
           ⟨(some 24), (some (22, false)), .mov (.t 5)⟩,
           ⟨(some 25), (some (22, false)), .indexAddr 1 (.t 23) (.t 24)⟩,
           ⟨(some 26), (some (22, false)), .load false 1 (.t 25)⟩,
           ⟨(some 27), (some (22, false)), .bin .geq (.t 26) (.v (.i .i64 16))⟩,
           ⟨(some 28), none, .pick (.t 22) (.v (.b true)) (.t 27)⟩,
           ⟨(some 29), none, .mov (.t 28)⟩,
           ⟨(some 30), (some (29, false)), .mov (.t 5)⟩,
           ⟨(some 31), (some (29, false)), .bin .gtr (.t 30) (.v (.i .i64 0))⟩,
           ⟨(some 32), (some (29, false)), .mov (.t 31)⟩,
           ⟨(some 33), (some (32, true)), .mov (.t 0)⟩,
           ⟨(some 34), (some (32, true)), .mov (.t 5)⟩,
           ⟨(some 35), (some (32, true)), .indexAddr 1 (.t 33) (.t 34)⟩,
           ⟨(some 36), (some (32, true)), .load false 1 (.t 35)⟩,
           ⟨(some 37), (some (32, true)), .mov (.t 0)⟩,
           ⟨(some 38), (some (32, true)), .mov (.t 5)⟩,
           ⟨(some 39), (some (32, true)), .bin .sub (.t 38) (.v (.i .i64 1))⟩,
           ⟨(some 40), (some (32, true)), .indexAddr 1 (.t 37) (.t 39)⟩,
           ⟨(some 41), (some (32, true)), .load false 1 (.t 40)⟩,
           ⟨(some 42), (some (32, true)), .bin .eql (.t 36) (.t 41)⟩,
           ⟨(some 43), (some (29, false)), .pick (.t 32) (.t 42) (.v (.b false))⟩,
           ⟨(some 44), none, .pick (.t 29) (.v (.b true)) (.t 43)⟩] [0, 4, 5, 44])
        (.cond (.t 44)
        (.seq
         (.reg [
            ⟨(some 45), none, .buildSlice 2 []⟩,
            ⟨(some 2), none, .mov (.t 45)⟩,
            ⟨(some 3), none, .mov (.v (.b false))⟩] [2, 3])
         (.ret))
        (.skip)))
       (.seq
       (.reg [
          ⟨(some 46), none, .mov (.t 5)⟩,
          ⟨(some 47), none, .bin .gtr (.t 46) (.v (.i .i64 0))⟩] [0, 4, 5, 47])
       (.cond (.t 47)
       (.draw [0, 0, 0, 4, 14, 30, 0, 0, 192, 448, 1022, 2046, 4095, 8191] [
          ⟨(some 48), none, .mov (.t 4)⟩,
          ⟨(some 49), none, .mov (.t 0)⟩,
          ⟨(some 50), none, .mov (.t 5)⟩,
          ⟨(some 51), none, .bin .sub (.t 50) (.v (.i .i64 1))⟩,
          ⟨(some 52), none, .indexAddr 1 (.t 49) (.t 51)⟩,
          ⟨(some 53), none, .load false 1 (.t 52)⟩,
          ⟨(some 54), none, .mov (.t 0)⟩,
          ⟨(some 55), none, .mov (.t 5)⟩,
          ⟨(some 56), none, .indexAddr 1 (.t 54) (.t 55)⟩,
          ⟨(some 57), none, .load false 1 (.t 56)⟩,
          ⟨(some 58), none, .call fid_spec_l1Edge false [.im, .im] [(.t 53), (.t 57)]⟩,
          ⟨(some 59), none, .buildSlice 2 [(.t 58)]⟩,
          ⟨(some 60), none, .append 2 16 true (.t 48) (.t 59)⟩,
          ⟨(some 4), none, .mov (.t 60)⟩] [0, 4, 5])
       (.skip)))))
     (.reg [
       ⟨(some 15), none, .mov (.t 5)⟩,
       ⟨(some 16), none, .bin .add (.t 15) (.v (.i .i64 1))⟩,
       ⟨(some 5), none, .mov (.t 16)⟩] [0, 4, 5]))))))
  (.seq
  (.seq
   (.reg [
      ⟨(some 61), none, .mov (.t 0)⟩,
      ⟨(some 62), none, .len (.t 61)⟩,
      ⟨(some 63), none, .bin .gtr (.t 62) (.v (.i .i64 17))⟩] [4, 63])
   (.cond (.t 63)
   (.seq
    (.reg [
       ⟨(some 64), none, .buildSlice 2 []⟩,
       ⟨(some 2), none, .mov (.t 64)⟩,
       ⟨(some 3), none, .mov (.v (.b false))⟩] [2, 3])
    (.ret))
   (.skip)))
  (.seq
  (.reg [
     ⟨(some 65), none, .mov (.t 4)⟩,
     ⟨(some 2), none, .mov (.t 65)⟩,
     ⟨(some 3), none, .mov (.v (.b true))⟩] [2, 3])
  (.ret)))))
theorem get_spec_ChainEdges : Go.Proofs.Try.prog.funcs[fid_spec_ChainEdges]? = some Go.Proofs.Try.f19 := Go.Proofs.Try.func19
theorem ok_spec_ChainEdges : okFn Go.Proofs.Try.prog Go.Proofs.Try.f19 66 [] [(2, none), (3, none)] mc_spec_ChainEdges = true := by kernel_rfl
def mc_spec_Connected : MCode :=
 .seq
  (.reg [
     ⟨(some 3), none, .box 2 (.t 0)⟩,
     ⟨(some 6), none, .mov (.v (.b false))⟩] [1, 2, 3])
  (.seq
  (.reg [
     ⟨(some 7), none, .load true 2 (.t 3)⟩,
     ⟨(some 8), none, .mov (.t 1)⟩,
     ⟨(some 9), none, .call fid_spec_l2Node false [.im, .im] [(.t 7), (.t 8)]⟩,
     ⟨(some 10), none, .mov (.t 9)⟩,
     ⟨(some 11), (some (10, true)), .load true 2 (.t 3)⟩,
     ⟨(some 12), (some (10, true)), .mov (.t 2)⟩,
     ⟨(some 13), (some (10, true)), .call fid_spec_l2Node false [.im, .im] [(.t 11), (.t 12)]⟩,
     ⟨(some 14), none, .pick (.t 10) (.t 13) (.v (.b false))⟩,
     ⟨(some 15), none, .mov (.t 14)⟩,
     ⟨(some 16), (some (15, true)), .load true 2 (.t 3)⟩,
     ⟨(some 17), (some (15, true)), .mov (.t 1)⟩,
     ⟨(some 18), (some (15, true)), .mov (.t 2)⟩,
     ⟨(some 19), (some (15, true)), .call fid_spec_l2Joined false [.im, .im, .im] [(.t 16), (.t 17), (.t 18)]⟩,
     ⟨(some 20), none, .pick (.t 15) (.t 19) (.v (.b false))⟩,
     ⟨(some 6), none, .mov (.t 20)⟩] [6])
  (.ret))
theorem get_spec_Connected : Go.Proofs.Try.prog.funcs[fid_spec_Connected]? = some Go.Proofs.Try.f28 := Go.Proofs.Try.func28
theorem ok_spec_Connected : okFn Go.Proofs.Try.prog Go.Proofs.Try.f28 21 [] [(6, none)] mc_spec_Connected = true := by kernel_rfl
def mc_spec_CutSize : MCode :=
 .seq
  (.reg [
     ⟨(some 2), none, .box 2 (.t 0)⟩,
     ⟨(some 4), none, .mov (.v (.i .i64 0))⟩,
     ⟨(some 5), none, .mov (.v (.b false))⟩] [1, 2])
  (.seq
  (.seq
   (.reg [
      ⟨(some 9), none, .load true 2 (.t 2)⟩,
      ⟨(some 10), none, .call fid_spec_GraphValid false [.im] [(.t 9)]⟩,
      ⟨(some 11), none, .un .not (.t 10)⟩] [1, 2, 11])
   (.cond (.t 11)
   (.seq
    (.reg [
       ⟨(some 4), none, .mov (.v (.i .i64 0))⟩,
       ⟨(some 5), none, .mov (.v (.b false))⟩] [4, 5])
    (.ret))
   (.skip)))
  (.seq
  (.seq
   (.reg [
      ⟨(some 6), none, .mov (.v (.i .i64 0))⟩] [1, 2, 6])
   (.block 0
   (.loop [1, 2, 6]
    (.seq
     (.seq
      (.reg [
         ⟨(some 12), none, .mov (.t 6)⟩,
         ⟨(some 13), none, .mov (.t 1)⟩,
         ⟨(some 14), none, .len (.t 13)⟩,
         ⟨(some 15), none, .bin .lss (.t 12) (.t 14)⟩] [1, 2, 6, 15])
      (.cond (.t 15)
      (.skip)
      (.exit 0)))
     (.seq
     (.block 1
      (.seq
       (.draw [0, 0, 3, 7, 15, 31, 63, 63, 255, 511, 63, 1087, 4095, 8191, 16383, 32767, 32767, 131071, 32767, 32767, 819199, 1867775, 4194303, 8388607] [
          ⟨(some 18), none, .mov (.t 1)⟩,
          ⟨(some 19), none, .mov (.t 6)⟩,
          ⟨(some 20), none, .indexAddr 1 (.t 18) (.t 19)⟩,
          ⟨(some 21), none, .load false 1 (.t 20)⟩,
          ⟨(some 22), none, .bin .lss (.t 21) (.v (.i .i64 0))⟩,
          ⟨(some 23), none, .mov (.t 22)⟩,
          ⟨(some 24), (some (23, false)), .mov (.t 1)⟩,
          ⟨(some 25), (some (23, false)), .mov (.t 6)⟩,
          ⟨(some 26), (some (23, false)), .indexAddr 1 (.t 24) (.t 25)⟩,
          ⟨(some 27), (some (23, false)), .load false 1 (.t 26)⟩,
          ⟨(some 28), (some (23, false)), .fieldAddr 0 (.t 2)⟩,
          ⟨(some 29), (some (23, false)), .load false 1 (.t 28)⟩,
          ⟨(some 30), (some (23, false)), .bin .geq (.t 27) (.t 29)⟩,
          ⟨(some 31), none, .pick (.t 23) (.v (.b true)) (.t 30)⟩,
          ⟨(some 32), none, .mov (.t 31)⟩,
          ⟨(some 33), (some (32, false)), .mov (.t 1)⟩,
          ⟨(some 34), (some (32, false)), .mov (.t 6)⟩,
          ⟨(some 35), (some (32, false)), .slice 1 (.t 33) none (some (.t 34))⟩,
          ⟨(some 36), (some (32, false)), .mov (.t 1)⟩,
          ⟨(some 37), (some (32, false)), .mov (.t 6)⟩,
          ⟨(some 38), (some (32, false)), .indexAddr 1 (.t 36) (.t 37)⟩,
          ⟨(some 39), (some (32, false)), .load false 1 (.t 38)⟩,
          ⟨(some 40), (some (32, false)), .call fid_spec_l6In false [.im, .im] [(.t 35), (.t 39)]⟩,
          ⟨(some 41), none, .pick (.t 32) (.v (.b true)) (.t 40)⟩] [1, 2, 6, 41])
       (.cond (.t 41)
       (.seq
        (.reg [
           ⟨(some 4), none, .mov (.v (.i .i64 0))⟩,
           ⟨(some 5), none, .mov (.v (.b false))⟩] [4, 5])
        (.ret))
       (.skip))))
     (.reg [
       ⟨(some 16), none, .mov (.t 6)⟩,
       ⟨(some 17), none, .bin .add (.t 16) (.v (.i .i64 1))⟩,
       ⟨(some 6), none, .mov (.t 17)⟩] [1, 2, 6]))))))
  (.seq
  (.reg [
     ⟨(some 7), none, .mov (.v (.i .i64 0))⟩] [1, 2, 7])
  (.seq
  (.seq
   (.reg [
      ⟨(some 8), none, .mov (.v (.i .i64 0))⟩] [1, 2, 7, 8])
   (.block 2
   (.loop [1, 2, 7, 8]
    (.seq
     (.seq
      (.reg [
         ⟨(some 42), none, .mov (.t 8)⟩,
         ⟨(some 43), none, .fieldAddr 1 (.t 2)⟩,
         ⟨(some 44), none, .load false 1 (.t 43)⟩,
         ⟨(some 45), none, .len (.t 44)⟩,
         ⟨(some 46), none, .bin .lss (.t 42) (.t 45)⟩] [1, 2, 7, 8, 46])
      (.cond (.t 46)
      (.skip)
      (.exit 2)))
     (.seq
     (.block 3
      (.seq
       (.draw [0, 0, 2, 0, 14, 30, 62, 127, 0, 0, 512, 0, 3584, 7680, 15872, 32767, 65535] [
          ⟨(some 49), none, .mov (.t 1)⟩,
          ⟨(some 50), none, .fieldAddr 1 (.t 2)⟩,
          ⟨(some 51), none, .load false 1 (.t 50)⟩,
          ⟨(some 52), none, .mov (.t 8)⟩,
          ⟨(some 53), none, .indexAddr 2 (.t 51) (.t 52)⟩,
          ⟨(some 54), none, .fieldAddr 0 (.t 53)⟩,
          ⟨(some 55), none, .load false 1 (.t 54)⟩,
          ⟨(some 56), none, .call fid_spec_l6In false [.im, .im] [(.t 49), (.t 55)]⟩,
          ⟨(some 57), none, .mov (.t 1)⟩,
          ⟨(some 58), none, .fieldAddr 1 (.t 2)⟩,
          ⟨(some 59), none, .load false 1 (.t 58)⟩,
          ⟨(some 60), none, .mov (.t 8)⟩,
          ⟨(some 61), none, .indexAddr 2 (.t 59) (.t 60)⟩,
          ⟨(some 62), none, .fieldAddr 1 (.t 61)⟩,
          ⟨(some 63), none, .load false 1 (.t 62)⟩,
          ⟨(some 64), none, .call fid_spec_l6In false [.im, .im] [(.t 57), (.t 63)]⟩,
          ⟨(some 65), none, .binb true (.t 56) (.t 64)⟩] [1, 2, 7, 8, 65])
       (.cond (.t 65)
       (.reg [
          ⟨(some 66), none, .mov (.t 7)⟩,
          ⟨(some 67), none, .bin .add (.t 66) (.v (.i .i64 1))⟩,
          ⟨(some 7), none, .mov (.t 67)⟩] [1, 2, 7, 8])
       (.skip))))
     (.reg [
       ⟨(some 47), none, .mov (.t 8)⟩,
       ⟨(some 48), none, .bin .add (.t 47) (.v (.i .i64 1))⟩,
       ⟨(some 8), none, .mov (.t 48)⟩] [1, 2, 7, 8]))))))
  (.seq
  (.reg [
     ⟨(some 68), none, .mov (.t 7)⟩,
     ⟨(some 4), none, .mov (.t 68)⟩,
     ⟨(some 5), none, .mov (.v (.b true))⟩] [4, 5])
  (.ret))))))
theorem get_spec_CutSize : Go.Proofs.Try.prog.funcs[fid_spec_CutSize]? = some Go.Proofs.Try.f32 := Go.Proofs.Try.func32
theorem ok_spec_CutSize : okFn Go.Proofs.Try.prog Go.Proofs.Try.f32 69 [] [(4, none), (5, none)] mc_spec_CutSize = true := by kernel_rfl
def mc_spec_DrawCutSize : MCode :=
 .seq
  (.reg [
     ⟨(some 2), none, .alloc [.i .i64 0, .nl 2]⟩,
     ⟨(some 3), none, .mov (.v (.nl 1))⟩] [0, 2])
  (.seq
  (.reg [
     ⟨(some 8), none, .mov (.t 0)⟩,
     ⟨(some 9), none, .call fid_spec_l14Open true [.im] [(.t 8)]⟩,
     ⟨(some 4), none, .mov (.t 9)⟩] [2, 4])
  (.seq
  (.reg [
     ⟨(some 10), none, .mov (.t 4)⟩,
     ⟨(some 11), none, .call fid_spec_l10Draw true [.io] [(.t 10)]⟩,
     ⟨(some 5), none, .alloc [.i .i64 0, .nl 2]⟩,
     ⟨none, none, .store 2 (.t 5) (.t 11)⟩] [2, 4, 5])
  (.seq
  (.reg [
     ⟨(some 12), none, .buildSlice 1 []⟩,
     ⟨(some 6), none, .mov (.t 12)⟩] [2, 4, 5, 6])
  (.seq
  (.seq
   (.reg [
      ⟨(some 7), none, .mov (.v (.i .i64 0))⟩] [2, 4, 5, 6, 7])
   (.block 0
   (.loop [2, 4, 5, 6, 7]
    (.seq
     (.seq
      (.reg [
         ⟨(some 13), none, .mov (.t 7)⟩,
         ⟨(some 14), none, .fieldAddr 0 (.t 5)⟩,
         ⟨(some 15), none, .load false 1 (.t 14)⟩,
         ⟨(some 16), none, .bin .lss (.t 13) (.t 15)⟩] [2, 4, 5, 6, 7, 16])
      (.cond (.t 16)
      (.skip)
      (.exit 0)))
     (.seq
     (.block 1
      (.seq
       (.reg [
          ⟨(some 19), none, .mov (.t 4)⟩,
          ⟨(some 20), none, .call fid_p_spec_l14Rd_pick true [.io, .im] [(.t 19), (.v (.i .i64 2))]⟩,
          ⟨(some 21), none, .bin .eql (.t 20) (.v (.i .i64 0))⟩] [2, 4, 5, 6, 7, 21])
       (.cond (.t 21)
       (.reg [
          ⟨(some 22), none, .mov (.t 6)⟩,
          ⟨(some 23), none, .mov (.t 7)⟩,
          ⟨(some 24), none, .buildSlice 1 [(.t 23)]⟩,
          ⟨(some 25), none, .append 1 8 true (.t 22) (.t 24)⟩,
          ⟨(some 6), none, .mov (.t 25)⟩] [2, 4, 5, 6, 7])
       (.skip))))
     (.reg [
       ⟨(some 17), none, .mov (.t 7)⟩,
       ⟨(some 18), none, .bin .add (.t 17) (.v (.i .i64 1))⟩,
       ⟨(some 7), none, .mov (.t 18)⟩] [2, 4, 5, 6, 7]))))))
  (.seq
  (.seq
   (.reg [
      ⟨(some 26), none, .mov (.t 4)⟩,
      ⟨(some 27), none, .call fid_p_spec_l14Rd_pick true [.io, .im] [(.t 26), (.v (.i .i64 12))]⟩,
      ⟨(some 28), none, .bin .eql (.t 27) (.v (.i .i64 0))⟩] [2, 4, 5, 6, 28])
   (.cond (.t 28)
   (.reg [
      ⟨(some 29), none, .mov (.t 6)⟩,
      ⟨(some 30), none, .mov (.t 4)⟩,
      ⟨(some 31), none, .buildSlice 1 [(.v (.i .i64 (-1))), (.v (.i .i64 16)), (.v (.i .i64 0)), (.v (.i .i64 0))]⟩,
      ⟨(some 32), none, .call fid_p_spec_l14Rd_num true [.io, .im] [(.t 30), (.t 31)]⟩,
      ⟨(some 33), none, .buildSlice 1 [(.t 32)]⟩,
      ⟨(some 34), none, .append 1 8 true (.t 29) (.t 33)⟩,
      ⟨(some 6), none, .mov (.t 34)⟩] [2, 4, 5, 6])
   (.skip)))
  (.seq
  (.reg [
     ⟨(some 35), none, .mov (.t 4)⟩,
     ⟨(some 36), none, .load true 2 (.t 5)⟩,
     ⟨(some 37), none, .call fid_spec_l1Wrong true [.io, .im] [(.t 35), (.t 36)]⟩,
     ⟨(some 38), none, .mov (.t 6)⟩,
     ⟨none, none, .store 2 (.t 2) (.t 37)⟩,
     ⟨(some 3), none, .mov (.t 38)⟩] [2, 3])
  (.ret)))))))
theorem get_spec_DrawCutSize : Go.Proofs.Try.prog.funcs[fid_spec_DrawCutSize]? = some Go.Proofs.Try.f34 := Go.Proofs.Try.func34
theorem ok_spec_DrawCutSize : okFn Go.Proofs.Try.prog Go.Proofs.Try.f34 39 [] [(2, some (true, 2)), (3, none)] mc_spec_DrawCutSize = true := by kernel_rfl
def mc_spec_IsSafeGraph : MCode :=
 .seq
  (.reg [
     ⟨(some 1), none, .box 2 (.t 0)⟩,
     ⟨(some 2), none, .mov (.v (.b false))⟩] [1])
  (.seq
  (.reg [
     ⟨(some 3), none, .load true 2 (.t 1)⟩,
     ⟨(some 4), none, .call fid_spec_PartCount false [.im] [(.t 3)]⟩,
     ⟨(some 5), none, .bin .eql (.t 4) (.v (.i .i64 1))⟩,
     ⟨(some 6), none, .mov (.t 5)⟩,
     ⟨(some 7), (some (6, true)), .load true 2 (.t 1)⟩,
     ⟨(some 8), (some (6, true)), .call fid_spec_l4Bridges false [.im] [(.t 7)]⟩,
     ⟨(some 9), (some (6, true)), .len (.t 8)⟩,
     ⟨(some 10), (some (6, true)), .bin .eql (.t 9) (.v (.i .i64 0))⟩,
     ⟨(some 11), none, .pick (.t 6) (.t 10) (.v (.b false))⟩,
     ⟨(some 2), none, .mov (.t 11)⟩] [2])
  (.ret))
theorem get_spec_IsSafeGraph : Go.Proofs.Try.prog.funcs[fid_spec_IsSafeGraph]? = some Go.Proofs.Try.f36 := Go.Proofs.Try.func36
theorem ok_spec_IsSafeGraph : okFn Go.Proofs.Try.prog Go.Proofs.Try.f36 12 [] [(2, none)] mc_spec_IsSafeGraph = true := by kernel_rfl
def mc_spec_LevelsValid : MCode :=
 .seq
  (.reg [
     ⟨(some 1), none, .box 4 (.t 0)⟩,
     ⟨(some 2), none, .mov (.v (.b false))⟩] [1])
  (.seq
  (.seq
   (.reg [
      ⟨(some 7), none, .fieldAddr 0 (.t 1)⟩,
      ⟨(some 8), none, .load true 2 (.t 7)⟩,
      ⟨(some 9), none, .call fid_spec_GraphValid false [.im] [(.t 8)]⟩,
      ⟨(some 10), none, .un .not (.t 9)⟩,
      ⟨(some 11), none, .mov (.t 10)⟩,
      ⟨(some 12), (some (11, false)), .fieldAddr 2 (.t 1)⟩,
      ⟨(some 13), (some (11, false)), .load false 1 (.t 12)⟩,
      ⟨(some 14), (some (11, false)), .len (.t 13)⟩,
      ⟨(some 15), (some (11, false)), .fieldAddr 0 (.t 1)⟩,
      ⟨(some 16), (some (11, false)), .fieldAddr 1 (.t 15)⟩,
      ⟨(some 17), (some (11, false)), .load false 1 (.t 16)⟩,
      ⟨(some 18), (some (11, false)), .len (.t 17)⟩,
      ⟨(some 19), (some (11, false)), .bin .neq (.t 14) (.t 18)⟩,
      ⟨(some 20), none, .pick (.t 11) (.v (.b true)) (.t 19)⟩,
      ⟨(some 21), none, .mov (.t 20)⟩,
      ⟨(some 22), (some (21, false)), .fieldAddr 3 (.t 1)⟩,
      ⟨(some 23), (some (21, false)), .load false 1 (.t 22)⟩,
      ⟨(some 24), (some (21, false)), .len (.t 23)⟩,
      ⟨(some 25), (some (21, false)), .fieldAddr 0 (.t 1)⟩,
      ⟨(some 26), (some (21, false)), .fieldAddr 1 (.t 25)⟩,
      ⟨(some 27), (some (21, false)), .load false 1 (.t 26)⟩,
      ⟨(some 28), (some (21, false)), .len (.t 27)⟩,
      ⟨(some 29), (some (21, false)), .bin .neq (.t 24) (.t 28)⟩,
      ⟨(some 30), none, .pick (.t 21) (.v (.b true)) (.t 29)⟩] [1, 30])
   (.cond (.t 30)
   (.seq
    (.reg [
       ⟨(some 2), none, .mov (.v (.b false))⟩] [2])
    (.ret))
   (.skip)))
  (.seq
  (.seq
   (.reg [
      ⟨(some 3), none, .mov (.v (.i .i64 0))⟩] [1, 3])
   (.block 0
   (.loop [1, 3]
    (.seq
     (.seq
      (.reg [
         ⟨(some 31), none, .mov (.t 3)⟩,
         ⟨(some 32), none, .fieldAddr 2 (.t 1)⟩,
         ⟨(some 33), none, .load false 1 (.t 32)⟩,
         ⟨(some 34), none, .len (.t 33)⟩,
         ⟨(some 35), none, .bin .lss (.t 31) (.t 34)⟩] [1, 3, 35])
      (.cond (.t 35)
      (.skip)
      (.exit 0)))
     (.seq
     (.block 1
      (.seq
       (.reg [
          ⟨(some 38), none, .fieldAddr 2 (.t 1)⟩,
          ⟨(some 39), none, .load false 1 (.t 38)⟩,
          ⟨(some 40), none, .mov (.t 3)⟩,
          ⟨(some 41), none, .indexAddr 1 (.t 39) (.t 40)⟩,
          ⟨(some 42), none, .load false 1 (.t 41)⟩,
          ⟨(some 43), none, .bin .lss (.t 42) (.v (.i .i64 0))⟩,
          ⟨(some 44), none, .mov (.t 43)⟩,
          ⟨(some 45), (some (44, false)), .fieldAddr 2 (.t 1)⟩,
          ⟨(some 46), (some (44, false)), .load false 1 (.t 45)⟩,
          ⟨(some 47), (some (44, false)), .mov (.t 3)⟩,
          ⟨(some 48), (some (44, false)), .indexAddr 1 (.t 46) (.t 47)⟩,
          ⟨(some 49), (some (44, false)), .load false 1 (.t 48)⟩,
          ⟨(some 50), (some (44, false)), .bin .gtr (.t 49) (.v (.i .i64 4))⟩,
          ⟨(some 51), none, .pick (.t 44) (.v (.b true)) (.t 50)⟩] [1, 3, 51])
       (.cond (.t 51)
       (.seq
        (.reg [
           ⟨(some 2), none, .mov (.v (.b false))⟩] [2])
        (.ret))
       (.skip))))
     (.reg [
       ⟨(some 36), none, .mov (.t 3)⟩,
       ⟨(some 37), none, .bin .add (.t 36) (.v (.i .i64 1))⟩,
       ⟨(some 3), none, .mov (.t 37)⟩] [1, 3]))))))
  (.seq
  (.seq
   (.reg [
      ⟨(some 4), none, .mov (.v (.i .i64 0))⟩] [1, 4])
   (.block 2
   (.loop [1, 4]
    (.seq
     (.seq
      (.reg [
         ⟨(some 52), none, .mov (.t 4)⟩,
         ⟨(some 53), none, .bin .leq (.t 52) (.v (.i .i64 4))⟩] [1, 4, 53])
      (.cond (.t 53)
      (.skip)
      (.exit 2)))
     (.seq
     (.block 3
      (.seq
       (.reg [
          ⟨(some 56), none, .load true 4 (.t 1)⟩,
          ⟨(some 57), none, .mov (.t 4)⟩,
          ⟨(some 58), none, .call fid_spec_l7At false [.im, .im, .im] [(.t 56), (.t 57), (.v (.b false))]⟩,
          ⟨(some 5), none, .alloc [.i .i64 0, .nl 2]⟩,
          ⟨none, none, .store 2 (.t 5) (.t 58)⟩] [1, 4, 5])
       (.seq
       (.reg [
          ⟨(some 59), none, .load true 4 (.t 1)⟩,
          ⟨(some 60), none, .mov (.t 4)⟩,
          ⟨(some 61), none, .call fid_spec_l7At false [.im, .im, .im] [(.t 59), (.t 60), (.v (.b true))]⟩,
          ⟨(some 6), none, .alloc [.i .i64 0, .nl 2]⟩,
          ⟨none, none, .store 2 (.t 6) (.t 61)⟩] [1, 4, 5, 6])
       (.seq
       (.draw [0, 1, 3, 7, 15, 31, 15, 127, 255, 511, 1023, 2047, 4095, 4095, 12287, 4095, 61439, 131071, 262143, 524287] [
          ⟨(some 62), none, .load true 2 (.t 6)⟩,
          ⟨(some 63), none, .call fid_spec_l6Forest false [.im] [(.t 62)]⟩,
          ⟨(some 64), none, .un .not (.t 63)⟩,
          ⟨(some 65), none, .mov (.t 64)⟩,
          ⟨(some 66), (some (65, false)), .load true 2 (.t 5)⟩,
          ⟨(some 67), (some (65, false)), .call fid_spec_l2Labels false [.im] [(.t 66)]⟩,
          ⟨(some 68), (some (65, false)), .load true 2 (.t 6)⟩,
          ⟨(some 69), (some (65, false)), .call fid_spec_l2Labels false [.im] [(.t 68)]⟩,
          ⟨(some 70), (some (65, false)), .call fid_spec_l7Ints false [.im, .im] [(.t 67), (.t 69)]⟩,
          ⟨(some 71), (some (65, false)), .un .not (.t 70)⟩,
          ⟨(some 72), none, .pick (.t 65) (.v (.b true)) (.t 71)⟩,
          ⟨(some 73), none, .mov (.t 72)⟩,
          ⟨(some 74), (some (73, false)), .load true 2 (.t 5)⟩,
          ⟨(some 75), (some (73, false)), .fieldAddr 0 (.t 5)⟩,
          ⟨(some 76), (some (73, false)), .load false 1 (.t 75)⟩,
          ⟨(some 77), (some (73, false)), .mov (.t 4)⟩,
          ⟨(some 78), (some (73, false)), .call fid_spec_l7Most false [.im, .im] [(.t 76), (.t 77)]⟩,
          ⟨(some 79), (some (73, false)), .call fid_spec_l7Small false [.im, .im] [(.t 74), (.t 78)]⟩,
          ⟨(some 80), (some (73, false)), .un .not (.t 79)⟩,
          ⟨(some 81), none, .pick (.t 73) (.v (.b true)) (.t 80)⟩] [1, 4, 81])
       (.cond (.t 81)
       (.seq
        (.reg [
           ⟨(some 2), none, .mov (.v (.b false))⟩] [2])
        (.ret))
       (.skip))))))
     (.reg [
       ⟨(some 54), none, .mov (.t 4)⟩,
       ⟨(some 55), none, .bin .add (.t 54) (.v (.i .i64 1))⟩,
       ⟨(some 4), none, .mov (.t 55)⟩] [1, 4]))))))
  (.seq
  (.reg [
     ⟨(some 2), none, .mov (.v (.b true))⟩] [2])
  (.ret)))))
theorem get_spec_LevelsValid : Go.Proofs.Try.prog.funcs[fid_spec_LevelsValid]? = some Go.Proofs.Try.f39 := Go.Proofs.Try.func39
theorem ok_spec_LevelsValid : okFn Go.Proofs.Try.prog Go.Proofs.Try.f39 82 [] [(2, none)] mc_spec_LevelsValid = true := by kernel_rfl
def mc_spec_DrawTurnEdge : MCode :=
 .seq
  (.reg [
     ⟨(some 2), none, .alloc [.i .i64 0, .nl 2]⟩,
     ⟨(some 3), none, .alloc [.i .i64 0, .i .i64 0]⟩] [0, 2, 3])
  (.seq
  (.reg [
     ⟨(some 4), none, .mov (.t 0)⟩,
     ⟨(some 5), none, .call fid_spec_l1Case false [.im] [(.t 4)]⟩,
     ⟨(some 6), none, .extract (.t 5) 0⟩,
     ⟨(some 7), none, .extract (.t 5) 1⟩,
     ⟨none, none, .store 2 (.t 2) (.t 6)⟩,
     ⟨none, none, .store 2 (.t 3) (.t 7)⟩] [2, 3])
  (.ret))
theorem get_spec_DrawTurnEdge : Go.Proofs.Try.prog.funcs[fid_spec_DrawTurnEdge]? = some Go.Proofs.Try.f43 := Go.Proofs.Try.func43
theorem ok_spec_DrawTurnEdge : okFn Go.Proofs.Try.prog Go.Proofs.Try.f43 8 [] [(2, some (true, 2)), (3, some (true, 2))] mc_spec_DrawTurnEdge = true := by kernel_rfl
def mc_spec_TurnEdge : MCode :=
 .seq
  (.reg [
     ⟨(some 2), none, .box 2 (.t 0)⟩,
     ⟨(some 3), none, .box 2 (.t 1)⟩,
     ⟨(some 4), none, .alloc [.i .i64 0, .nl 2]⟩,
     ⟨(some 5), none, .mov (.v (.b false))⟩] [2, 3, 4])
  (.seq
  (.seq
   (.reg [
      ⟨(some 6), none, .load true 2 (.t 2)⟩,
      ⟨(some 7), none, .load true 2 (.t 3)⟩,
      ⟨(some 8), none, .call fid_spec_HasEdge false [.im, .im] [(.t 6), (.t 7)]⟩] [2, 3, 4, 8])
   (.cond (.t 8)
   (.seq
    (.reg [
       ⟨(some 9), none, .load true 2 (.t 2)⟩,
       ⟨(some 10), none, .load true 2 (.t 3)⟩,
       ⟨(some 11), none, .call fid_spec_CutEdge false [.im, .im] [(.t 9), (.t 10)]⟩,
       ⟨(some 12), none, .extract (.t 11) 0⟩,
       ⟨(some 13), none, .extract (.t 11) 1⟩,
       ⟨none, none, .store 2 (.t 4) (.t 12)⟩,
       ⟨(some 5), none, .mov (.t 13)⟩] [4, 5])
    (.ret))
   (.skip)))
  (.seq
  (.reg [
     ⟨(some 14), none, .load true 2 (.t 2)⟩,
     ⟨(some 15), none, .load true 2 (.t 3)⟩,
     ⟨(some 16), none, .call fid_spec_PutEdge false [.im, .im] [(.t 14), (.t 15)]⟩,
     ⟨(some 17), none, .extract (.t 16) 0⟩,
     ⟨(some 18), none, .extract (.t 16) 1⟩,
     ⟨none, none, .store 2 (.t 4) (.t 17)⟩,
     ⟨(some 5), none, .mov (.t 18)⟩] [4, 5])
  (.ret)))
theorem get_spec_TurnEdge : Go.Proofs.Try.prog.funcs[fid_spec_TurnEdge]? = some Go.Proofs.Try.f45 := Go.Proofs.Try.func45
theorem ok_spec_TurnEdge : okFn Go.Proofs.Try.prog Go.Proofs.Try.f45 19 [] [(4, some (true, 2)), (5, none)] mc_spec_TurnEdge = true := by kernel_rfl
def mc_spec_SumLevels : MCode :=
 .seq
  (.reg [
     ⟨(some 1), none, .box 4 (.t 0)⟩,
     ⟨(some 2), none, .mov (.v (.i .i64 0))⟩,
     ⟨(some 3), none, .mov (.v (.b false))⟩] [1])
  (.seq
  (.seq
   (.reg [
      ⟨(some 6), none, .load true 4 (.t 1)⟩,
      ⟨(some 7), none, .call fid_spec_LevelsValid false [.im] [(.t 6)]⟩,
      ⟨(some 8), none, .un .not (.t 7)⟩] [1, 8])
   (.cond (.t 8)
   (.seq
    (.reg [
       ⟨(some 2), none, .mov (.v (.i .i64 0))⟩,
       ⟨(some 3), none, .mov (.v (.b false))⟩] [2, 3])
    (.ret))
   (.skip)))
  (.seq
  (.reg [
     ⟨(some 4), none, .mov (.v (.i .i64 0))⟩] [1, 4])
  (.seq
  (.seq
   (.reg [
      ⟨(some 5), none, .mov (.v (.i .i64 0))⟩] [1, 4, 5])
   (.block 0
   (.loop [1, 4, 5]
    (.seq
     (.seq
      (.reg [
         ⟨(some 9), none, .mov (.t 5)⟩,
         ⟨(some 10), none, .fieldAddr 2 (.t 1)⟩,
         ⟨(some 11), none, .load false 1 (.t 10)⟩,
         ⟨(some 12), none, .len (.t 11)⟩,
         ⟨(some 13), none, .bin .lss (.t 9) (.t 12)⟩] [1, 4, 5, 13])
      (.cond (.t 13)
      (.skip)
      (.exit 0)))
     (.seq
     (.block 1
      (.reg [
         ⟨(some 16), none, .mov (.t 4)⟩,
         ⟨(some 17), none, .fieldAddr 2 (.t 1)⟩,
         ⟨(some 18), none, .load false 1 (.t 17)⟩,
         ⟨(some 19), none, .mov (.t 5)⟩,
         ⟨(some 20), none, .indexAddr 1 (.t 18) (.t 19)⟩,
         ⟨(some 21), none, .load false 1 (.t 20)⟩,
         ⟨(some 22), none, .bin .add (.t 16) (.t 21)⟩,
         ⟨(some 4), none, .mov (.t 22)⟩] [1, 4, 5]))
     (.reg [
       ⟨(some 14), none, .mov (.t 5)⟩,
       ⟨(some 15), none, .bin .add (.t 14) (.v (.i .i64 1))⟩,
       ⟨(some 5), none, .mov (.t 15)⟩] [1, 4, 5]))))))
  (.seq
  (.reg [
     ⟨(some 23), none, .mov (.t 4)⟩,
     ⟨(some 2), none, .mov (.t 23)⟩,
     ⟨(some 3), none, .mov (.v (.b true))⟩] [2, 3])
  (.ret)))))
theorem get_spec_SumLevels : Go.Proofs.Try.prog.funcs[fid_spec_SumLevels]? = some Go.Proofs.Try.f48 := Go.Proofs.Try.func48
theorem ok_spec_SumLevels : okFn Go.Proofs.Try.prog Go.Proofs.Try.f48 24 [] [(2, none), (3, none)] mc_spec_SumLevels = true := by kernel_rfl
def mc_spec_LevelForest : MCode :=
 .seq
  (.reg [
     ⟨(some 2), none, .box 4 (.t 0)⟩,
     ⟨(some 4), none, .mov (.v (.nl 2))⟩,
     ⟨(some 5), none, .mov (.v (.b false))⟩] [1, 2])
  (.seq
  (.seq
   (.reg [
      ⟨(some 6), none, .load true 4 (.t 2)⟩,
      ⟨(some 7), none, .call fid_spec_LevelsValid false [.im] [(.t 6)]⟩,
      ⟨(some 8), none, .un .not (.t 7)⟩,
      ⟨(some 9), none, .mov (.t 8)⟩,
      ⟨(some 10), (some (9, false)), .mov (.t 1)⟩,
      ⟨(some 11), (some (9, false)), .bin .lss (.t 10) (.v (.i .i64 0))⟩,
      ⟨(some 12), none, .pick (.t 9) (.v (.b true)) (.t 11)⟩,
      ⟨(some 13), none, .mov (.t 12)⟩,
      ⟨(some 14), (some (13, false)), .mov (.t 1)⟩,
      ⟨(some 15), (some (13, false)), .bin .gtr (.t 14) (.v (.i .i64 4))⟩,
      ⟨(some 16), none, .pick (.t 13) (.v (.b true)) (.t 15)⟩] [1, 2, 16])
   (.cond (.t 16)
   (.seq
    (.reg [
       ⟨(some 17), none, .buildSlice 2 []⟩,
       ⟨(some 4), none, .mov (.t 17)⟩,
       ⟨(some 5), none, .mov (.v (.b false))⟩] [4, 5])
    (.ret))
   (.skip)))
  (.seq
  (.reg [
     ⟨(some 18), none, .load true 4 (.t 2)⟩,
     ⟨(some 19), none, .mov (.t 1)⟩,
     ⟨(some 20), none, .call fid_spec_l7At false [.im, .im, .im] [(.t 18), (.t 19), (.v (.b true))]⟩,
     ⟨(some 21), none, .field false 1 1 (.t 20)⟩,
     ⟨(some 4), none, .mov (.t 21)⟩,
     ⟨(some 5), none, .mov (.v (.b true))⟩] [4, 5])
  (.ret)))
theorem get_spec_LevelForest : Go.Proofs.Try.prog.funcs[fid_spec_LevelForest]? = some Go.Proofs.Try.f53 := Go.Proofs.Try.func53
theorem ok_spec_LevelForest : okFn Go.Proofs.Try.prog Go.Proofs.Try.f53 22 [] [(4, none), (5, none)] mc_spec_LevelForest = true := by kernel_rfl
def mc_spec_DrawRunTurns : MCode :=
 .seq
  (.reg [
     ⟨(some 2), none, .alloc [.i .i64 0, .nl 2]⟩,
     ⟨(some 3), none, .mov (.v (.nl 2))⟩] [0, 2])
  (.seq
  (.reg [
     ⟨(some 4), none, .mov (.t 0)⟩,
     ⟨(some 5), none, .call fid_spec_l11Case false [.im] [(.t 4)]⟩,
     ⟨(some 6), none, .extract (.t 5) 0⟩,
     ⟨(some 7), none, .extract (.t 5) 1⟩,
     ⟨none, none, .store 2 (.t 2) (.t 6)⟩,
     ⟨(some 3), none, .mov (.t 7)⟩] [2, 3])
  (.ret))
theorem get_spec_DrawRunTurns : Go.Proofs.Try.prog.funcs[fid_spec_DrawRunTurns]? = some Go.Proofs.Try.f56 := Go.Proofs.Try.func56
theorem ok_spec_DrawRunTurns : okFn Go.Proofs.Try.prog Go.Proofs.Try.f56 8 [] [(2, some (true, 2)), (3, none)] mc_spec_DrawRunTurns = true := by kernel_rfl
def mc_spec_RunTurns : MCode :=
 .seq
  (.reg [
     ⟨(some 2), none, .box 2 (.t 0)⟩,
     ⟨(some 4), none, .alloc [.i .i64 0, .nl 2]⟩,
     ⟨(some 5), none, .mov (.v (.b false))⟩] [1, 2, 4])
  (.seq
  (.seq
   (.reg [
      ⟨(some 10), none, .load true 2 (.t 2)⟩,
      ⟨(some 11), none, .call fid_spec_GraphValid false [.im] [(.t 10)]⟩,
      ⟨(some 12), none, .un .not (.t 11)⟩,
      ⟨(some 13), none, .mov (.t 12)⟩,
      ⟨(some 14), (some (13, false)), .mov (.t 1)⟩,
      ⟨(some 15), (some (13, false)), .len (.t 14)⟩,
      ⟨(some 16), (some (13, false)), .bin .gtr (.t 15) (.v (.i .i64 60))⟩,
      ⟨(some 17), none, .pick (.t 13) (.v (.b true)) (.t 16)⟩] [1, 2, 4, 17])
   (.cond (.t 17)
   (.seq
    (.reg [
       ⟨(some 18), none, .build [.i .i64 0, .nl 2] []⟩,
       ⟨none, none, .store 2 (.t 4) (.t 18)⟩,
       ⟨(some 5), none, .mov (.v (.b false))⟩] [4, 5])
    (.ret))
   (.skip)))
  (.seq
  (.reg [
     ⟨(some 19), none, .load true 2 (.t 2)⟩,
     ⟨(some 20), none, .call fid_spec_l1Copy false [.im] [(.t 19)]⟩,
     ⟨(some 6), none, .alloc [.i .i64 0, .nl 2]⟩,
     ⟨none, none, .store 2 (.t 6) (.t 20)⟩] [1, 4, 6])
  (.seq
  (.seq
   (.reg [
      ⟨(some 7), none, .mov (.v (.i .i64 0))⟩] [1, 4, 6, 7])
   (.block 0
   (.loop [1, 4, 6, 7]
    (.seq
     (.seq
      (.reg [
         ⟨(some 21), none, .mov (.t 7)⟩,
         ⟨(some 22), none, .mov (.t 1)⟩,
         ⟨(some 23), none, .len (.t 22)⟩,
         ⟨(some 24), none, .bin .lss (.t 21) (.t 23)⟩] [1, 4, 6, 7, 24])
      (.cond (.t 24)
      (.skip)
      (.exit 0)))
     (.seq
     (.block 1
      (.seq
       (.draw [0, 0, 0, 6, 14, 30, 63, 127, 255, 255, 0, 1535, 4095] [
          ⟨(some 28), none, .load true 2 (.t 6)⟩,
          ⟨(some 29), none, .mov (.t 1)⟩,
          ⟨(some 30), none, .mov (.t 7)⟩,
          ⟨(some 31), none, .indexAddr 2 (.t 29) (.t 30)⟩,
          ⟨(some 32), none, .fieldAddr 0 (.t 31)⟩,
          ⟨(some 33), none, .load true 2 (.t 32)⟩,
          ⟨(some 34), none, .call fid_spec_TurnEdge false [.im, .im] [(.t 28), (.t 33)]⟩,
          ⟨(some 27), none, .mov (.t 34)⟩,
          ⟨(some 35), none, .extract (.t 27) 0⟩,
          ⟨(some 36), none, .extract (.t 27) 1⟩,
          ⟨(some 8), none, .alloc [.i .i64 0, .nl 2]⟩,
          ⟨none, none, .store 2 (.t 8) (.t 35)⟩,
          ⟨(some 9), none, .mov (.t 36)⟩] [1, 4, 6, 7, 8, 9])
       (.seq
       (.seq
        (.reg [
           ⟨(some 37), none, .mov (.t 9)⟩,
           ⟨(some 38), none, .un .not (.t 37)⟩] [1, 4, 6, 7, 8, 38])
        (.cond (.t 38)
        (.seq
         (.reg [
            ⟨(some 39), none, .build [.i .i64 0, .nl 2] []⟩,
            ⟨none, none, .store 2 (.t 4) (.t 39)⟩,
            ⟨(some 5), none, .mov (.v (.b false))⟩] [4, 5])
         (.ret))
        (.skip)))
       (.reg [
         ⟨(some 40), none, .load true 2 (.t 8)⟩,
         ⟨none, none, .store 2 (.t 6) (.t 40)⟩] [1, 4, 6, 7]))))
     (.reg [
       ⟨(some 25), none, .mov (.t 7)⟩,
       ⟨(some 26), none, .bin .add (.t 25) (.v (.i .i64 1))⟩,
       ⟨(some 7), none, .mov (.t 26)⟩] [1, 4, 6, 7]))))))
  (.seq
  (.reg [
     ⟨(some 41), none, .load true 2 (.t 6)⟩,
     ⟨none, none, .store 2 (.t 4) (.t 41)⟩,
     ⟨(some 5), none, .mov (.v (.b true))⟩] [4, 5])
  (.ret)))))
theorem get_spec_RunTurns : Go.Proofs.Try.prog.funcs[fid_spec_RunTurns]? = some Go.Proofs.Try.f58 := Go.Proofs.Try.func58
theorem ok_spec_RunTurns : okFn Go.Proofs.Try.prog Go.Proofs.Try.f58 42 [] [(4, some (true, 2)), (5, none)] mc_spec_RunTurns = true := by kernel_rfl
def mc_spec_BestEdge : MCode :=
 .seq
  (.reg [
     ⟨(some 1), none, .box 2 (.t 0)⟩,
     ⟨(some 2), none, .alloc [.i .i64 0, .i .i64 0]⟩,
     ⟨(some 3), none, .mov (.v (.b false))⟩] [1, 2])
  (.seq
  (.reg [
     ⟨(some 10), none, .build [.i .i64 0, .i .i64 0] []⟩,
     ⟨(some 4), none, .alloc [.i .i64 0, .i .i64 0]⟩,
     ⟨none, none, .store 2 (.t 4) (.t 10)⟩] [1, 2, 4])
  (.seq
  (.reg [
     ⟨(some 5), none, .mov (.v (.i .i64 0))⟩] [1, 2, 4, 5])
  (.seq
  (.seq
   (.reg [
      ⟨(some 6), none, .mov (.v (.i .i64 0))⟩] [1, 2, 4, 5, 6])
   (.block 0
   (.loop [1, 2, 4, 5, 6]
    (.seq
     (.seq
      (.reg [
         ⟨(some 11), none, .mov (.t 6)⟩,
         ⟨(some 12), none, .fieldAddr 0 (.t 1)⟩,
         ⟨(some 13), none, .load false 1 (.t 12)⟩,
         ⟨(some 14), none, .bin .lss (.t 11) (.t 13)⟩,
         ⟨(some 15), none, .mov (.t 14)⟩,
         ⟨(some 16), (some (15, true)), .load true 2 (.t 1)⟩,
         ⟨(some 17), (some (15, true)), .call fid_spec_GraphValid false [.im] [(.t 16)]⟩,
         ⟨(some 18), none, .pick (.t 15) (.t 17) (.v (.b false))⟩] [1, 2, 4, 5, 6, 18])
      (.cond (.t 18)
      (.skip)
      (.exit 0)))
     (.seq
     (.block 1
      (.seq
       (.reg [
          ⟨(some 21), none, .mov (.t 6)⟩,
          ⟨(some 22), none, .bin .add (.t 21) (.v (.i .i64 1))⟩,
          ⟨(some 7), none, .mov (.t 22)⟩] [1, 2, 4, 5, 6, 7])
       (.block 2
       (.loop [1, 2, 4, 5, 6, 7]
        (.seq
         (.seq
          (.reg [
             ⟨(some 23), none, .mov (.t 7)⟩,
             ⟨(some 24), none, .fieldAddr 0 (.t 1)⟩,
             ⟨(some 25), none, .load false 1 (.t 24)⟩,
             ⟨(some 26), none, .bin .lss (.t 23) (.t 25)⟩] [1, 2, 4, 5, 6, 7, 26])
          (.cond (.t 26)
          (.skip)
          (.exit 2)))
         (.seq
         (.block 3
          (.seq
           (.reg [
              ⟨(some 30), none, .load true 2 (.t 1)⟩,
              ⟨(some 31), none, .mov (.t 6)⟩,
              ⟨(some 32), none, .mov (.t 7)⟩,
              ⟨(some 33), none, .build [.i .i64 0, .i .i64 0] [(0, 1, (.t 31)), (1, 1, (.t 32))]⟩,
              ⟨(some 34), none, .call fid_spec_LostBy false [.im, .im] [(.t 30), (.t 33)]⟩,
              ⟨(some 29), none, .mov (.t 34)⟩,
              ⟨(some 35), none, .extract (.t 29) 0⟩,
              ⟨(some 36), none, .extract (.t 29) 1⟩,
              ⟨(some 8), none, .mov (.t 35)⟩,
              ⟨(some 9), none, .mov (.t 36)⟩] [1, 2, 4, 5, 6, 7, 8, 9])
           (.seq
           (.reg [
              ⟨(some 37), none, .mov (.t 9)⟩,
              ⟨(some 38), none, .mov (.t 37)⟩,
              ⟨(some 39), (some (38, true)), .mov (.t 8)⟩,
              ⟨(some 40), (some (38, true)), .len (.t 39)⟩,
              ⟨(some 41), (some (38, true)), .mov (.t 5)⟩,
              ⟨(some 42), (some (38, true)), .bin .gtr (.t 40) (.t 41)⟩,
              ⟨(some 43), none, .pick (.t 38) (.t 42) (.v (.b false))⟩] [1, 2, 4, 5, 6, 7, 8, 43])
           (.cond (.t 43)
           (.seq
            (.reg [
               ⟨(some 44), none, .mov (.t 8)⟩,
               ⟨(some 45), none, .len (.t 44)⟩,
               ⟨(some 5), none, .mov (.t 45)⟩] [1, 2, 4, 5, 6, 7])
            (.reg [
              ⟨(some 46), none, .mov (.t 6)⟩,
              ⟨(some 47), none, .mov (.t 7)⟩,
              ⟨(some 48), none, .build [.i .i64 0, .i .i64 0] [(0, 1, (.t 46)), (1, 1, (.t 47))]⟩,
              ⟨none, none, .store 2 (.t 4) (.t 48)⟩] [1, 2, 4, 5, 6, 7]))
           (.skip)))))
         (.reg [
           ⟨(some 27), none, .mov (.t 7)⟩,
           ⟨(some 28), none, .bin .add (.t 27) (.v (.i .i64 1))⟩,
           ⟨(some 7), none, .mov (.t 28)⟩] [1, 2, 4, 5, 6, 7])))))))
     (.reg [
       ⟨(some 19), none, .mov (.t 6)⟩,
       ⟨(some 20), none, .bin .add (.t 19) (.v (.i .i64 1))⟩,
       ⟨(some 6), none, .mov (.t 20)⟩] [1, 2, 4, 5, 6]))))))
  (.seq
  (.reg [
     ⟨(some 49), none, .load true 2 (.t 4)⟩,
     ⟨(some 50), none, .mov (.t 5)⟩,
     ⟨(some 51), none, .bin .gtr (.t 50) (.v (.i .i64 0))⟩,
     ⟨none, none, .store 2 (.t 2) (.t 49)⟩,
     ⟨(some 3), none, .mov (.t 51)⟩] [2, 3])
  (.ret)))))
theorem get_spec_BestEdge : Go.Proofs.Try.prog.funcs[fid_spec_BestEdge]? = some Go.Proofs.Try.f60 := Go.Proofs.Try.func60
theorem ok_spec_BestEdge : okFn Go.Proofs.Try.prog Go.Proofs.Try.f60 52 [] [(2, some (true, 2)), (3, none)] mc_spec_BestEdge = true := by kernel_rfl
def mc_spec_LostBy : MCode :=
 .seq
  (.reg [
     ⟨(some 2), none, .box 2 (.t 0)⟩,
     ⟨(some 3), none, .box 2 (.t 1)⟩,
     ⟨(some 4), none, .mov (.v (.nl 2))⟩,
     ⟨(some 5), none, .mov (.v (.b false))⟩] [2, 3])
  (.seq
  (.reg [
     ⟨(some 9), none, .load true 2 (.t 2)⟩,
     ⟨(some 10), none, .load true 2 (.t 3)⟩,
     ⟨(some 11), none, .call fid_spec_PutEdge false [.im, .im] [(.t 9), (.t 10)]⟩,
     ⟨(some 8), none, .mov (.t 11)⟩,
     ⟨(some 12), none, .extract (.t 8) 0⟩,
     ⟨(some 13), none, .extract (.t 8) 1⟩,
     ⟨(some 6), none, .alloc [.i .i64 0, .nl 2]⟩,
     ⟨none, none, .store 2 (.t 6) (.t 12)⟩,
     ⟨(some 7), none, .mov (.t 13)⟩] [2, 3, 7])
  (.seq
  (.seq
   (.reg [
      ⟨(some 14), none, .mov (.t 7)⟩,
      ⟨(some 15), none, .un .not (.t 14)⟩] [2, 3, 15])
   (.cond (.t 15)
   (.seq
    (.reg [
       ⟨(some 16), none, .buildSlice 2 []⟩,
       ⟨(some 4), none, .mov (.t 16)⟩,
       ⟨(some 5), none, .mov (.v (.b false))⟩] [4, 5])
    (.ret))
   (.skip)))
  (.seq
  (.seq
   (.reg [
      ⟨(some 17), none, .load true 2 (.t 2)⟩,
      ⟨(some 18), none, .fieldAddr 0 (.t 3)⟩,
      ⟨(some 19), none, .load false 1 (.t 18)⟩,
      ⟨(some 20), none, .fieldAddr 1 (.t 3)⟩,
      ⟨(some 21), none, .load false 1 (.t 20)⟩,
      ⟨(some 22), none, .call fid_spec_l2Joined false [.im, .im, .im] [(.t 17), (.t 19), (.t 21)]⟩,
      ⟨(some 23), none, .un .not (.t 22)⟩] [2, 3, 23])
   (.cond (.t 23)
   (.seq
    (.reg [
       ⟨(some 24), none, .buildSlice 2 []⟩,
       ⟨(some 4), none, .mov (.t 24)⟩,
       ⟨(some 5), none, .mov (.v (.b true))⟩] [4, 5])
    (.ret))
   (.skip)))
  (.seq
  (.reg [
     ⟨(some 25), none, .load true 2 (.t 2)⟩,
     ⟨(some 26), none, .fieldAddr 0 (.t 3)⟩,
     ⟨(some 27), none, .load false 1 (.t 26)⟩,
     ⟨(some 28), none, .fieldAddr 1 (.t 3)⟩,
     ⟨(some 29), none, .load false 1 (.t 28)⟩,
     ⟨(some 30), none, .call fid_spec_BridgesBetween false [.im, .im, .im] [(.t 25), (.t 27), (.t 29)]⟩,
     ⟨(some 31), none, .extract (.t 30) 0⟩,
     ⟨(some 32), none, .extract (.t 30) 1⟩,
     ⟨(some 4), none, .mov (.t 31)⟩,
     ⟨(some 5), none, .mov (.t 32)⟩] [4, 5])
  (.ret)))))
theorem get_spec_LostBy : Go.Proofs.Try.prog.funcs[fid_spec_LostBy]? = some Go.Proofs.Try.f63 := Go.Proofs.Try.func63
theorem ok_spec_LostBy : okFn Go.Proofs.Try.prog Go.Proofs.Try.f63 33 [] [(4, none), (5, none)] mc_spec_LostBy = true := by kernel_rfl
def mc_spec_DrawBestEdge : MCode :=
 .seq
  (.reg [
     ⟨(some 2), none, .alloc [.i .i64 0, .nl 2]⟩] [0, 2])
  (.seq
  (.reg [
     ⟨(some 3), none, .mov (.t 0)⟩,
     ⟨(some 4), none, .call fid_spec_l14Open true [.im] [(.t 3)]⟩,
     ⟨(some 5), none, .call fid_spec_l5Small true [.io] [(.t 4)]⟩,
     ⟨none, none, .store 2 (.t 2) (.t 5)⟩] [2])
  (.ret))
theorem get_spec_DrawBestEdge : Go.Proofs.Try.prog.funcs[fid_spec_DrawBestEdge]? = some Go.Proofs.Try.f65 := Go.Proofs.Try.func65
theorem ok_spec_DrawBestEdge : okFn Go.Proofs.Try.prog Go.Proofs.Try.f65 6 [] [(2, some (true, 2))] mc_spec_DrawBestEdge = true := by kernel_rfl
def mc_spec_l1Edge : MCode :=
 .seq
  (.reg [
     ⟨(some 4), none, .alloc [.i .i64 0, .i .i64 0]⟩] [0, 1, 4])
  (.seq
  (.seq
   (.reg [
      ⟨(some 5), none, .mov (.t 0)⟩,
      ⟨(some 6), none, .mov (.t 1)⟩,
      ⟨(some 7), none, .bin .lss (.t 5) (.t 6)⟩] [0, 1, 4, 7])
   (.cond (.t 7)
   (.seq
    (.reg [
       ⟨(some 8), none, .mov (.t 0)⟩,
       ⟨(some 9), none, .mov (.t 1)⟩,
       ⟨(some 10), none, .build [.i .i64 0, .i .i64 0] [(0, 1, (.t 8)), (1, 1, (.t 9))]⟩,
       ⟨none, none, .store 2 (.t 4) (.t 10)⟩] [4])
    (.ret))
   (.skip)))
  (.seq
  (.reg [
     ⟨(some 11), none, .mov (.t 1)⟩,
     ⟨(some 12), none, .mov (.t 0)⟩,
     ⟨(some 13), none, .build [.i .i64 0, .i .i64 0] [(0, 1, (.t 11)), (1, 1, (.t 12))]⟩,
     ⟨none, none, .store 2 (.t 4) (.t 13)⟩] [4])
  (.ret)))
theorem get_spec_l1Edge : Go.Proofs.Try.prog.funcs[fid_spec_l1Edge]? = some Go.Proofs.Try.f70 := Go.Proofs.Try.func70
theorem ok_spec_l1Edge : okFn Go.Proofs.Try.prog Go.Proofs.Try.f70 14 [] [(4, some (true, 2))] mc_spec_l1Edge = true := by kernel_rfl
def mc_spec_l2Node : MCode :=
 .seq
  (.reg [
     ⟨(some 2), none, .box 2 (.t 0)⟩,
     ⟨(some 4), none, .mov (.v (.b false))⟩] [1, 2])
  (.seq
  (.reg [
     ⟨(some 5), none, .load true 2 (.t 2)⟩,
     ⟨(some 6), none, .call fid_spec_GraphValid false [.im] [(.t 5)]⟩,
     ⟨(some 7), none, .mov (.t 6)⟩,
     ⟨(some 8), (some (7, true)), .mov (.t 1)⟩,
     ⟨(some 9), (some (7, true)), .bin .geq (.t 8) (.v (.i .i64 0))⟩,
     ⟨(some 10), none, .pick (.t 7) (.t 9) (.v (.b false))⟩,
     ⟨(some 11), none, .mov (.t 10)⟩,
     ⟨(some 12), (some (11, true)), .mov (.t 1)⟩,
     ⟨(some 13), (some (11, true)), .fieldAddr 0 (.t 2)⟩,
     ⟨(some 14), (some (11, true)), .load false 1 (.t 13)⟩,
     ⟨(some 15), (some (11, true)), .bin .lss (.t 12) (.t 14)⟩,
     ⟨(some 16), none, .pick (.t 11) (.t 15) (.v (.b false))⟩,
     ⟨(some 4), none, .mov (.t 16)⟩] [4])
  (.ret))
theorem get_spec_l2Node : Go.Proofs.Try.prog.funcs[fid_spec_l2Node]? = some Go.Proofs.Try.f76 := Go.Proofs.Try.func76
theorem ok_spec_l2Node : okFn Go.Proofs.Try.prog Go.Proofs.Try.f76 17 [] [(4, none)] mc_spec_l2Node = true := by kernel_rfl
def mc_spec_l2Joined : MCode :=
 .seq
  (.reg [
     ⟨(some 3), none, .box 2 (.t 0)⟩,
     ⟨(some 6), none, .mov (.v (.b false))⟩] [1, 2, 3])
  (.seq
  (.reg [
     ⟨(some 8), none, .load true 2 (.t 3)⟩,
     ⟨(some 9), none, .call fid_spec_l2Labels false [.im] [(.t 8)]⟩,
     ⟨(some 7), none, .mov (.t 9)⟩] [1, 2, 7])
  (.seq
  (.draw [0, 0, 3, 7, 0, 0, 48, 112, 255, 511] [
     ⟨(some 10), none, .mov (.t 7)⟩,
     ⟨(some 11), none, .mov (.t 1)⟩,
     ⟨(some 12), none, .indexAddr 1 (.t 10) (.t 11)⟩,
     ⟨(some 13), none, .load false 1 (.t 12)⟩,
     ⟨(some 14), none, .mov (.t 7)⟩,
     ⟨(some 15), none, .mov (.t 2)⟩,
     ⟨(some 16), none, .indexAddr 1 (.t 14) (.t 15)⟩,
     ⟨(some 17), none, .load false 1 (.t 16)⟩,
     ⟨(some 18), none, .bin .eql (.t 13) (.t 17)⟩,
     ⟨(some 6), none, .mov (.t 18)⟩] [6])
  (.ret)))
theorem get_spec_l2Joined : Go.Proofs.Try.prog.funcs[fid_spec_l2Joined]? = some Go.Proofs.Try.f77 := Go.Proofs.Try.func77
theorem ok_spec_l2Joined : okFn Go.Proofs.Try.prog Go.Proofs.Try.f77 19 [] [(6, none)] mc_spec_l2Joined = true := by kernel_rfl
def mc_spec_GraphValid : MCode :=
 .seq
  (.reg [
     ⟨(some 1), none, .box 2 (.t 0)⟩,
     ⟨(some 2), none, .mov (.v (.b false))⟩] [1])
  (.seq
  (.seq
   (.reg [
      ⟨(some 5), none, .fieldAddr 0 (.t 1)⟩,
      ⟨(some 6), none, .load false 1 (.t 5)⟩,
      ⟨(some 7), none, .bin .lss (.t 6) (.v (.i .i64 1))⟩,
      ⟨(some 8), none, .mov (.t 7)⟩,
      ⟨(some 9), (some (8, false)), .fieldAddr 0 (.t 1)⟩,
      ⟨(some 10), (some (8, false)), .load false 1 (.t 9)⟩,
      ⟨(some 11), (some (8, false)), .bin .gtr (.t 10) (.v (.i .i64 16))⟩,
      ⟨(some 12), none, .pick (.t 8) (.v (.b true)) (.t 11)⟩,
      ⟨(some 13), none, .mov (.t 12)⟩,
      ⟨(some 14), (some (13, false)), .fieldAddr 1 (.t 1)⟩,
      ⟨(some 15), (some (13, false)), .load false 1 (.t 14)⟩,
      ⟨(some 16), (some (13, false)), .len (.t 15)⟩,
      ⟨(some 17), (some (13, false)), .bin .gtr (.t 16) (.v (.i .i64 40))⟩,
      ⟨(some 18), none, .pick (.t 13) (.v (.b true)) (.t 17)⟩] [1, 18])
   (.cond (.t 18)
   (.seq
    (.reg [
       ⟨(some 2), none, .mov (.v (.b false))⟩] [2])
    (.ret))
   (.skip)))
  (.seq
  (.seq
   (.reg [
      ⟨(some 3), none, .mov (.v (.i .i64 0))⟩] [1, 3])
   (.block 0
   (.loop [1, 3]
    (.seq
     (.seq
      (.reg [
         ⟨(some 19), none, .mov (.t 3)⟩,
         ⟨(some 20), none, .fieldAddr 1 (.t 1)⟩,
         ⟨(some 21), none, .load false 1 (.t 20)⟩,
         ⟨(some 22), none, .len (.t 21)⟩,
         ⟨(some 23), none, .bin .lss (.t 19) (.t 22)⟩] [1, 3, 23])
      (.cond (.t 23)
      (.skip)
      (.exit 0)))
     (.seq
     (.block 1
      (.seq
       (.reg [
          ⟨(some 26), none, .fieldAddr 1 (.t 1)⟩,
          ⟨(some 27), none, .load false 1 (.t 26)⟩,
          ⟨(some 28), none, .mov (.t 3)⟩,
          ⟨(some 29), none, .indexAddr 2 (.t 27) (.t 28)⟩,
          ⟨(some 30), none, .load true 2 (.t 29)⟩,
          ⟨(some 4), none, .alloc [.i .i64 0, .i .i64 0]⟩,
          ⟨none, none, .store 2 (.t 4) (.t 30)⟩] [1, 3, 4])
       (.seq
       (.draw [0, 1, 3, 7, 15, 31, 15, 79, 255, 511, 1023, 2047, 4095, 2047, 10239, 32767, 65535, 131071, 262143, 524287, 1048575, 2097151, 4194303, 2097151, 10485759, 33554431, 67108863, 2097151, 268435455, 536870911, 1073741823, 2147483647] [
          ⟨(some 31), none, .fieldAddr 0 (.t 4)⟩,
          ⟨(some 32), none, .load false 1 (.t 31)⟩,
          ⟨(some 33), none, .bin .lss (.t 32) (.v (.i .i64 0))⟩,
          ⟨(some 34), none, .mov (.t 33)⟩,
          ⟨(some 35), (some (34, false)), .fieldAddr 0 (.t 4)⟩,
          ⟨(some 36), (some (34, false)), .load false 1 (.t 35)⟩,
          ⟨(some 37), (some (34, false)), .fieldAddr 1 (.t 4)⟩,
          ⟨(some 38), (some (34, false)), .load false 1 (.t 37)⟩,
          ⟨(some 39), (some (34, false)), .bin .geq (.t 36) (.t 38)⟩,
          ⟨(some 40), none, .pick (.t 34) (.v (.b true)) (.t 39)⟩,
          ⟨(some 41), none, .mov (.t 40)⟩,
          ⟨(some 42), (some (41, false)), .fieldAddr 1 (.t 4)⟩,
          ⟨(some 43), (some (41, false)), .load false 1 (.t 42)⟩,
          ⟨(some 44), (some (41, false)), .fieldAddr 0 (.t 1)⟩,
          ⟨(some 45), (some (41, false)), .load false 1 (.t 44)⟩,
          ⟨(some 46), (some (41, false)), .bin .geq (.t 43) (.t 45)⟩,
          ⟨(some 47), none, .pick (.t 41) (.v (.b true)) (.t 46)⟩,
          ⟨(some 48), none, .mov (.t 47)⟩,
          ⟨(some 49), (some (48, false)), .mov (.t 3)⟩,
          ⟨(some 50), (some (48, false)), .bin .gtr (.t 49) (.v (.i .i64 0))⟩,
          ⟨(some 51), (some (48, false)), .mov (.t 50)⟩,
          ⟨(some 52), (some (51, true)), .fieldAddr 1 (.t 1)⟩,
          ⟨(some 53), (some (51, true)), .load false 1 (.t 52)⟩,
          ⟨(some 54), (some (51, true)), .mov (.t 3)⟩,
          ⟨(some 55), (some (51, true)), .bin .sub (.t 54) (.v (.i .i64 1))⟩,
          ⟨(some 56), (some (51, true)), .indexAddr 2 (.t 53) (.t 55)⟩,
          ⟨(some 57), (some (51, true)), .load true 2 (.t 56)⟩,
          ⟨(some 58), (some (51, true)), .load true 2 (.t 4)⟩,
          ⟨(some 59), (some (51, true)), .call fid_spec_l1Less false [.im, .im] [(.t 57), (.t 58)]⟩,
          ⟨(some 60), (some (51, true)), .un .not (.t 59)⟩,
          ⟨(some 61), (some (48, false)), .pick (.t 51) (.t 60) (.v (.b false))⟩,
          ⟨(some 62), none, .pick (.t 48) (.v (.b true)) (.t 61)⟩] [1, 3, 62])
       (.cond (.t 62)
       (.seq
        (.reg [
           ⟨(some 2), none, .mov (.v (.b false))⟩] [2])
        (.ret))
       (.skip)))))
     (.reg [
       ⟨(some 24), none, .mov (.t 3)⟩,
       ⟨(some 25), none, .bin .add (.t 24) (.v (.i .i64 1))⟩,
       ⟨(some 3), none, .mov (.t 25)⟩] [1, 3]))))))
  (.seq
  (.reg [
     ⟨(some 2), none, .mov (.v (.b true))⟩] [2])
  (.ret))))
theorem get_spec_GraphValid : Go.Proofs.Try.prog.funcs[fid_spec_GraphValid]? = some Go.Proofs.Try.f81 := Go.Proofs.Try.func81
theorem ok_spec_GraphValid : okFn Go.Proofs.Try.prog Go.Proofs.Try.f81 63 [] [(2, none)] mc_spec_GraphValid = true := by kernel_rfl
def mc_spec_l6In : MCode :=
 .seq
  (.reg [
     ⟨(some 4), none, .mov (.v (.b false))⟩] [0, 1])
  (.seq
  (.seq
   (.reg [
      ⟨(some 5), none, .mov (.v (.i .i64 0))⟩] [0, 1, 5])
   (.block 0
   (.loop [0, 1, 5]
    (.seq
     (.seq
      (.reg [
         ⟨(some 6), none, .mov (.t 5)⟩,
         ⟨(some 7), none, .mov (.t 0)⟩,
         ⟨(some 8), none, .len (.t 7)⟩,
         ⟨(some 9), none, .bin .lss (.t 6) (.t 8)⟩] [0, 1, 5, 9])
      (.cond (.t 9)
      (.skip)
      (.exit 0)))
     (.seq
     (.block 1
      (.seq
       (.reg [
          ⟨(some 12), none, .mov (.t 0)⟩,
          ⟨(some 13), none, .mov (.t 5)⟩,
          ⟨(some 14), none, .indexAddr 1 (.t 12) (.t 13)⟩,
          ⟨(some 15), none, .load false 1 (.t 14)⟩,
          ⟨(some 16), none, .mov (.t 1)⟩,
          ⟨(some 17), none, .bin .eql (.t 15) (.t 16)⟩] [0, 1, 5, 17])
       (.cond (.t 17)
       (.seq
        (.reg [
           ⟨(some 4), none, .mov (.v (.b true))⟩] [4])
        (.ret))
       (.skip))))
     (.reg [
       ⟨(some 10), none, .mov (.t 5)⟩,
       ⟨(some 11), none, .bin .add (.t 10) (.v (.i .i64 1))⟩,
       ⟨(some 5), none, .mov (.t 11)⟩] [0, 1, 5]))))))
  (.seq
  (.reg [
     ⟨(some 4), none, .mov (.v (.b false))⟩] [4])
  (.ret)))
theorem get_spec_l6In : Go.Proofs.Try.prog.funcs[fid_spec_l6In]? = some Go.Proofs.Try.f82 := Go.Proofs.Try.func82
theorem ok_spec_l6In : okFn Go.Proofs.Try.prog Go.Proofs.Try.f82 18 [] [(4, none)] mc_spec_l6In = true := by kernel_rfl
def mc_spec_l14Open : MCode :=
 .seq
  (.reg [
     ⟨(some 2), none, .mov (.v (.u))⟩] [0])
  (.seq
  (.seq
   (.reg [
      ⟨(some 3), none, .mov (.t 0)⟩,
      ⟨(some 4), none, .len (.t 3)⟩,
      ⟨(some 5), none, .bin .gtr (.t 4) (.v (.i .i64 2000))⟩] [0, 5])
   (.cond (.t 5)
   (.reg [
      ⟨(some 6), none, .mov (.t 0)⟩,
      ⟨(some 7), none, .slice 1 (.t 6) none (some (.v (.i .i64 2000)))⟩,
      ⟨(some 0), none, .mov (.t 7)⟩] [0])
   (.skip)))
  (.seq
  (.reg [
     ⟨(some 8), none, .mov (.t 0)⟩,
     ⟨(some 9), none, .build [.nl 1, .i .i64 0] [(0, 1, (.t 8))]⟩,
     ⟨(some 10), none, .box 2 (.t 9)⟩,
     ⟨(some 2), none, .mov (.t 10)⟩] [2])
  (.ret)))
theorem get_spec_l14Open : Go.Proofs.Try.prog.funcs[fid_spec_l14Open]? = some Go.Proofs.Try.f85 := Go.Proofs.Try.func85
theorem ok_spec_l14Open : okFn Go.Proofs.Try.prog Go.Proofs.Try.f85 11 [] [(2, none)] mc_spec_l14Open = true := by kernel_rfl
def mc_spec_l10Draw : MCode :=
 .seq
  (.reg [
     ⟨(some 2), none, .alloc [.i .i64 0, .nl 2]⟩] [0, 2])
  (.seq
  (.reg [
     ⟨(some 7), none, .mov (.t 0)⟩,
     ⟨(some 8), none, .buildSlice 1 [(.v (.i .i64 5)), (.v (.i .i64 4)), (.v (.i .i64 6)), (.v (.i .i64 3)), (.v (.i .i64 7))]⟩,
     ⟨(some 9), none, .call fid_p_spec_l14Rd_num false [.io, .im] [(.t 7), (.t 8)]⟩,
     ⟨(some 10), none, .build [.i .i64 0, .nl 2] [(0, 1, (.t 9))]⟩,
     ⟨(some 3), none, .alloc [.i .i64 0, .nl 2]⟩,
     ⟨none, none, .store 2 (.t 3) (.t 10)⟩] [0, 2, 3])
  (.seq
  (.seq
   (.reg [
      ⟨(some 11), none, .mov (.t 0)⟩,
      ⟨(some 12), none, .buildSlice 1 [(.v (.i .i64 9)), (.v (.i .i64 7)), (.v (.i .i64 12)), (.v (.i .i64 5)), (.v (.i .i64 3))]⟩,
      ⟨(some 13), none, .call fid_p_spec_l14Rd_num false [.io, .im] [(.t 11), (.t 12)]⟩,
      ⟨(some 4), none, .mov (.t 13)⟩] [0, 2, 3, 4])
   (.block 0
   (.loop [0, 2, 3, 4]
    (.seq
     (.seq
      (.reg [
         ⟨(some 14), none, .mov (.t 4)⟩,
         ⟨(some 15), none, .bin .gtr (.t 14) (.v (.i .i64 0))⟩] [0, 2, 3, 4, 15])
      (.cond (.t 15)
      (.skip)
      (.exit 0)))
     (.seq
     (.block 1
      (.seq
       (.reg [
          ⟨(some 18), none, .mov (.t 0)⟩,
          ⟨(some 19), none, .fieldAddr 0 (.t 3)⟩,
          ⟨(some 20), none, .load false 1 (.t 19)⟩,
          ⟨(some 21), none, .call fid_p_spec_l14Rd_pick false [.io, .im] [(.t 18), (.t 20)]⟩,
          ⟨(some 5), none, .mov (.t 21)⟩] [0, 2, 3, 4, 5])
       (.seq
       (.reg [
          ⟨(some 22), none, .mov (.t 0)⟩,
          ⟨(some 23), none, .fieldAddr 0 (.t 3)⟩,
          ⟨(some 24), none, .load false 1 (.t 23)⟩,
          ⟨(some 25), none, .call fid_p_spec_l14Rd_pick false [.io, .im] [(.t 22), (.t 24)]⟩,
          ⟨(some 6), none, .mov (.t 25)⟩] [0, 2, 3, 4, 5, 6])
       (.seq
       (.draw [0, 0, 3, 7, 15, 31, 15, 15, 207, 511, 1023, 2047] [
          ⟨(some 26), none, .mov (.t 5)⟩,
          ⟨(some 27), none, .mov (.t 6)⟩,
          ⟨(some 28), none, .bin .neq (.t 26) (.t 27)⟩,
          ⟨(some 29), none, .mov (.t 28)⟩,
          ⟨(some 30), (some (29, true)), .fieldAddr 1 (.t 3)⟩,
          ⟨(some 31), (some (29, true)), .load false 1 (.t 30)⟩,
          ⟨(some 32), (some (29, true)), .mov (.t 5)⟩,
          ⟨(some 33), (some (29, true)), .mov (.t 6)⟩,
          ⟨(some 34), (some (29, true)), .call fid_spec_l1Edge false [.im, .im] [(.t 32), (.t 33)]⟩,
          ⟨(some 35), (some (29, true)), .call fid_spec_l1Find false [.im, .im] [(.t 31), (.t 34)]⟩,
          ⟨(some 36), (some (29, true)), .bin .lss (.t 35) (.v (.i .i64 0))⟩,
          ⟨(some 37), none, .pick (.t 29) (.t 36) (.v (.b false))⟩] [0, 2, 3, 4, 5, 6, 37])
       (.cond (.t 37)
       (.draw [0, 1, 0, 0, 12, 31, 63, 127] [
          ⟨(some 38), none, .fieldAddr 1 (.t 3)⟩,
          ⟨(some 39), none, .load false 1 (.t 38)⟩,
          ⟨(some 40), none, .mov (.t 5)⟩,
          ⟨(some 41), none, .mov (.t 6)⟩,
          ⟨(some 42), none, .call fid_spec_l1Edge false [.im, .im] [(.t 40), (.t 41)]⟩,
          ⟨(some 43), none, .call fid_spec_l1Put false [.im, .im] [(.t 39), (.t 42)]⟩,
          ⟨(some 44), none, .fieldAddr 1 (.t 3)⟩,
          ⟨none, none, .store 1 (.t 44) (.t 43)⟩] [0, 2, 3, 4])
       (.skip))))))
     (.reg [
       ⟨(some 16), none, .mov (.t 4)⟩,
       ⟨(some 17), none, .bin .sub (.t 16) (.v (.i .i64 1))⟩,
       ⟨(some 4), none, .mov (.t 17)⟩] [0, 2, 3, 4]))))))
  (.seq
  (.reg [
     ⟨(some 45), none, .load true 2 (.t 3)⟩,
     ⟨none, none, .store 2 (.t 2) (.t 45)⟩] [0, 2])
  (.ret))))
theorem get_spec_l10Draw : Go.Proofs.Try.prog.funcs[fid_spec_l10Draw]? = some Go.Proofs.Try.f86 := Go.Proofs.Try.func86
theorem ok_spec_l10Draw : okFn Go.Proofs.Try.prog Go.Proofs.Try.f86 46 [0] [(2, some (true, 2))] mc_spec_l10Draw = true := by kernel_rfl
def mc_p_spec_l14Rd_pick : MCode :=
 .seq
  (.reg [
     ⟨(some 4), none, .mov (.v (.i .i64 0))⟩] [0, 1])
  (.seq
  (.reg [
     ⟨(some 7), none, .mov (.t 0)⟩,
     ⟨(some 8), none, .mov (.t 0)⟩,
     ⟨(some 9), none, .nilCheck (.t 8)⟩,
     ⟨(some 10), none, .fieldAddr 1 (.t 9)⟩,
     ⟨(some 11), none, .load false 1 (.t 10)⟩,
     ⟨(some 12), none, .bin .add (.t 11) (.v (.i .i64 1))⟩,
     ⟨(some 13), none, .nilCheck (.t 7)⟩,
     ⟨(some 14), none, .fieldAddr 1 (.t 13)⟩,
     ⟨none, none, .store 1 (.t 14) (.t 12)⟩] [0, 1])
  (.seq
  (.seq
   (.reg [
      ⟨(some 15), none, .mov (.t 1)⟩,
      ⟨(some 16), none, .bin .lss (.t 15) (.v (.i .i64 1))⟩,
      ⟨(some 17), none, .mov (.t 16)⟩,
      ⟨(some 18), (some (17, false)), .mov (.t 0)⟩,
      ⟨(some 19), (some (17, false)), .nilCheck (.t 18)⟩,
      ⟨(some 20), (some (17, false)), .fieldAddr 0 (.t 19)⟩,
      ⟨(some 21), (some (17, false)), .load false 1 (.t 20)⟩,
      ⟨(some 22), (some (17, false)), .len (.t 21)⟩,
      ⟨(some 23), (some (17, false)), .bin .eql (.t 22) (.v (.i .i64 0))⟩,
      ⟨(some 24), none, .pick (.t 17) (.v (.b true)) (.t 23)⟩] [0, 1, 24])
   (.cond (.t 24)
   (.seq
    (.reg [
       ⟨(some 4), none, .mov (.v (.i .i64 0))⟩] [0, 4])
    (.ret))
   (.skip)))
  (.seq
  (.reg [
     ⟨(some 25), none, .mov (.t 0)⟩,
     ⟨(some 26), none, .nilCheck (.t 25)⟩,
     ⟨(some 27), none, .fieldAddr 1 (.t 26)⟩,
     ⟨(some 28), none, .load false 1 (.t 27)⟩,
     ⟨(some 29), none, .bin .sub (.t 28) (.v (.i .i64 1))⟩,
     ⟨(some 5), none, .mov (.t 29)⟩] [0, 1, 5])
  (.seq
  (.seq
   (.reg [
      ⟨(some 30), none, .mov (.t 5)⟩,
      ⟨(some 31), none, .mov (.t 0)⟩,
      ⟨(some 32), none, .nilCheck (.t 31)⟩,
      ⟨(some 33), none, .fieldAddr 0 (.t 32)⟩,
      ⟨(some 34), none, .load false 1 (.t 33)⟩,
      ⟨(some 35), none, .len (.t 34)⟩,
      ⟨(some 36), none, .bin .lss (.t 30) (.t 35)⟩] [0, 1, 5, 36])
   (.cond (.t 36)
   (.seq
    (.reg [
       ⟨(some 37), none, .mov (.t 0)⟩,
       ⟨(some 38), none, .nilCheck (.t 37)⟩,
       ⟨(some 39), none, .fieldAddr 0 (.t 38)⟩,
       ⟨(some 40), none, .load false 1 (.t 39)⟩,
       ⟨(some 41), none, .mov (.t 5)⟩,
       ⟨(some 42), none, .indexAddr 1 (.t 40) (.t 41)⟩,
       ⟨(some 43), none, .load false 1 (.t 42)⟩,
       ⟨(some 44), none, .conv .i64 (.t 43)⟩,
       ⟨(some 45), none, .mov (.t 1)⟩,
       ⟨(some 46), none, .bin .rem (.t 44) (.t 45)⟩,
       ⟨(some 4), none, .mov (.t 46)⟩] [0, 4])
    (.ret))
   (.skip)))
  (.seq
  (.draw [0, 1, 3, 7, 0, 0, 32, 96, 224, 480, 1008, 2047, 4095, 8191, 16383, 0, 32768, 98304, 229376, 0, 524288, 1572864, 0, 4194304, 12582912, 29360128, 62914560, 133693440, 268402688, 536838144, 1073709056, 2147450880, 4294967295, 0, 8589934592, 34359738367, 0, 0, 137438953472, 412316860416, 962072674304, 2061584302080, 4329327034368, 8727373545472, 17592186044415, 35184372088831] [
     ⟨(some 47), none, .mov (.t 0)⟩,
     ⟨(some 48), none, .nilCheck (.t 47)⟩,
     ⟨(some 49), none, .fieldAddr 0 (.t 48)⟩,
     ⟨(some 50), none, .load false 1 (.t 49)⟩,
     ⟨(some 51), none, .mov (.t 5)⟩,
     ⟨(some 52), none, .mov (.t 0)⟩,
     ⟨(some 53), none, .nilCheck (.t 52)⟩,
     ⟨(some 54), none, .fieldAddr 0 (.t 53)⟩,
     ⟨(some 55), none, .load false 1 (.t 54)⟩,
     ⟨(some 56), none, .len (.t 55)⟩,
     ⟨(some 57), none, .bin .rem (.t 51) (.t 56)⟩,
     ⟨(some 58), none, .indexAddr 1 (.t 50) (.t 57)⟩,
     ⟨(some 59), none, .load false 1 (.t 58)⟩,
     ⟨(some 60), none, .conv .i64 (.t 59)⟩,
     ⟨(some 61), none, .bin .mul (.t 60) (.v (.i .i64 131))⟩,
     ⟨(some 62), none, .mov (.t 0)⟩,
     ⟨(some 63), none, .nilCheck (.t 62)⟩,
     ⟨(some 64), none, .fieldAddr 0 (.t 63)⟩,
     ⟨(some 65), none, .load false 1 (.t 64)⟩,
     ⟨(some 66), none, .mov (.t 5)⟩,
     ⟨(some 67), none, .bin .mul (.t 66) (.v (.i .i64 7))⟩,
     ⟨(some 68), none, .bin .add (.t 67) (.v (.i .i64 3))⟩,
     ⟨(some 69), none, .mov (.t 0)⟩,
     ⟨(some 70), none, .nilCheck (.t 69)⟩,
     ⟨(some 71), none, .fieldAddr 0 (.t 70)⟩,
     ⟨(some 72), none, .load false 1 (.t 71)⟩,
     ⟨(some 73), none, .len (.t 72)⟩,
     ⟨(some 74), none, .bin .rem (.t 68) (.t 73)⟩,
     ⟨(some 75), none, .indexAddr 1 (.t 65) (.t 74)⟩,
     ⟨(some 76), none, .load false 1 (.t 75)⟩,
     ⟨(some 77), none, .conv .i64 (.t 76)⟩,
     ⟨(some 78), none, .bin .mul (.t 77) (.v (.i .i64 1117))⟩,
     ⟨(some 79), none, .bin .add (.t 61) (.t 78)⟩,
     ⟨(some 80), none, .mov (.t 5)⟩,
     ⟨(some 81), none, .bin .mul (.t 80) (.v (.i .i64 29))⟩,
     ⟨(some 82), none, .bin .add (.t 79) (.t 81)⟩,
     ⟨(some 83), none, .mov (.t 5)⟩,
     ⟨(some 84), none, .mov (.t 0)⟩,
     ⟨(some 85), none, .nilCheck (.t 84)⟩,
     ⟨(some 86), none, .fieldAddr 0 (.t 85)⟩,
     ⟨(some 87), none, .load false 1 (.t 86)⟩,
     ⟨(some 88), none, .len (.t 87)⟩,
     ⟨(some 89), none, .bin .quo (.t 83) (.t 88)⟩,
     ⟨(some 90), none, .bin .mul (.t 89) (.v (.i .i64 53))⟩,
     ⟨(some 91), none, .bin .add (.t 82) (.t 90)⟩,
     ⟨(some 6), none, .mov (.t 91)⟩] [0, 1, 6])
  (.seq
  (.reg [
     ⟨(some 92), none, .mov (.t 6)⟩,
     ⟨(some 93), none, .mov (.t 6)⟩,
     ⟨(some 94), none, .bin .quo (.t 93) (.v (.i .i64 64))⟩,
     ⟨(some 95), none, .bin .xor (.t 92) (.t 94)⟩,
     ⟨(some 6), none, .mov (.t 95)⟩] [0, 1, 6])
  (.seq
  (.reg [
     ⟨(some 96), none, .mov (.t 6)⟩,
     ⟨(some 97), none, .mov (.t 1)⟩,
     ⟨(some 98), none, .bin .rem (.t 96) (.t 97)⟩,
     ⟨(some 4), none, .mov (.t 98)⟩] [0, 4])
  (.ret))))))))
theorem get_p_spec_l14Rd_pick : Go.Proofs.Try.prog.funcs[fid_p_spec_l14Rd_pick]? = some Go.Proofs.Try.f87 := Go.Proofs.Try.func87
theorem ok_p_spec_l14Rd_pick : okFn Go.Proofs.Try.prog Go.Proofs.Try.f87 99 [0] [(4, none)] mc_p_spec_l14Rd_pick = true := by kernel_rfl
def mc_p_spec_l14Rd_num : MCode :=
 .seq
  (.reg [
     ⟨(some 4), none, .mov (.v (.i .i64 0))⟩] [0, 1])
  (.seq
  (.reg [
     ⟨(some 5), none, .mov (.t 1)⟩,
     ⟨(some 6), none, .mov (.t 0)⟩,
     ⟨(some 7), none, .mov (.t 1)⟩,
     ⟨(some 8), none, .len (.t 7)⟩,
     ⟨(some 9), none, .call fid_p_spec_l14Rd_pick false [.io, .im] [(.t 6), (.t 8)]⟩,
     ⟨(some 10), none, .indexAddr 1 (.t 5) (.t 9)⟩,
     ⟨(some 11), none, .load false 1 (.t 10)⟩,
     ⟨(some 4), none, .mov (.t 11)⟩] [0, 4])
  (.ret))
theorem get_p_spec_l14Rd_num : Go.Proofs.Try.prog.funcs[fid_p_spec_l14Rd_num]? = some Go.Proofs.Try.f88 := Go.Proofs.Try.func88
theorem ok_p_spec_l14Rd_num : okFn Go.Proofs.Try.prog Go.Proofs.Try.f88 12 [0] [(4, none)] mc_p_spec_l14Rd_num = true := by kernel_rfl
def mc_spec_l1Wrong : MCode :=
 .seq
  (.reg [
     ⟨(some 3), none, .box 2 (.t 1)⟩,
     ⟨(some 4), none, .alloc [.i .i64 0, .nl 2]⟩] [0, 3, 4])
  (.seq
  (.reg [
     ⟨(some 7), none, .load true 2 (.t 3)⟩,
     ⟨(some 8), none, .call fid_spec_l1Copy false [.im] [(.t 7)]⟩,
     ⟨(some 5), none, .alloc [.i .i64 0, .nl 2]⟩,
     ⟨none, none, .store 2 (.t 5) (.t 8)⟩] [0, 4, 5])
  (.seq
  (.seq
   (.reg [
      ⟨(some 9), none, .mov (.t 0)⟩,
      ⟨(some 10), none, .call fid_p_spec_l14Rd_pick false [.io, .im] [(.t 9), (.v (.i .i64 16))]⟩,
      ⟨(some 11), none, .bin .gtr (.t 10) (.v (.i .i64 0))⟩,
      ⟨(some 12), none, .mov (.t 11)⟩,
      ⟨(some 13), (some (12, false)), .fieldAddr 1 (.t 5)⟩,
      ⟨(some 14), (some (12, false)), .load false 1 (.t 13)⟩,
      ⟨(some 15), (some (12, false)), .len (.t 14)⟩,
      ⟨(some 16), (some (12, false)), .bin .eql (.t 15) (.v (.i .i64 0))⟩,
      ⟨(some 17), none, .pick (.t 12) (.v (.b true)) (.t 16)⟩] [0, 4, 5, 17])
   (.cond (.t 17)
   (.seq
    (.reg [
       ⟨(some 18), none, .load true 2 (.t 5)⟩,
       ⟨none, none, .store 2 (.t 4) (.t 18)⟩] [0, 4])
    (.ret))
   (.skip)))
  (.seq
  (.reg [
     ⟨(some 19), none, .mov (.t 0)⟩,
     ⟨(some 20), none, .fieldAddr 1 (.t 5)⟩,
     ⟨(some 21), none, .load false 1 (.t 20)⟩,
     ⟨(some 22), none, .len (.t 21)⟩,
     ⟨(some 23), none, .call fid_p_spec_l14Rd_pick false [.io, .im] [(.t 19), (.t 22)]⟩,
     ⟨(some 6), none, .mov (.t 23)⟩] [0, 4, 5, 6])
  (.seq
  (.seq
   (.reg [
      ⟨(some 24), none, .mov (.t 0)⟩,
      ⟨(some 25), none, .call fid_p_spec_l14Rd_pick false [.io, .im] [(.t 24), (.v (.i .i64 5))]⟩] [0, 4, 5, 6, 25])
   (.block 0
   (.seq
    (.reg [
       ⟨(some 27), none, .bin .eql (.t 25) (.v (.i .i64 0))⟩,
       ⟨(some 26), none, .mov (.t 27)⟩] [0, 4, 5, 6, 25, 26])
    (.cond (.t 26)
    (.draw [0, 1, 0, 0, 0, 24, 63, 127, 255] [
       ⟨(some 28), none, .fieldAddr 1 (.t 5)⟩,
       ⟨(some 29), none, .load false 1 (.t 28)⟩,
       ⟨(some 30), none, .mov (.t 6)⟩,
       ⟨(some 31), none, .mov (.t 0)⟩,
       ⟨(some 32), none, .buildSlice 1 [(.v (.i .i64 16)), (.v (.i .i64 (-1))), (.v (.i .i64 0))]⟩,
       ⟨(some 33), none, .call fid_p_spec_l14Rd_num false [.io, .im] [(.t 31), (.t 32)]⟩,
       ⟨(some 34), none, .indexAddr 2 (.t 29) (.t 30)⟩,
       ⟨(some 35), none, .fieldAddr 1 (.t 34)⟩,
       ⟨none, none, .store 1 (.t 35) (.t 33)⟩] [0, 4, 5])
    (.seq
     (.reg [
        ⟨(some 37), none, .bin .eql (.t 25) (.v (.i .i64 1))⟩,
        ⟨(some 36), none, .mov (.t 37)⟩] [0, 4, 5, 6, 25, 36])
     (.cond (.t 36)
     (.reg [
        ⟨(some 38), none, .mov (.t 0)⟩,
        ⟨(some 39), none, .buildSlice 1 [(.v (.i .i64 0)), (.v (.i .i64 17)), (.v (.i .i64 1))]⟩,
        ⟨(some 40), none, .call fid_p_spec_l14Rd_num false [.io, .im] [(.t 38), (.t 39)]⟩,
        ⟨(some 41), none, .fieldAddr 0 (.t 5)⟩,
        ⟨none, none, .store 1 (.t 41) (.t 40)⟩] [0, 4, 5])
     (.seq
      (.reg [
         ⟨(some 43), none, .bin .eql (.t 25) (.v (.i .i64 2))⟩,
         ⟨(some 42), none, .mov (.t 43)⟩] [0, 4, 5, 6, 42])
      (.cond (.t 42)
      (.draw [0, 1, 0, 4, 0, 28, 60, 124, 255, 511, 1023] [
         ⟨(some 44), none, .fieldAddr 1 (.t 5)⟩,
         ⟨(some 45), none, .load false 1 (.t 44)⟩,
         ⟨(some 46), none, .fieldAddr 1 (.t 5)⟩,
         ⟨(some 47), none, .load false 1 (.t 46)⟩,
         ⟨(some 48), none, .mov (.t 6)⟩,
         ⟨(some 49), none, .indexAddr 2 (.t 47) (.t 48)⟩,
         ⟨(some 50), none, .load true 2 (.t 49)⟩,
         ⟨(some 51), none, .buildSlice 2 [(.t 50)]⟩,
         ⟨(some 52), none, .append 2 16 true (.t 45) (.t 51)⟩,
         ⟨(some 53), none, .fieldAddr 1 (.t 5)⟩,
         ⟨none, none, .store 1 (.t 53) (.t 52)⟩] [0, 4, 5])
      (.skip)))))))))
  (.seq
  (.reg [
     ⟨(some 54), none, .load true 2 (.t 5)⟩,
     ⟨none, none, .store 2 (.t 4) (.t 54)⟩] [0, 4])
  (.ret))))))
theorem get_spec_l1Wrong : Go.Proofs.Try.prog.funcs[fid_spec_l1Wrong]? = some Go.Proofs.Try.f89 := Go.Proofs.Try.func89
theorem ok_spec_l1Wrong : okFn Go.Proofs.Try.prog Go.Proofs.Try.f89 55 [0] [(4, some (true, 2))] mc_spec_l1Wrong = true := by kernel_rfl
def mc_spec_PartCount : MCode :=
 .seq
  (.reg [
     ⟨(some 1), none, .box 2 (.t 0)⟩,
     ⟨(some 2), none, .mov (.v (.i .i64 0))⟩] [1])
  (.seq
  (.reg [
     ⟨(some 3), none, .mov (.v (.i .i64 0))⟩] [1, 3])
  (.seq
  (.reg [
     ⟨(some 6), none, .load true 2 (.t 1)⟩,
     ⟨(some 7), none, .call fid_spec_PartsOf false [.im] [(.t 6)]⟩,
     ⟨(some 4), none, .mov (.t 7)⟩] [3, 4])
  (.seq
  (.seq
   (.reg [
      ⟨(some 5), none, .mov (.v (.i .i64 0))⟩] [3, 4, 5])
   (.block 0
   (.loop [3, 4, 5]
    (.seq
     (.seq
      (.reg [
         ⟨(some 8), none, .mov (.t 5)⟩,
         ⟨(some 9), none, .mov (.t 4)⟩,
         ⟨(some 10), none, .len (.t 9)⟩,
         ⟨(some 11), none, .bin .lss (.t 8) (.t 10)⟩] [3, 4, 5, 11])
      (.cond (.t 11)
      (.skip)
      (.exit 0)))
     (.seq
     (.block 1
      (.seq
       (.reg [
          ⟨(some 14), none, .mov (.t 4)⟩,
          ⟨(some 15), none, .mov (.t 5)⟩,
          ⟨(some 16), none, .indexAddr 1 (.t 14) (.t 15)⟩,
          ⟨(some 17), none, .load false 1 (.t 16)⟩,
          ⟨(some 18), none, .mov (.t 5)⟩,
          ⟨(some 19), none, .bin .eql (.t 17) (.t 18)⟩] [3, 4, 5, 19])
       (.cond (.t 19)
       (.reg [
          ⟨(some 20), none, .mov (.t 3)⟩,
          ⟨(some 21), none, .bin .add (.t 20) (.v (.i .i64 1))⟩,
          ⟨(some 3), none, .mov (.t 21)⟩] [3, 4, 5])
       (.skip))))
     (.reg [
       ⟨(some 12), none, .mov (.t 5)⟩,
       ⟨(some 13), none, .bin .add (.t 12) (.v (.i .i64 1))⟩,
       ⟨(some 5), none, .mov (.t 13)⟩] [3, 4, 5]))))))
  (.seq
  (.reg [
     ⟨(some 22), none, .mov (.t 3)⟩,
     ⟨(some 2), none, .mov (.t 22)⟩] [2])
  (.ret)))))
theorem get_spec_PartCount : Go.Proofs.Try.prog.funcs[fid_spec_PartCount]? = some Go.Proofs.Try.f90 := Go.Proofs.Try.func90
theorem ok_spec_PartCount : okFn Go.Proofs.Try.prog Go.Proofs.Try.f90 23 [] [(2, none)] mc_spec_PartCount = true := by kernel_rfl
def mc_spec_l4Bridges : MCode :=
 .seq
  (.reg [
     ⟨(some 1), none, .box 2 (.t 0)⟩,
     ⟨(some 2), none, .mov (.v (.nl 2))⟩] [1])
  (.seq
  (.reg [
     ⟨(some 5), none, .buildSlice 2 []⟩,
     ⟨(some 3), none, .mov (.t 5)⟩] [1, 3])
  (.seq
  (.seq
   (.reg [
      ⟨(some 4), none, .mov (.v (.i .i64 0))⟩] [1, 3, 4])
   (.block 0
   (.loop [1, 3, 4]
    (.seq
     (.seq
      (.reg [
         ⟨(some 6), none, .mov (.t 4)⟩,
         ⟨(some 7), none, .fieldAddr 1 (.t 1)⟩,
         ⟨(some 8), none, .load false 1 (.t 7)⟩,
         ⟨(some 9), none, .len (.t 8)⟩,
         ⟨(some 10), none, .bin .lss (.t 6) (.t 9)⟩] [1, 3, 4, 10])
      (.cond (.t 10)
      (.skip)
      (.exit 0)))
     (.seq
     (.block 1
      (.seq
       (.draw [0, 0, 2, 0, 14, 30, 63] [
          ⟨(some 13), none, .load true 2 (.t 1)⟩,
          ⟨(some 14), none, .fieldAddr 1 (.t 1)⟩,
          ⟨(some 15), none, .load false 1 (.t 14)⟩,
          ⟨(some 16), none, .mov (.t 4)⟩,
          ⟨(some 17), none, .indexAddr 2 (.t 15) (.t 16)⟩,
          ⟨(some 18), none, .load true 2 (.t 17)⟩,
          ⟨(some 19), none, .call fid_spec_l4Bridge false [.im, .im] [(.t 13), (.t 18)]⟩] [1, 3, 4, 19])
       (.cond (.t 19)
       (.reg [
          ⟨(some 20), none, .mov (.t 3)⟩,
          ⟨(some 21), none, .fieldAddr 1 (.t 1)⟩,
          ⟨(some 22), none, .load false 1 (.t 21)⟩,
          ⟨(some 23), none, .mov (.t 4)⟩,
          ⟨(some 24), none, .indexAddr 2 (.t 22) (.t 23)⟩,
          ⟨(some 25), none, .load true 2 (.t 24)⟩,
          ⟨(some 26), none, .buildSlice 2 [(.t 25)]⟩,
          ⟨(some 27), none, .append 2 16 true (.t 20) (.t 26)⟩,
          ⟨(some 3), none, .mov (.t 27)⟩] [1, 3, 4])
       (.skip))))
     (.reg [
       ⟨(some 11), none, .mov (.t 4)⟩,
       ⟨(some 12), none, .bin .add (.t 11) (.v (.i .i64 1))⟩,
       ⟨(some 4), none, .mov (.t 12)⟩] [1, 3, 4]))))))
  (.seq
  (.reg [
     ⟨(some 28), none, .mov (.t 3)⟩,
     ⟨(some 2), none, .mov (.t 28)⟩] [2])
  (.ret))))
theorem get_spec_l4Bridges : Go.Proofs.Try.prog.funcs[fid_spec_l4Bridges]? = some Go.Proofs.Try.f91 := Go.Proofs.Try.func91
theorem ok_spec_l4Bridges : okFn Go.Proofs.Try.prog Go.Proofs.Try.f91 29 [] [(2, none)] mc_spec_l4Bridges = true := by kernel_rfl
def mc_spec_l7At : MCode :=
 .seq
  (.reg [
     ⟨(some 3), none, .box 4 (.t 0)⟩,
     ⟨(some 6), none, .alloc [.i .i64 0, .nl 2]⟩] [1, 2, 3, 6])
  (.seq
  (.reg [
     ⟨(some 9), none, .fieldAddr 0 (.t 3)⟩,
     ⟨(some 10), none, .fieldAddr 0 (.t 9)⟩,
     ⟨(some 11), none, .load false 1 (.t 10)⟩,
     ⟨(some 12), none, .buildSlice 2 []⟩,
     ⟨(some 13), none, .build [.i .i64 0, .nl 2] [(0, 1, (.t 11)), (1, 1, (.t 12))]⟩,
     ⟨(some 7), none, .alloc [.i .i64 0, .nl 2]⟩,
     ⟨none, none, .store 2 (.t 7) (.t 13)⟩] [1, 2, 3, 6, 7])
  (.seq
  (.seq
   (.reg [
      ⟨(some 8), none, .mov (.v (.i .i64 0))⟩] [1, 2, 3, 6, 7, 8])
   (.block 0
   (.loop [1, 2, 3, 6, 7, 8]
    (.seq
     (.seq
      (.reg [
         ⟨(some 14), none, .mov (.t 8)⟩,
         ⟨(some 15), none, .fieldAddr 0 (.t 3)⟩,
         ⟨(some 16), none, .fieldAddr 1 (.t 15)⟩,
         ⟨(some 17), none, .load false 1 (.t 16)⟩,
         ⟨(some 18), none, .len (.t 17)⟩,
         ⟨(some 19), none, .bin .lss (.t 14) (.t 18)⟩] [1, 2, 3, 6, 7, 8, 19])
      (.cond (.t 19)
      (.skip)
      (.exit 0)))
     (.seq
     (.block 1
      (.seq
       (.reg [
          ⟨(some 22), none, .fieldAddr 2 (.t 3)⟩,
          ⟨(some 23), none, .load false 1 (.t 22)⟩,
          ⟨(some 24), none, .mov (.t 8)⟩,
          ⟨(some 25), none, .indexAddr 1 (.t 23) (.t 24)⟩,
          ⟨(some 26), none, .load false 1 (.t 25)⟩,
          ⟨(some 27), none, .mov (.t 1)⟩,
          ⟨(some 28), none, .bin .geq (.t 26) (.t 27)⟩,
          ⟨(some 29), none, .mov (.t 28)⟩,
          ⟨(some 30), (some (29, true)), .fieldAddr 3 (.t 3)⟩,
          ⟨(some 31), (some (29, true)), .load false 1 (.t 30)⟩,
          ⟨(some 32), (some (29, true)), .mov (.t 8)⟩,
          ⟨(some 33), (some (29, true)), .indexAddr 1 (.t 31) (.t 32)⟩,
          ⟨(some 34), (some (29, true)), .load false 1 (.t 33)⟩,
          ⟨(some 35), (some (29, true)), .mov (.t 34)⟩,
          ⟨(some 36), (some (35, false)), .mov (.t 2)⟩,
          ⟨(some 37), (some (35, false)), .un .not (.t 36)⟩,
          ⟨(some 38), (some (29, true)), .pick (.t 35) (.v (.b true)) (.t 37)⟩,
          ⟨(some 39), none, .pick (.t 29) (.t 38) (.v (.b false))⟩] [1, 2, 3, 6, 7, 8, 39])
       (.cond (.t 39)
       (.draw [0, 1, 0, 4, 12, 0, 60, 124, 252, 511, 1023, 2047] [
          ⟨(some 40), none, .fieldAddr 1 (.t 7)⟩,
          ⟨(some 41), none, .load false 1 (.t 40)⟩,
          ⟨(some 42), none, .fieldAddr 0 (.t 3)⟩,
          ⟨(some 43), none, .fieldAddr 1 (.t 42)⟩,
          ⟨(some 44), none, .load false 1 (.t 43)⟩,
          ⟨(some 45), none, .mov (.t 8)⟩,
          ⟨(some 46), none, .indexAddr 2 (.t 44) (.t 45)⟩,
          ⟨(some 47), none, .load true 2 (.t 46)⟩,
          ⟨(some 48), none, .buildSlice 2 [(.t 47)]⟩,
          ⟨(some 49), none, .append 2 16 true (.t 41) (.t 48)⟩,
          ⟨(some 50), none, .fieldAddr 1 (.t 7)⟩,
          ⟨none, none, .store 1 (.t 50) (.t 49)⟩] [1, 2, 3, 6, 7, 8])
       (.skip))))
     (.reg [
       ⟨(some 20), none, .mov (.t 8)⟩,
       ⟨(some 21), none, .bin .add (.t 20) (.v (.i .i64 1))⟩,
       ⟨(some 8), none, .mov (.t 21)⟩] [1, 2, 3, 6, 7, 8]))))))
  (.seq
  (.reg [
     ⟨(some 51), none, .load true 2 (.t 7)⟩,
     ⟨none, none, .store 2 (.t 6) (.t 51)⟩] [6])
  (.ret))))
theorem get_spec_l7At : Go.Proofs.Try.prog.funcs[fid_spec_l7At]? = some Go.Proofs.Try.f96 := Go.Proofs.Try.func96
theorem ok_spec_l7At : okFn Go.Proofs.Try.prog Go.Proofs.Try.f96 52 [] [(6, some (true, 2))] mc_spec_l7At = true := by kernel_rfl
def mc_spec_l6Forest : MCode :=
 .seq
  (.reg [
     ⟨(some 1), none, .box 2 (.t 0)⟩,
     ⟨(some 2), none, .mov (.v (.b false))⟩] [1])
  (.seq
  (.draw [0, 1, 0, 4, 15, 31, 0, 64, 192, 511, 1023] [
     ⟨(some 3), none, .fieldAddr 0 (.t 1)⟩,
     ⟨(some 4), none, .load false 1 (.t 3)⟩,
     ⟨(some 5), none, .fieldAddr 1 (.t 1)⟩,
     ⟨(some 6), none, .load false 1 (.t 5)⟩,
     ⟨(some 7), none, .call fid_spec_l2Forest false [.im, .im] [(.t 4), (.t 6)]⟩,
     ⟨(some 8), none, .len (.t 7)⟩,
     ⟨(some 9), none, .fieldAddr 1 (.t 1)⟩,
     ⟨(some 10), none, .load false 1 (.t 9)⟩,
     ⟨(some 11), none, .len (.t 10)⟩,
     ⟨(some 12), none, .bin .eql (.t 8) (.t 11)⟩,
     ⟨(some 2), none, .mov (.t 12)⟩] [2])
  (.ret))
theorem get_spec_l6Forest : Go.Proofs.Try.prog.funcs[fid_spec_l6Forest]? = some Go.Proofs.Try.f97 := Go.Proofs.Try.func97
theorem ok_spec_l6Forest : okFn Go.Proofs.Try.prog Go.Proofs.Try.f97 13 [] [(2, none)] mc_spec_l6Forest = true := by kernel_rfl
def mc_spec_l7Ints : MCode :=
 .seq
  (.reg [
     ⟨(some 4), none, .mov (.v (.b false))⟩] [0, 1])
  (.seq
  (.seq
   (.reg [
      ⟨(some 6), none, .mov (.t 0)⟩,
      ⟨(some 7), none, .len (.t 6)⟩,
      ⟨(some 8), none, .mov (.t 1)⟩,
      ⟨(some 9), none, .len (.t 8)⟩,
      ⟨(some 10), none, .bin .neq (.t 7) (.t 9)⟩] [0, 1, 10])
   (.cond (.t 10)
   (.seq
    (.reg [
       ⟨(some 4), none, .mov (.v (.b false))⟩] [4])
    (.ret))
   (.skip)))
  (.seq
  (.seq
   (.reg [
      ⟨(some 5), none, .mov (.v (.i .i64 0))⟩] [0, 1, 5])
   (.block 0
   (.loop [0, 1, 5]
    (.seq
     (.seq
      (.reg [
         ⟨(some 11), none, .mov (.t 5)⟩,
         ⟨(some 12), none, .mov (.t 0)⟩,
         ⟨(some 13), none, .len (.t 12)⟩,
         ⟨(some 14), none, .bin .lss (.t 11) (.t 13)⟩] [0, 1, 5, 14])
      (.cond (.t 14)
      (.skip)
      (.exit 0)))
     (.seq
     (.block 1
      (.seq
       (.draw [0, 0, 3, 7, 0, 0, 48, 112, 255] [
          ⟨(some 17), none, .mov (.t 0)⟩,
          ⟨(some 18), none, .mov (.t 5)⟩,
          ⟨(some 19), none, .indexAddr 1 (.t 17) (.t 18)⟩,
          ⟨(some 20), none, .load false 1 (.t 19)⟩,
          ⟨(some 21), none, .mov (.t 1)⟩,
          ⟨(some 22), none, .mov (.t 5)⟩,
          ⟨(some 23), none, .indexAddr 1 (.t 21) (.t 22)⟩,
          ⟨(some 24), none, .load false 1 (.t 23)⟩,
          ⟨(some 25), none, .bin .neq (.t 20) (.t 24)⟩] [0, 1, 5, 25])
       (.cond (.t 25)
       (.seq
        (.reg [
           ⟨(some 4), none, .mov (.v (.b false))⟩] [4])
        (.ret))
       (.skip))))
     (.reg [
       ⟨(some 15), none, .mov (.t 5)⟩,
       ⟨(some 16), none, .bin .add (.t 15) (.v (.i .i64 1))⟩,
       ⟨(some 5), none, .mov (.t 16)⟩] [0, 1, 5]))))))
  (.seq
  (.reg [
     ⟨(some 4), none, .mov (.v (.b true))⟩] [4])
  (.ret))))
theorem get_spec_l7Ints : Go.Proofs.Try.prog.funcs[fid_spec_l7Ints]? = some Go.Proofs.Try.f98 := Go.Proofs.Try.func98
theorem ok_spec_l7Ints : okFn Go.Proofs.Try.prog Go.Proofs.Try.f98 26 [] [(4, none)] mc_spec_l7Ints = true := by kernel_rfl
def mc_spec_l2Labels : MCode :=
 .seq
  (.reg [
     ⟨(some 1), none, .box 2 (.t 0)⟩,
     ⟨(some 2), none, .mov (.v (.nl 1))⟩] [1])
  (.seq
  (.reg [
     ⟨(some 9), none, .buildSlice 1 []⟩,
     ⟨(some 3), none, .mov (.t 9)⟩] [1, 3])
  (.seq
  (.seq
   (.reg [
      ⟨(some 4), none, .mov (.v (.i .i64 0))⟩] [1, 3, 4])
   (.block 0
   (.loop [1, 3, 4]
    (.seq
     (.seq
      (.reg [
         ⟨(some 10), none, .mov (.t 4)⟩,
         ⟨(some 11), none, .fieldAddr 0 (.t 1)⟩,
         ⟨(some 12), none, .load false 1 (.t 11)⟩,
         ⟨(some 13), none, .bin .lss (.t 10) (.t 12)⟩] [1, 3, 4, 13])
      (.cond (.t 13)
      (.skip)
      (.exit 0)))
     (.seq
     (.block 1
      (.reg [
         ⟨(some 16), none, .mov (.t 3)⟩,
         ⟨(some 17), none, .mov (.t 4)⟩,
         ⟨(some 18), none, .buildSlice 1 [(.t 17)]⟩,
         ⟨(some 19), none, .append 1 8 true (.t 16) (.t 18)⟩,
         ⟨(some 3), none, .mov (.t 19)⟩] [1, 3, 4]))
     (.reg [
       ⟨(some 14), none, .mov (.t 4)⟩,
       ⟨(some 15), none, .bin .add (.t 14) (.v (.i .i64 1))⟩,
       ⟨(some 4), none, .mov (.t 15)⟩] [1, 3, 4]))))))
  (.seq
  (.seq
   (.reg [
      ⟨(some 5), none, .mov (.v (.b true))⟩] [1, 3, 5])
   (.block 2
   (.loop [1, 3, 5]
    (.seq
     (.seq
      (.reg [
         ⟨(some 20), none, .mov (.t 5)⟩] [1, 3, 20])
      (.cond (.t 20)
      (.skip)
      (.exit 2)))
     (.block 3
     (.seq
      (.reg [
         ⟨(some 5), none, .mov (.v (.b false))⟩] [1, 3, 5])
      (.seq
      (.reg [
         ⟨(some 6), none, .mov (.v (.i .i64 0))⟩] [1, 3, 5, 6])
      (.block 4
      (.loop [1, 3, 5, 6]
       (.seq
        (.seq
         (.reg [
            ⟨(some 21), none, .mov (.t 6)⟩,
            ⟨(some 22), none, .fieldAddr 1 (.t 1)⟩,
            ⟨(some 23), none, .load false 1 (.t 22)⟩,
            ⟨(some 24), none, .len (.t 23)⟩,
            ⟨(some 25), none, .bin .lss (.t 21) (.t 24)⟩] [1, 3, 5, 6, 25])
         (.cond (.t 25)
         (.skip)
         (.exit 4)))
        (.seq
        (.block 5
         (.seq
          (.reg [
             ⟨(some 28), none, .mov (.t 3)⟩,
             ⟨(some 29), none, .fieldAddr 1 (.t 1)⟩,
             ⟨(some 30), none, .load false 1 (.t 29)⟩,
             ⟨(some 31), none, .mov (.t 6)⟩,
             ⟨(some 32), none, .indexAddr 2 (.t 30) (.t 31)⟩,
             ⟨(some 33), none, .fieldAddr 0 (.t 32)⟩,
             ⟨(some 34), none, .load false 1 (.t 33)⟩,
             ⟨(some 35), none, .indexAddr 1 (.t 28) (.t 34)⟩,
             ⟨(some 36), none, .load false 1 (.t 35)⟩,
             ⟨(some 7), none, .mov (.t 36)⟩] [1, 3, 5, 6, 7])
          (.seq
          (.reg [
             ⟨(some 37), none, .mov (.t 3)⟩,
             ⟨(some 38), none, .fieldAddr 1 (.t 1)⟩,
             ⟨(some 39), none, .load false 1 (.t 38)⟩,
             ⟨(some 40), none, .mov (.t 6)⟩,
             ⟨(some 41), none, .indexAddr 2 (.t 39) (.t 40)⟩,
             ⟨(some 42), none, .fieldAddr 1 (.t 41)⟩,
             ⟨(some 43), none, .load false 1 (.t 42)⟩,
             ⟨(some 44), none, .indexAddr 1 (.t 37) (.t 43)⟩,
             ⟨(some 45), none, .load false 1 (.t 44)⟩,
             ⟨(some 8), none, .mov (.t 45)⟩] [1, 3, 5, 6, 7, 8])
          (.seq
          (.seq
           (.reg [
              ⟨(some 46), none, .mov (.t 7)⟩,
              ⟨(some 47), none, .mov (.t 8)⟩,
              ⟨(some 48), none, .bin .lss (.t 46) (.t 47)⟩] [1, 3, 5, 6, 7, 8, 48])
           (.cond (.t 48)
           (.seq
            (.reg [
               ⟨(some 49), none, .mov (.t 3)⟩,
               ⟨(some 50), none, .fieldAddr 1 (.t 1)⟩,
               ⟨(some 51), none, .load false 1 (.t 50)⟩,
               ⟨(some 52), none, .mov (.t 6)⟩,
               ⟨(some 53), none, .indexAddr 2 (.t 51) (.t 52)⟩,
               ⟨(some 54), none, .fieldAddr 1 (.t 53)⟩,
               ⟨(some 55), none, .load false 1 (.t 54)⟩,
               ⟨(some 56), none, .mov (.t 7)⟩,
               ⟨(some 57), none, .indexAddr 1 (.t 49) (.t 55)⟩,
               ⟨none, none, .store 1 (.t 57) (.t 56)⟩] [1, 3, 6, 7, 8])
            (.reg [
              ⟨(some 5), none, .mov (.v (.b true))⟩] [1, 3, 5, 6, 7, 8]))
           (.skip)))
          (.seq
          (.reg [
             ⟨(some 58), none, .mov (.t 8)⟩,
             ⟨(some 59), none, .mov (.t 7)⟩,
             ⟨(some 60), none, .bin .lss (.t 58) (.t 59)⟩] [1, 3, 5, 6, 8, 60])
          (.cond (.t 60)
          (.seq
           (.reg [
              ⟨(some 61), none, .mov (.t 3)⟩,
              ⟨(some 62), none, .fieldAddr 1 (.t 1)⟩,
              ⟨(some 63), none, .load false 1 (.t 62)⟩,
              ⟨(some 64), none, .mov (.t 6)⟩,
              ⟨(some 65), none, .indexAddr 2 (.t 63) (.t 64)⟩,
              ⟨(some 66), none, .fieldAddr 0 (.t 65)⟩,
              ⟨(some 67), none, .load false 1 (.t 66)⟩,
              ⟨(some 68), none, .mov (.t 8)⟩,
              ⟨(some 69), none, .indexAddr 1 (.t 61) (.t 67)⟩,
              ⟨none, none, .store 1 (.t 69) (.t 68)⟩] [1, 3, 6])
           (.reg [
             ⟨(some 5), none, .mov (.v (.b true))⟩] [1, 3, 5, 6]))
          (.skip)))))))
        (.reg [
          ⟨(some 26), none, .mov (.t 6)⟩,
          ⟨(some 27), none, .bin .add (.t 26) (.v (.i .i64 1))⟩,
          ⟨(some 6), none, .mov (.t 27)⟩] [1, 3, 5, 6]))))))))))))
  (.seq
  (.reg [
     ⟨(some 70), none, .mov (.t 3)⟩,
     ⟨(some 2), none, .mov (.t 70)⟩] [2])
  (.ret)))))
theorem get_spec_l2Labels : Go.Proofs.Try.prog.funcs[fid_spec_l2Labels]? = some Go.Proofs.Try.f99 := Go.Proofs.Try.func99
theorem ok_spec_l2Labels : okFn Go.Proofs.Try.prog Go.Proofs.Try.f99 71 [] [(2, none)] mc_spec_l2Labels = true := by kernel_rfl
def mc_spec_l7Small : MCode :=
 .seq
  (.reg [
     ⟨(some 2), none, .box 2 (.t 0)⟩,
     ⟨(some 4), none, .mov (.v (.b false))⟩] [1, 2])
  (.seq
  (.reg [
     ⟨(some 9), none, .load true 2 (.t 2)⟩,
     ⟨(some 10), none, .call fid_spec_l2Labels false [.im] [(.t 9)]⟩,
     ⟨(some 5), none, .mov (.t 10)⟩] [1, 2, 5])
  (.seq
  (.seq
   (.reg [
      ⟨(some 6), none, .mov (.v (.i .i64 0))⟩] [1, 2, 5, 6])
   (.block 0
   (.loop [1, 2, 5, 6]
    (.seq
     (.seq
      (.reg [
         ⟨(some 11), none, .mov (.t 6)⟩,
         ⟨(some 12), none, .fieldAddr 0 (.t 2)⟩,
         ⟨(some 13), none, .load false 1 (.t 12)⟩,
         ⟨(some 14), none, .bin .lss (.t 11) (.t 13)⟩] [1, 2, 5, 6, 14])
      (.cond (.t 14)
      (.skip)
      (.exit 0)))
     (.seq
     (.block 1
      (.seq
       (.reg [
          ⟨(some 7), none, .mov (.v (.i .i64 0))⟩] [1, 2, 5, 6, 7])
       (.seq
       (.seq
        (.reg [
           ⟨(some 8), none, .mov (.v (.i .i64 0))⟩] [1, 2, 5, 6, 7, 8])
        (.block 2
        (.loop [1, 2, 5, 6, 7, 8]
         (.seq
          (.seq
           (.reg [
              ⟨(some 17), none, .mov (.t 8)⟩,
              ⟨(some 18), none, .fieldAddr 0 (.t 2)⟩,
              ⟨(some 19), none, .load false 1 (.t 18)⟩,
              ⟨(some 20), none, .bin .lss (.t 17) (.t 19)⟩] [1, 2, 5, 6, 7, 8, 20])
           (.cond (.t 20)
           (.skip)
           (.exit 2)))
          (.seq
          (.block 3
           (.seq
            (.draw [0, 0, 3, 7, 0, 0, 48, 112, 255] [
               ⟨(some 23), none, .mov (.t 5)⟩,
               ⟨(some 24), none, .mov (.t 8)⟩,
               ⟨(some 25), none, .indexAddr 1 (.t 23) (.t 24)⟩,
               ⟨(some 26), none, .load false 1 (.t 25)⟩,
               ⟨(some 27), none, .mov (.t 5)⟩,
               ⟨(some 28), none, .mov (.t 6)⟩,
               ⟨(some 29), none, .indexAddr 1 (.t 27) (.t 28)⟩,
               ⟨(some 30), none, .load false 1 (.t 29)⟩,
               ⟨(some 31), none, .bin .eql (.t 26) (.t 30)⟩] [1, 2, 5, 6, 7, 8, 31])
            (.cond (.t 31)
            (.reg [
               ⟨(some 32), none, .mov (.t 7)⟩,
               ⟨(some 33), none, .bin .add (.t 32) (.v (.i .i64 1))⟩,
               ⟨(some 7), none, .mov (.t 33)⟩] [1, 2, 5, 6, 7, 8])
            (.skip))))
          (.reg [
            ⟨(some 21), none, .mov (.t 8)⟩,
            ⟨(some 22), none, .bin .add (.t 21) (.v (.i .i64 1))⟩,
            ⟨(some 8), none, .mov (.t 22)⟩] [1, 2, 5, 6, 7, 8]))))))
       (.seq
       (.reg [
          ⟨(some 34), none, .mov (.t 7)⟩,
          ⟨(some 35), none, .bin .gtr (.t 34) (.v (.i .i64 1))⟩,
          ⟨(some 36), none, .mov (.t 35)⟩,
          ⟨(some 37), (some (36, true)), .mov (.t 7)⟩,
          ⟨(some 38), (some (36, true)), .mov (.t 1)⟩,
          ⟨(some 39), (some (36, true)), .bin .gtr (.t 37) (.t 38)⟩,
          ⟨(some 40), none, .pick (.t 36) (.t 39) (.v (.b false))⟩] [1, 2, 5, 6, 40])
       (.cond (.t 40)
       (.seq
        (.reg [
           ⟨(some 4), none, .mov (.v (.b false))⟩] [4])
        (.ret))
       (.skip))))))
     (.reg [
       ⟨(some 15), none, .mov (.t 6)⟩,
       ⟨(some 16), none, .bin .add (.t 15) (.v (.i .i64 1))⟩,
       ⟨(some 6), none, .mov (.t 16)⟩] [1, 2, 5, 6]))))))
  (.seq
  (.reg [
     ⟨(some 4), none, .mov (.v (.b true))⟩] [4])
  (.ret))))
theorem get_spec_l7Small : Go.Proofs.Try.prog.funcs[fid_spec_l7Small]? = some Go.Proofs.Try.f100 := Go.Proofs.Try.func100
theorem ok_spec_l7Small : okFn Go.Proofs.Try.prog Go.Proofs.Try.f100 41 [] [(4, none)] mc_spec_l7Small = true := by kernel_rfl
def mc_spec_l7Most : MCode :=
 .seq
  (.reg [
     ⟨(some 4), none, .mov (.v (.i .i64 0))⟩] [0, 1])
  (.seq
  (.seq
   (.reg [
      ⟨(some 5), none, .mov (.v (.i .i64 0))⟩] [0, 1, 5])
   (.block 0
   (.loop [0, 1, 5]
    (.seq
     (.seq
      (.reg [
         ⟨(some 6), none, .mov (.t 5)⟩,
         ⟨(some 7), none, .mov (.t 1)⟩,
         ⟨(some 8), none, .bin .lss (.t 6) (.t 7)⟩] [0, 1, 5, 8])
      (.cond (.t 8)
      (.skip)
      (.exit 0)))
     (.seq
     (.block 1
      (.reg [
         ⟨(some 11), none, .mov (.t 0)⟩,
         ⟨(some 12), none, .bin .quo (.t 11) (.v (.i .i64 2))⟩,
         ⟨(some 0), none, .mov (.t 12)⟩] [0, 1, 5]))
     (.reg [
       ⟨(some 9), none, .mov (.t 5)⟩,
       ⟨(some 10), none, .bin .add (.t 9) (.v (.i .i64 1))⟩,
       ⟨(some 5), none, .mov (.t 10)⟩] [0, 1, 5]))))))
  (.seq
  (.reg [
     ⟨(some 13), none, .mov (.t 0)⟩,
     ⟨(some 4), none, .mov (.t 13)⟩] [4])
  (.ret)))
theorem get_spec_l7Most : Go.Proofs.Try.prog.funcs[fid_spec_l7Most]? = some Go.Proofs.Try.f101 := Go.Proofs.Try.func101
theorem ok_spec_l7Most : okFn Go.Proofs.Try.prog Go.Proofs.Try.f101 14 [] [(4, none)] mc_spec_l7Most = true := by kernel_rfl
def mc_spec_l1Case : MCode :=
 .seq
  (.reg [
     ⟨(some 2), none, .alloc [.i .i64 0, .nl 2]⟩,
     ⟨(some 3), none, .alloc [.i .i64 0, .i .i64 0]⟩] [0, 2, 3])
  (.seq
  (.reg [
     ⟨(some 8), none, .mov (.t 0)⟩,
     ⟨(some 9), none, .call fid_spec_l14Open true [.im] [(.t 8)]⟩,
     ⟨(some 4), none, .mov (.t 9)⟩] [2, 3, 4])
  (.seq
  (.reg [
     ⟨(some 10), none, .mov (.t 4)⟩,
     ⟨(some 11), none, .call fid_spec_l1Draw true [.io] [(.t 10)]⟩,
     ⟨(some 5), none, .alloc [.i .i64 0, .nl 2]⟩,
     ⟨none, none, .store 2 (.t 5) (.t 11)⟩] [2, 3, 4, 5])
  (.seq
  (.seq
   (.reg [
      ⟨(some 12), none, .fieldAddr 1 (.t 5)⟩,
      ⟨(some 13), none, .load false 1 (.t 12)⟩,
      ⟨(some 14), none, .len (.t 13)⟩,
      ⟨(some 15), none, .bin .gtr (.t 14) (.v (.i .i64 0))⟩,
      ⟨(some 16), none, .mov (.t 15)⟩,
      ⟨(some 17), (some (16, true)), .mov (.t 4)⟩,
      ⟨(some 18), (some (16, true)), .call fid_p_spec_l14Rd_pick true [.io, .im] [(.t 17), (.v (.i .i64 2))]⟩,
      ⟨(some 19), (some (16, true)), .bin .eql (.t 18) (.v (.i .i64 0))⟩,
      ⟨(some 20), none, .pick (.t 16) (.t 19) (.v (.b false))⟩] [2, 3, 4, 5, 20])
   (.cond (.t 20)
   (.seq
    (.draw [0, 0, 3, 0, 8, 0, 0, 64, 192, 487, 1023, 2047, 999, 8191] [
       ⟨(some 21), none, .mov (.t 4)⟩,
       ⟨(some 22), none, .load true 2 (.t 5)⟩,
       ⟨(some 23), none, .call fid_spec_l1Wrong true [.io, .im] [(.t 21), (.t 22)]⟩,
       ⟨(some 24), none, .fieldAddr 1 (.t 5)⟩,
       ⟨(some 25), none, .load false 1 (.t 24)⟩,
       ⟨(some 26), none, .mov (.t 4)⟩,
       ⟨(some 27), none, .fieldAddr 1 (.t 5)⟩,
       ⟨(some 28), none, .load false 1 (.t 27)⟩,
       ⟨(some 29), none, .len (.t 28)⟩,
       ⟨(some 30), none, .call fid_p_spec_l14Rd_pick true [.io, .im] [(.t 26), (.t 29)]⟩,
       ⟨(some 31), none, .indexAddr 2 (.t 25) (.t 30)⟩,
       ⟨(some 32), none, .load true 2 (.t 31)⟩,
       ⟨none, none, .store 2 (.t 2) (.t 23)⟩,
       ⟨none, none, .store 2 (.t 3) (.t 32)⟩] [2, 3])
    (.ret))
   (.skip)))
  (.seq
  (.seq
   (.reg [
      ⟨(some 33), none, .mov (.t 4)⟩,
      ⟨(some 34), none, .call fid_p_spec_l14Rd_pick true [.io, .im] [(.t 33), (.v (.i .i64 16))]⟩,
      ⟨(some 35), none, .bin .eql (.t 34) (.v (.i .i64 0))⟩] [2, 3, 4, 5, 35])
   (.cond (.t 35)
   (.seq
    (.draw [0, 0, 0, 6, 0, 0, 62, 126, 127, 511] [
       ⟨(some 36), none, .load true 2 (.t 5)⟩,
       ⟨(some 37), none, .mov (.t 4)⟩,
       ⟨(some 38), none, .buildSlice 1 [(.v (.i .i64 1)), (.v (.i .i64 (-1))), (.v (.i .i64 3))]⟩,
       ⟨(some 39), none, .call fid_p_spec_l14Rd_num true [.io, .im] [(.t 37), (.t 38)]⟩,
       ⟨(some 40), none, .mov (.t 4)⟩,
       ⟨(some 41), none, .buildSlice 1 [(.v (.i .i64 0)), (.v (.i .i64 16)), (.v (.i .i64 1))]⟩,
       ⟨(some 42), none, .call fid_p_spec_l14Rd_num true [.io, .im] [(.t 40), (.t 41)]⟩,
       ⟨(some 43), none, .build [.i .i64 0, .i .i64 0] [(0, 1, (.t 39)), (1, 1, (.t 42))]⟩,
       ⟨none, none, .store 2 (.t 2) (.t 36)⟩,
       ⟨none, none, .store 2 (.t 3) (.t 43)⟩] [2, 3])
    (.ret))
   (.skip)))
  (.seq
  (.reg [
     ⟨(some 44), none, .mov (.t 4)⟩,
     ⟨(some 45), none, .fieldAddr 0 (.t 5)⟩,
     ⟨(some 46), none, .load false 1 (.t 45)⟩,
     ⟨(some 47), none, .call fid_p_spec_l14Rd_pick true [.io, .im] [(.t 44), (.t 46)]⟩,
     ⟨(some 6), none, .mov (.t 47)⟩] [2, 3, 4, 5, 6])
  (.seq
  (.reg [
     ⟨(some 48), none, .mov (.t 4)⟩,
     ⟨(some 49), none, .fieldAddr 0 (.t 5)⟩,
     ⟨(some 50), none, .load false 1 (.t 49)⟩,
     ⟨(some 51), none, .call fid_p_spec_l14Rd_pick true [.io, .im] [(.t 48), (.t 50)]⟩,
     ⟨(some 7), none, .mov (.t 51)⟩] [2, 3, 4, 5, 6, 7])
  (.seq
  (.reg [
     ⟨(some 52), none, .mov (.t 4)⟩,
     ⟨(some 53), none, .load true 2 (.t 5)⟩,
     ⟨(some 54), none, .call fid_spec_l1Wrong true [.io, .im] [(.t 52), (.t 53)]⟩,
     ⟨(some 55), none, .mov (.t 6)⟩,
     ⟨(some 56), none, .mov (.t 7)⟩,
     ⟨(some 57), none, .call fid_spec_l1Edge false [.im, .im] [(.t 55), (.t 56)]⟩,
     ⟨none, none, .store 2 (.t 2) (.t 54)⟩,
     ⟨none, none, .store 2 (.t 3) (.t 57)⟩] [2, 3])
  (.ret))))))))
theorem get_spec_l1Case : Go.Proofs.Try.prog.funcs[fid_spec_l1Case]? = some Go.Proofs.Try.f110 := Go.Proofs.Try.func110
theorem ok_spec_l1Case : okFn Go.Proofs.Try.prog Go.Proofs.Try.f110 58 [] [(2, some (true, 2)), (3, some (true, 2))] mc_spec_l1Case = true := by kernel_rfl
def mc_spec_HasEdge : MCode :=
 .seq
  (.reg [
     ⟨(some 2), none, .box 2 (.t 0)⟩,
     ⟨(some 3), none, .box 2 (.t 1)⟩,
     ⟨(some 4), none, .mov (.v (.b false))⟩] [2, 3])
  (.seq
  (.reg [
     ⟨(some 5), none, .load true 2 (.t 2)⟩,
     ⟨(some 6), none, .call fid_spec_GraphValid false [.im] [(.t 5)]⟩,
     ⟨(some 7), none, .mov (.t 6)⟩,
     ⟨(some 8), (some (7, true)), .fieldAddr 1 (.t 2)⟩,
     ⟨(some 9), (some (7, true)), .load false 1 (.t 8)⟩,
     ⟨(some 10), (some (7, true)), .load true 2 (.t 3)⟩,
     ⟨(some 11), (some (7, true)), .call fid_spec_l1Find false [.im, .im] [(.t 9), (.t 10)]⟩,
     ⟨(some 12), (some (7, true)), .bin .geq (.t 11) (.v (.i .i64 0))⟩,
     ⟨(some 13), none, .pick (.t 7) (.t 12) (.v (.b false))⟩,
     ⟨(some 4), none, .mov (.t 13)⟩] [4])
  (.ret))
theorem get_spec_HasEdge : Go.Proofs.Try.prog.funcs[fid_spec_HasEdge]? = some Go.Proofs.Try.f113 := Go.Proofs.Try.func113
theorem ok_spec_HasEdge : okFn Go.Proofs.Try.prog Go.Proofs.Try.f113 14 [] [(4, none)] mc_spec_HasEdge = true := by kernel_rfl
def mc_spec_CutEdge : MCode :=
 .seq
  (.reg [
     ⟨(some 2), none, .box 2 (.t 0)⟩,
     ⟨(some 3), none, .box 2 (.t 1)⟩,
     ⟨(some 4), none, .alloc [.i .i64 0, .nl 2]⟩,
     ⟨(some 5), none, .mov (.v (.b false))⟩] [2, 3, 4])
  (.seq
  (.seq
   (.reg [
      ⟨(some 6), none, .load true 2 (.t 2)⟩,
      ⟨(some 7), none, .call fid_spec_GraphValid false [.im] [(.t 6)]⟩,
      ⟨(some 8), none, .un .not (.t 7)⟩,
      ⟨(some 9), none, .mov (.t 8)⟩,
      ⟨(some 10), (some (9, false)), .fieldAddr 1 (.t 2)⟩,
      ⟨(some 11), (some (9, false)), .load false 1 (.t 10)⟩,
      ⟨(some 12), (some (9, false)), .load true 2 (.t 3)⟩,
      ⟨(some 13), (some (9, false)), .call fid_spec_l1Find false [.im, .im] [(.t 11), (.t 12)]⟩,
      ⟨(some 14), (some (9, false)), .bin .lss (.t 13) (.v (.i .i64 0))⟩,
      ⟨(some 15), none, .pick (.t 9) (.v (.b true)) (.t 14)⟩] [2, 3, 4, 15])
   (.cond (.t 15)
   (.seq
    (.reg [
       ⟨(some 16), none, .build [.i .i64 0, .nl 2] []⟩,
       ⟨none, none, .store 2 (.t 4) (.t 16)⟩,
       ⟨(some 5), none, .mov (.v (.b false))⟩] [4, 5])
    (.ret))
   (.skip)))
  (.seq
  (.draw [0, 1, 0, 4, 0, 28, 63, 127, 255] [
     ⟨(some 17), none, .fieldAddr 0 (.t 2)⟩,
     ⟨(some 18), none, .load false 1 (.t 17)⟩,
     ⟨(some 19), none, .fieldAddr 1 (.t 2)⟩,
     ⟨(some 20), none, .load false 1 (.t 19)⟩,
     ⟨(some 21), none, .load true 2 (.t 3)⟩,
     ⟨(some 22), none, .call fid_spec_l1Without false [.im, .im] [(.t 20), (.t 21)]⟩,
     ⟨(some 23), none, .build [.i .i64 0, .nl 2] [(0, 1, (.t 18)), (1, 1, (.t 22))]⟩,
     ⟨none, none, .store 2 (.t 4) (.t 23)⟩,
     ⟨(some 5), none, .mov (.v (.b true))⟩] [4, 5])
  (.ret)))
theorem get_spec_CutEdge : Go.Proofs.Try.prog.funcs[fid_spec_CutEdge]? = some Go.Proofs.Try.f114 := Go.Proofs.Try.func114
theorem ok_spec_CutEdge : okFn Go.Proofs.Try.prog Go.Proofs.Try.f114 24 [] [(4, some (true, 2)), (5, none)] mc_spec_CutEdge = true := by kernel_rfl
def mc_spec_PutEdge : MCode :=
 .seq
  (.reg [
     ⟨(some 2), none, .box 2 (.t 0)⟩,
     ⟨(some 3), none, .box 2 (.t 1)⟩,
     ⟨(some 4), none, .alloc [.i .i64 0, .nl 2]⟩,
     ⟨(some 5), none, .mov (.v (.b false))⟩] [2, 3, 4])
  (.seq
  (.seq
   (.reg [
      ⟨(some 7), none, .load true 2 (.t 2)⟩,
      ⟨(some 8), none, .call fid_spec_GraphValid false [.im] [(.t 7)]⟩,
      ⟨(some 9), none, .un .not (.t 8)⟩,
      ⟨(some 10), none, .mov (.t 9)⟩,
      ⟨(some 11), (some (10, false)), .fieldAddr 1 (.t 2)⟩,
      ⟨(some 12), (some (10, false)), .load false 1 (.t 11)⟩,
      ⟨(some 13), (some (10, false)), .load true 2 (.t 3)⟩,
      ⟨(some 14), (some (10, false)), .call fid_spec_l1Find false [.im, .im] [(.t 12), (.t 13)]⟩,
      ⟨(some 15), (some (10, false)), .bin .geq (.t 14) (.v (.i .i64 0))⟩,
      ⟨(some 16), none, .pick (.t 10) (.v (.b true)) (.t 15)⟩] [2, 3, 4, 16])
   (.cond (.t 16)
   (.seq
    (.reg [
       ⟨(some 17), none, .build [.i .i64 0, .nl 2] []⟩,
       ⟨none, none, .store 2 (.t 4) (.t 17)⟩,
       ⟨(some 5), none, .mov (.v (.b false))⟩] [4, 5])
    (.ret))
   (.skip)))
  (.seq
  (.draw [0, 1, 0, 4, 0, 28, 63, 0, 255] [
     ⟨(some 18), none, .fieldAddr 0 (.t 2)⟩,
     ⟨(some 19), none, .load false 1 (.t 18)⟩,
     ⟨(some 20), none, .fieldAddr 1 (.t 2)⟩,
     ⟨(some 21), none, .load false 1 (.t 20)⟩,
     ⟨(some 22), none, .load true 2 (.t 3)⟩,
     ⟨(some 23), none, .call fid_spec_l1Put false [.im, .im] [(.t 21), (.t 22)]⟩,
     ⟨(some 24), none, .build [.i .i64 0, .nl 2] [(0, 1, (.t 19)), (1, 1, (.t 23))]⟩,
     ⟨(some 6), none, .alloc [.i .i64 0, .nl 2]⟩,
     ⟨none, none, .store 2 (.t 6) (.t 24)⟩] [4, 6])
  (.seq
  (.seq
   (.reg [
      ⟨(some 25), none, .load true 2 (.t 6)⟩,
      ⟨(some 26), none, .call fid_spec_GraphValid false [.im] [(.t 25)]⟩,
      ⟨(some 27), none, .un .not (.t 26)⟩] [4, 6, 27])
   (.cond (.t 27)
   (.seq
    (.reg [
       ⟨(some 28), none, .build [.i .i64 0, .nl 2] []⟩,
       ⟨none, none, .store 2 (.t 4) (.t 28)⟩,
       ⟨(some 5), none, .mov (.v (.b false))⟩] [4, 5])
    (.ret))
   (.skip)))
  (.seq
  (.reg [
     ⟨(some 29), none, .load true 2 (.t 6)⟩,
     ⟨none, none, .store 2 (.t 4) (.t 29)⟩,
     ⟨(some 5), none, .mov (.v (.b true))⟩] [4, 5])
  (.ret)))))
theorem get_spec_PutEdge : Go.Proofs.Try.prog.funcs[fid_spec_PutEdge]? = some Go.Proofs.Try.f115 := Go.Proofs.Try.func115
theorem ok_spec_PutEdge : okFn Go.Proofs.Try.prog Go.Proofs.Try.f115 30 [] [(4, some (true, 2)), (5, none)] mc_spec_PutEdge = true := by kernel_rfl
def mc_spec_l11Case : MCode :=
 .seq
  (.reg [
     ⟨(some 2), none, .alloc [.i .i64 0, .nl 2]⟩,
     ⟨(some 3), none, .mov (.v (.nl 2))⟩] [0, 2])
  (.seq
  (.reg [
     ⟨(some 7), none, .mov (.t 0)⟩,
     ⟨(some 8), none, .call fid_spec_l14Open true [.im] [(.t 7)]⟩,
     ⟨(some 4), none, .mov (.t 8)⟩] [2, 4])
  (.seq
  (.reg [
     ⟨(some 9), none, .mov (.t 4)⟩,
     ⟨(some 10), none, .call fid_spec_l1Draw true [.io] [(.t 9)]⟩,
     ⟨(some 5), none, .alloc [.i .i64 0, .nl 2]⟩,
     ⟨none, none, .store 2 (.t 5) (.t 10)⟩] [2, 4, 5])
  (.seq
  (.reg [
     ⟨(some 11), none, .mov (.t 4)⟩,
     ⟨(some 12), none, .load true 2 (.t 5)⟩,
     ⟨(some 13), none, .call fid_spec_l11Turns true [.io, .im] [(.t 11), (.t 12)]⟩,
     ⟨(some 6), none, .mov (.t 13)⟩] [2, 4, 5, 6])
  (.seq
  (.reg [
     ⟨(some 14), none, .mov (.t 4)⟩,
     ⟨(some 15), none, .load true 2 (.t 5)⟩,
     ⟨(some 16), none, .call fid_spec_l1Wrong true [.io, .im] [(.t 14), (.t 15)]⟩,
     ⟨(some 17), none, .mov (.t 6)⟩,
     ⟨none, none, .store 2 (.t 2) (.t 16)⟩,
     ⟨(some 3), none, .mov (.t 17)⟩] [2, 3])
  (.ret)))))
theorem get_spec_l11Case : Go.Proofs.Try.prog.funcs[fid_spec_l11Case]? = some Go.Proofs.Try.f119 := Go.Proofs.Try.func119
theorem ok_spec_l11Case : okFn Go.Proofs.Try.prog Go.Proofs.Try.f119 18 [] [(2, some (true, 2)), (3, none)] mc_spec_l11Case = true := by kernel_rfl
def mc_spec_l1Copy : MCode :=
 .seq
  (.reg [
     ⟨(some 1), none, .box 2 (.t 0)⟩,
     ⟨(some 2), none, .alloc [.i .i64 0, .nl 2]⟩] [1, 2])
  (.seq
  (.draw [0, 1, 0, 0, 8, 28, 63, 127] [
     ⟨(some 3), none, .fieldAddr 0 (.t 1)⟩,
     ⟨(some 4), none, .load false 1 (.t 3)⟩,
     ⟨(some 5), none, .buildSlice 2 []⟩,
     ⟨(some 6), none, .fieldAddr 1 (.t 1)⟩,
     ⟨(some 7), none, .load false 1 (.t 6)⟩,
     ⟨(some 8), none, .append 2 16 false (.t 5) (.t 7)⟩,
     ⟨(some 9), none, .build [.i .i64 0, .nl 2] [(0, 1, (.t 4)), (1, 1, (.t 8))]⟩,
     ⟨none, none, .store 2 (.t 2) (.t 9)⟩] [2])
  (.ret))
theorem get_spec_l1Copy : Go.Proofs.Try.prog.funcs[fid_spec_l1Copy]? = some Go.Proofs.Try.f122 := Go.Proofs.Try.func122
theorem ok_spec_l1Copy : okFn Go.Proofs.Try.prog Go.Proofs.Try.f122 10 [] [(2, some (true, 2))] mc_spec_l1Copy = true := by kernel_rfl
def mc_spec_BridgesBetween : MCode :=
 .seq
  (.reg [
     ⟨(some 3), none, .box 2 (.t 0)⟩,
     ⟨(some 6), none, .mov (.v (.nl 2))⟩,
     ⟨(some 7), none, .mov (.v (.b false))⟩] [1, 2, 3])
  (.seq
  (.reg [
     ⟨(some 10), none, .buildSlice 2 []⟩,
     ⟨(some 8), none, .mov (.t 10)⟩] [1, 2, 3, 8])
  (.seq
  (.seq
   (.reg [
      ⟨(some 11), none, .load true 2 (.t 3)⟩,
      ⟨(some 12), none, .mov (.t 1)⟩,
      ⟨(some 13), none, .mov (.t 2)⟩,
      ⟨(some 14), none, .call fid_spec_Connected false [.im, .im, .im] [(.t 11), (.t 12), (.t 13)]⟩,
      ⟨(some 15), none, .un .not (.t 14)⟩] [1, 2, 3, 8, 15])
   (.cond (.t 15)
   (.seq
    (.reg [
       ⟨(some 16), none, .mov (.t 8)⟩,
       ⟨(some 6), none, .mov (.t 16)⟩,
       ⟨(some 7), none, .mov (.v (.b false))⟩] [6, 7])
    (.ret))
   (.skip)))
  (.seq
  (.seq
   (.reg [
      ⟨(some 9), none, .mov (.v (.i .i64 0))⟩] [1, 2, 3, 8, 9])
   (.block 0
   (.loop [1, 2, 3, 8, 9]
    (.seq
     (.seq
      (.reg [
         ⟨(some 17), none, .mov (.t 9)⟩,
         ⟨(some 18), none, .fieldAddr 1 (.t 3)⟩,
         ⟨(some 19), none, .load false 1 (.t 18)⟩,
         ⟨(some 20), none, .len (.t 19)⟩,
         ⟨(some 21), none, .bin .lss (.t 17) (.t 20)⟩] [1, 2, 3, 8, 9, 21])
      (.cond (.t 21)
      (.skip)
      (.exit 0)))
     (.seq
     (.block 1
      (.seq
       (.draw [0, 1, 0, 4, 0, 16, 0, 112, 240, 508, 1023, 0, 0, 8191, 16383] [
          ⟨(some 24), none, .fieldAddr 0 (.t 3)⟩,
          ⟨(some 25), none, .load false 1 (.t 24)⟩,
          ⟨(some 26), none, .fieldAddr 1 (.t 3)⟩,
          ⟨(some 27), none, .load false 1 (.t 26)⟩,
          ⟨(some 28), none, .fieldAddr 1 (.t 3)⟩,
          ⟨(some 29), none, .load false 1 (.t 28)⟩,
          ⟨(some 30), none, .mov (.t 9)⟩,
          ⟨(some 31), none, .indexAddr 2 (.t 29) (.t 30)⟩,
          ⟨(some 32), none, .load true 2 (.t 31)⟩,
          ⟨(some 33), none, .call fid_spec_l1Without false [.im, .im] [(.t 27), (.t 32)]⟩,
          ⟨(some 34), none, .build [.i .i64 0, .nl 2] [(0, 1, (.t 25)), (1, 1, (.t 33))]⟩,
          ⟨(some 35), none, .mov (.t 1)⟩,
          ⟨(some 36), none, .mov (.t 2)⟩,
          ⟨(some 37), none, .call fid_spec_l2Joined false [.im, .im, .im] [(.t 34), (.t 35), (.t 36)]⟩,
          ⟨(some 38), none, .un .not (.t 37)⟩] [1, 2, 3, 8, 9, 38])
       (.cond (.t 38)
       (.reg [
          ⟨(some 39), none, .mov (.t 8)⟩,
          ⟨(some 40), none, .fieldAddr 1 (.t 3)⟩,
          ⟨(some 41), none, .load false 1 (.t 40)⟩,
          ⟨(some 42), none, .mov (.t 9)⟩,
          ⟨(some 43), none, .indexAddr 2 (.t 41) (.t 42)⟩,
          ⟨(some 44), none, .load true 2 (.t 43)⟩,
          ⟨(some 45), none, .buildSlice 2 [(.t 44)]⟩,
          ⟨(some 46), none, .append 2 16 true (.t 39) (.t 45)⟩,
          ⟨(some 8), none, .mov (.t 46)⟩] [1, 2, 3, 8, 9])
       (.skip))))
     (.reg [
       ⟨(some 22), none, .mov (.t 9)⟩,
       ⟨(some 23), none, .bin .add (.t 22) (.v (.i .i64 1))⟩,
       ⟨(some 9), none, .mov (.t 23)⟩] [1, 2, 3, 8, 9]))))))
  (.seq
  (.reg [
     ⟨(some 47), none, .mov (.t 8)⟩,
     ⟨(some 6), none, .mov (.t 47)⟩,
     ⟨(some 7), none, .mov (.v (.b true))⟩] [6, 7])
  (.ret)))))
theorem get_spec_BridgesBetween : Go.Proofs.Try.prog.funcs[fid_spec_BridgesBetween]? = some Go.Proofs.Try.f124 := Go.Proofs.Try.func124
theorem ok_spec_BridgesBetween : okFn Go.Proofs.Try.prog Go.Proofs.Try.f124 48 [] [(6, none), (7, none)] mc_spec_BridgesBetween = true := by kernel_rfl
def mc_spec_l5Small : MCode :=
 .seq
  (.reg [
     ⟨(some 2), none, .alloc [.i .i64 0, .nl 2]⟩] [0, 2])
  (.seq
  (.reg [
     ⟨(some 8), none, .mov (.t 0)⟩,
     ⟨(some 9), none, .buildSlice 1 [(.v (.i .i64 5)), (.v (.i .i64 6)), (.v (.i .i64 4)), (.v (.i .i64 7)), (.v (.i .i64 3))]⟩,
     ⟨(some 10), none, .call fid_p_spec_l14Rd_num false [.io, .im] [(.t 8), (.t 9)]⟩,
     ⟨(some 11), none, .build [.i .i64 0, .nl 2] [(0, 1, (.t 10))]⟩,
     ⟨(some 3), none, .alloc [.i .i64 0, .nl 2]⟩,
     ⟨none, none, .store 2 (.t 3) (.t 11)⟩] [0, 2, 3])
  (.seq
  (.seq
   (.reg [
      ⟨(some 4), none, .mov (.v (.i .i64 1))⟩] [0, 2, 3, 4])
   (.block 0
   (.loop [0, 2, 3, 4]
    (.seq
     (.seq
      (.reg [
         ⟨(some 12), none, .mov (.t 4)⟩,
         ⟨(some 13), none, .fieldAddr 0 (.t 3)⟩,
         ⟨(some 14), none, .load false 1 (.t 13)⟩,
         ⟨(some 15), none, .bin .lss (.t 12) (.t 14)⟩] [0, 2, 3, 4, 15])
      (.cond (.t 15)
      (.skip)
      (.exit 0)))
     (.seq
     (.block 1
      (.seq
       (.reg [
          ⟨(some 18), none, .mov (.t 0)⟩,
          ⟨(some 19), none, .call fid_p_spec_l14Rd_pick false [.io, .im] [(.t 18), (.v (.i .i64 5))]⟩,
          ⟨(some 20), none, .bin .gtr (.t 19) (.v (.i .i64 0))⟩] [0, 2, 3, 4, 20])
       (.cond (.t 20)
       (.draw [0, 1, 0, 0, 12, 0, 60, 127, 255, 511] [
          ⟨(some 21), none, .fieldAddr 1 (.t 3)⟩,
          ⟨(some 22), none, .load false 1 (.t 21)⟩,
          ⟨(some 23), none, .mov (.t 0)⟩,
          ⟨(some 24), none, .mov (.t 4)⟩,
          ⟨(some 25), none, .call fid_p_spec_l14Rd_pick false [.io, .im] [(.t 23), (.t 24)]⟩,
          ⟨(some 26), none, .mov (.t 4)⟩,
          ⟨(some 27), none, .call fid_spec_l1Edge false [.im, .im] [(.t 25), (.t 26)]⟩,
          ⟨(some 28), none, .call fid_spec_l1Put false [.im, .im] [(.t 22), (.t 27)]⟩,
          ⟨(some 29), none, .fieldAddr 1 (.t 3)⟩,
          ⟨none, none, .store 1 (.t 29) (.t 28)⟩] [0, 2, 3, 4])
       (.skip))))
     (.reg [
       ⟨(some 16), none, .mov (.t 4)⟩,
       ⟨(some 17), none, .bin .add (.t 16) (.v (.i .i64 1))⟩,
       ⟨(some 4), none, .mov (.t 17)⟩] [0, 2, 3, 4]))))))
  (.seq
  (.seq
   (.reg [
      ⟨(some 30), none, .mov (.t 0)⟩,
      ⟨(some 31), none, .buildSlice 1 [(.v (.i .i64 2)), (.v (.i .i64 1)), (.v (.i .i64 3)), (.v (.i .i64 0)), (.v (.i .i64 4))]⟩,
      ⟨(some 32), none, .call fid_p_spec_l14Rd_num false [.io, .im] [(.t 30), (.t 31)]⟩,
      ⟨(some 5), none, .mov (.t 32)⟩] [0, 2, 3, 5])
   (.block 2
   (.loop [0, 2, 3, 5]
    (.seq
     (.seq
      (.reg [
         ⟨(some 33), none, .mov (.t 5)⟩,
         ⟨(some 34), none, .bin .gtr (.t 33) (.v (.i .i64 0))⟩] [0, 2, 3, 5, 34])
      (.cond (.t 34)
      (.skip)
      (.exit 2)))
     (.seq
     (.block 3
      (.seq
       (.reg [
          ⟨(some 37), none, .mov (.t 0)⟩,
          ⟨(some 38), none, .fieldAddr 0 (.t 3)⟩,
          ⟨(some 39), none, .load false 1 (.t 38)⟩,
          ⟨(some 40), none, .call fid_p_spec_l14Rd_pick false [.io, .im] [(.t 37), (.t 39)]⟩,
          ⟨(some 6), none, .mov (.t 40)⟩] [0, 2, 3, 5, 6])
       (.seq
       (.reg [
          ⟨(some 41), none, .mov (.t 0)⟩,
          ⟨(some 42), none, .fieldAddr 0 (.t 3)⟩,
          ⟨(some 43), none, .load false 1 (.t 42)⟩,
          ⟨(some 44), none, .call fid_p_spec_l14Rd_pick false [.io, .im] [(.t 41), (.t 43)]⟩,
          ⟨(some 7), none, .mov (.t 44)⟩] [0, 2, 3, 5, 6, 7])
       (.seq
       (.draw [0, 0, 3, 7, 15, 31, 15, 15, 207, 511, 1023, 2047] [
          ⟨(some 45), none, .mov (.t 6)⟩,
          ⟨(some 46), none, .mov (.t 7)⟩,
          ⟨(some 47), none, .bin .neq (.t 45) (.t 46)⟩,
          ⟨(some 48), none, .mov (.t 47)⟩,
          ⟨(some 49), (some (48, true)), .fieldAddr 1 (.t 3)⟩,
          ⟨(some 50), (some (48, true)), .load false 1 (.t 49)⟩,
          ⟨(some 51), (some (48, true)), .mov (.t 6)⟩,
          ⟨(some 52), (some (48, true)), .mov (.t 7)⟩,
          ⟨(some 53), (some (48, true)), .call fid_spec_l1Edge false [.im, .im] [(.t 51), (.t 52)]⟩,
          ⟨(some 54), (some (48, true)), .call fid_spec_l1Find false [.im, .im] [(.t 50), (.t 53)]⟩,
          ⟨(some 55), (some (48, true)), .bin .lss (.t 54) (.v (.i .i64 0))⟩,
          ⟨(some 56), none, .pick (.t 48) (.t 55) (.v (.b false))⟩] [0, 2, 3, 5, 6, 7, 56])
       (.cond (.t 56)
       (.draw [0, 1, 0, 0, 12, 31, 63, 127] [
          ⟨(some 57), none, .fieldAddr 1 (.t 3)⟩,
          ⟨(some 58), none, .load false 1 (.t 57)⟩,
          ⟨(some 59), none, .mov (.t 6)⟩,
          ⟨(some 60), none, .mov (.t 7)⟩,
          ⟨(some 61), none, .call fid_spec_l1Edge false [.im, .im] [(.t 59), (.t 60)]⟩,
          ⟨(some 62), none, .call fid_spec_l1Put false [.im, .im] [(.t 58), (.t 61)]⟩,
          ⟨(some 63), none, .fieldAddr 1 (.t 3)⟩,
          ⟨none, none, .store 1 (.t 63) (.t 62)⟩] [0, 2, 3, 5])
       (.skip))))))
     (.reg [
       ⟨(some 35), none, .mov (.t 5)⟩,
       ⟨(some 36), none, .bin .sub (.t 35) (.v (.i .i64 1))⟩,
       ⟨(some 5), none, .mov (.t 36)⟩] [0, 2, 3, 5]))))))
  (.seq
  (.reg [
     ⟨(some 64), none, .mov (.t 0)⟩,
     ⟨(some 65), none, .load true 2 (.t 3)⟩,
     ⟨(some 66), none, .call fid_spec_l1Wrong false [.io, .im] [(.t 64), (.t 65)]⟩,
     ⟨none, none, .store 2 (.t 2) (.t 66)⟩] [0, 2])
  (.ret)))))
theorem get_spec_l5Small : Go.Proofs.Try.prog.funcs[fid_spec_l5Small]? = some Go.Proofs.Try.f126 := Go.Proofs.Try.func126
theorem ok_spec_l5Small : okFn Go.Proofs.Try.prog Go.Proofs.Try.f126 67 [0] [(2, some (true, 2))] mc_spec_l5Small = true := by kernel_rfl
def mc_spec_l1Less : MCode :=
 .seq
  (.reg [
     ⟨(some 2), none, .box 2 (.t 0)⟩,
     ⟨(some 3), none, .box 2 (.t 1)⟩,
     ⟨(some 4), none, .mov (.v (.b false))⟩] [2, 3])
  (.seq
  (.reg [
     ⟨(some 5), none, .fieldAddr 0 (.t 2)⟩,
     ⟨(some 6), none, .load false 1 (.t 5)⟩,
     ⟨(some 7), none, .fieldAddr 0 (.t 3)⟩,
     ⟨(some 8), none, .load false 1 (.t 7)⟩,
     ⟨(some 9), none, .bin .lss (.t 6) (.t 8)⟩,
     ⟨(some 10), none, .mov (.t 9)⟩,
     ⟨(some 11), (some (10, false)), .fieldAddr 0 (.t 2)⟩,
     ⟨(some 12), (some (10, false)), .load false 1 (.t 11)⟩,
     ⟨(some 13), (some (10, false)), .fieldAddr 0 (.t 3)⟩,
     ⟨(some 14), (some (10, false)), .load false 1 (.t 13)⟩,
     ⟨(some 15), (some (10, false)), .bin .eql (.t 12) (.t 14)⟩,
     ⟨(some 16), (some (10, false)), .mov (.t 15)⟩,
     ⟨(some 17), (some (16, true)), .fieldAddr 1 (.t 2)⟩,
     ⟨(some 18), (some (16, true)), .load false 1 (.t 17)⟩,
     ⟨(some 19), (some (16, true)), .fieldAddr 1 (.t 3)⟩,
     ⟨(some 20), (some (16, true)), .load false 1 (.t 19)⟩,
     ⟨(some 21), (some (16, true)), .bin .lss (.t 18) (.t 20)⟩,
     ⟨(some 22), (some (10, false)), .pick (.t 16) (.t 21) (.v (.b false))⟩,
     ⟨(some 23), none, .pick (.t 10) (.v (.b true)) (.t 22)⟩,
     ⟨(some 4), none, .mov (.t 23)⟩] [4])
  (.ret))
theorem get_spec_l1Less : Go.Proofs.Try.prog.funcs[fid_spec_l1Less]? = some Go.Proofs.Try.f131 := Go.Proofs.Try.func131
theorem ok_spec_l1Less : okFn Go.Proofs.Try.prog Go.Proofs.Try.f131 24 [] [(4, none)] mc_spec_l1Less = true := by kernel_rfl
def mc_spec_l1Find : MCode :=
 .seq
  (.reg [
     ⟨(some 3), none, .box 2 (.t 1)⟩,
     ⟨(some 4), none, .mov (.v (.i .i64 0))⟩] [0, 3])
  (.seq
  (.seq
   (.reg [
      ⟨(some 5), none, .mov (.v (.i .i64 0))⟩] [0, 3, 5])
   (.block 0
   (.loop [0, 3, 5]
    (.seq
     (.seq
      (.reg [
         ⟨(some 6), none, .mov (.t 5)⟩,
         ⟨(some 7), none, .mov (.t 0)⟩,
         ⟨(some 8), none, .len (.t 7)⟩,
         ⟨(some 9), none, .bin .lss (.t 6) (.t 8)⟩] [0, 3, 5, 9])
      (.cond (.t 9)
      (.skip)
      (.exit 0)))
     (.seq
     (.block 1
      (.seq
       (.draw [0, 0, 3, 7, 0, 31] [
          ⟨(some 12), none, .mov (.t 0)⟩,
          ⟨(some 13), none, .mov (.t 5)⟩,
          ⟨(some 14), none, .indexAddr 2 (.t 12) (.t 13)⟩,
          ⟨(some 15), none, .load true 2 (.t 14)⟩,
          ⟨(some 16), none, .load true 2 (.t 3)⟩,
          ⟨(some 17), none, .eqAgg false [true, true] (.t 15) (.t 16)⟩] [0, 3, 5, 17])
       (.cond (.t 17)
       (.seq
        (.reg [
           ⟨(some 18), none, .mov (.t 5)⟩,
           ⟨(some 4), none, .mov (.t 18)⟩] [4])
        (.ret))
       (.skip))))
     (.reg [
       ⟨(some 10), none, .mov (.t 5)⟩,
       ⟨(some 11), none, .bin .add (.t 10) (.v (.i .i64 1))⟩,
       ⟨(some 5), none, .mov (.t 11)⟩] [0, 3, 5]))))))
  (.seq
  (.reg [
     ⟨(some 4), none, .mov (.v (.i .i64 (-1)))⟩] [4])
  (.ret)))
theorem get_spec_l1Find : Go.Proofs.Try.prog.funcs[fid_spec_l1Find]? = some Go.Proofs.Try.f134 := Go.Proofs.Try.func134
theorem ok_spec_l1Find : okFn Go.Proofs.Try.prog Go.Proofs.Try.f134 19 [] [(4, none)] mc_spec_l1Find = true := by kernel_rfl
def mc_spec_l1Put : MCode :=
 .seq
  (.reg [
     ⟨(some 3), none, .box 2 (.t 1)⟩,
     ⟨(some 4), none, .mov (.v (.nl 2))⟩] [0, 3])
  (.seq
  (.reg [
     ⟨(some 8), none, .buildSlice 2 []⟩,
     ⟨(some 5), none, .mov (.t 8)⟩] [0, 3, 5])
  (.seq
  (.reg [
     ⟨(some 6), none, .mov (.v (.b false))⟩] [0, 3, 5, 6])
  (.seq
  (.seq
   (.reg [
      ⟨(some 7), none, .mov (.v (.i .i64 0))⟩] [0, 3, 5, 6, 7])
   (.block 0
   (.loop [0, 3, 5, 6, 7]
    (.seq
     (.seq
      (.reg [
         ⟨(some 9), none, .mov (.t 7)⟩,
         ⟨(some 10), none, .mov (.t 0)⟩,
         ⟨(some 11), none, .len (.t 10)⟩,
         ⟨(some 12), none, .bin .lss (.t 9) (.t 11)⟩] [0, 3, 5, 6, 7, 12])
      (.cond (.t 12)
      (.skip)
      (.exit 0)))
     (.seq
     (.block 1
      (.seq
       (.seq
        (.draw [0, 1, 3, 7, 7, 7, 55, 119, 255, 511] [
           ⟨(some 15), none, .mov (.t 6)⟩,
           ⟨(some 16), none, .un .not (.t 15)⟩,
           ⟨(some 17), none, .mov (.t 16)⟩,
           ⟨(some 18), (some (17, true)), .load true 2 (.t 3)⟩,
           ⟨(some 19), (some (17, true)), .mov (.t 0)⟩,
           ⟨(some 20), (some (17, true)), .mov (.t 7)⟩,
           ⟨(some 21), (some (17, true)), .indexAddr 2 (.t 19) (.t 20)⟩,
           ⟨(some 22), (some (17, true)), .load true 2 (.t 21)⟩,
           ⟨(some 23), (some (17, true)), .call fid_spec_l1Less false [.im, .im] [(.t 18), (.t 22)]⟩,
           ⟨(some 24), none, .pick (.t 17) (.t 23) (.v (.b false))⟩] [0, 3, 5, 6, 7, 24])
        (.cond (.t 24)
        (.seq
         (.reg [
            ⟨(some 25), none, .mov (.t 5)⟩,
            ⟨(some 26), none, .load true 2 (.t 3)⟩,
            ⟨(some 27), none, .buildSlice 2 [(.t 26)]⟩,
            ⟨(some 28), none, .append 2 16 true (.t 25) (.t 27)⟩,
            ⟨(some 5), none, .mov (.t 28)⟩] [0, 3, 5, 7])
         (.reg [
           ⟨(some 6), none, .mov (.v (.b true))⟩] [0, 3, 5, 6, 7]))
        (.skip)))
       (.reg [
         ⟨(some 29), none, .mov (.t 5)⟩,
         ⟨(some 30), none, .mov (.t 0)⟩,
         ⟨(some 31), none, .mov (.t 7)⟩,
         ⟨(some 32), none, .indexAddr 2 (.t 30) (.t 31)⟩,
         ⟨(some 33), none, .load true 2 (.t 32)⟩,
         ⟨(some 34), none, .buildSlice 2 [(.t 33)]⟩,
         ⟨(some 35), none, .append 2 16 true (.t 29) (.t 34)⟩,
         ⟨(some 5), none, .mov (.t 35)⟩] [0, 3, 5, 6, 7])))
     (.reg [
       ⟨(some 13), none, .mov (.t 7)⟩,
       ⟨(some 14), none, .bin .add (.t 13) (.v (.i .i64 1))⟩,
       ⟨(some 7), none, .mov (.t 14)⟩] [0, 3, 5, 6, 7]))))))
  (.seq
  (.seq
   (.reg [
      ⟨(some 36), none, .mov (.t 6)⟩,
      ⟨(some 37), none, .un .not (.t 36)⟩] [3, 5, 37])
   (.cond (.t 37)
   (.reg [
      ⟨(some 38), none, .mov (.t 5)⟩,
      ⟨(some 39), none, .load true 2 (.t 3)⟩,
      ⟨(some 40), none, .buildSlice 2 [(.t 39)]⟩,
      ⟨(some 41), none, .append 2 16 true (.t 38) (.t 40)⟩,
      ⟨(some 5), none, .mov (.t 41)⟩] [5])
   (.skip)))
  (.seq
  (.reg [
     ⟨(some 42), none, .mov (.t 5)⟩,
     ⟨(some 4), none, .mov (.t 42)⟩] [4])
  (.ret))))))
theorem get_spec_l1Put : Go.Proofs.Try.prog.funcs[fid_spec_l1Put]? = some Go.Proofs.Try.f135 := Go.Proofs.Try.func135
theorem ok_spec_l1Put : okFn Go.Proofs.Try.prog Go.Proofs.Try.f135 43 [] [(4, none)] mc_spec_l1Put = true := by kernel_rfl
def mc_spec_PartsOf : MCode :=
 .seq
  (.reg [
     ⟨(some 1), none, .box 2 (.t 0)⟩,
     ⟨(some 2), none, .mov (.v (.nl 1))⟩] [1])
  (.seq
  (.seq
   (.reg [
      ⟨(some 3), none, .load true 2 (.t 1)⟩,
      ⟨(some 4), none, .call fid_spec_GraphValid false [.im] [(.t 3)]⟩,
      ⟨(some 5), none, .un .not (.t 4)⟩] [1, 5])
   (.cond (.t 5)
   (.seq
    (.reg [
       ⟨(some 6), none, .buildSlice 1 []⟩,
       ⟨(some 2), none, .mov (.t 6)⟩] [2])
    (.ret))
   (.skip)))
  (.seq
  (.reg [
     ⟨(some 7), none, .load true 2 (.t 1)⟩,
     ⟨(some 8), none, .call fid_spec_l2Labels false [.im] [(.t 7)]⟩,
     ⟨(some 2), none, .mov (.t 8)⟩] [2])
  (.ret)))
theorem get_spec_PartsOf : Go.Proofs.Try.prog.funcs[fid_spec_PartsOf]? = some Go.Proofs.Try.f136 := Go.Proofs.Try.func136
theorem ok_spec_PartsOf : okFn Go.Proofs.Try.prog Go.Proofs.Try.f136 9 [] [(2, none)] mc_spec_PartsOf = true := by kernel_rfl
def mc_spec_l4Bridge : MCode :=
 .seq
  (.reg [
     ⟨(some 2), none, .box 2 (.t 0)⟩,
     ⟨(some 3), none, .box 2 (.t 1)⟩,
     ⟨(some 4), none, .mov (.v (.b false))⟩] [2, 3])
  (.seq
  (.draw [0, 1, 0, 4, 0, 28, 63, 0, 128, 0, 512, 2047, 4095, 8191] [
     ⟨(some 5), none, .fieldAddr 0 (.t 2)⟩,
     ⟨(some 6), none, .load false 1 (.t 5)⟩,
     ⟨(some 7), none, .fieldAddr 1 (.t 2)⟩,
     ⟨(some 8), none, .load false 1 (.t 7)⟩,
     ⟨(some 9), none, .load true 2 (.t 3)⟩,
     ⟨(some 10), none, .call fid_spec_l1Without false [.im, .im] [(.t 8), (.t 9)]⟩,
     ⟨(some 11), none, .build [.i .i64 0, .nl 2] [(0, 1, (.t 6)), (1, 1, (.t 10))]⟩,
     ⟨(some 12), none, .fieldAddr 0 (.t 3)⟩,
     ⟨(some 13), none, .load false 1 (.t 12)⟩,
     ⟨(some 14), none, .fieldAddr 1 (.t 3)⟩,
     ⟨(some 15), none, .load false 1 (.t 14)⟩,
     ⟨(some 16), none, .call fid_spec_l2Joined false [.im, .im, .im] [(.t 11), (.t 13), (.t 15)]⟩,
     ⟨(some 17), none, .un .not (.t 16)⟩,
     ⟨(some 4), none, .mov (.t 17)⟩] [4])
  (.ret))
theorem get_spec_l4Bridge : Go.Proofs.Try.prog.funcs[fid_spec_l4Bridge]? = some Go.Proofs.Try.f137 := Go.Proofs.Try.func137
theorem ok_spec_l4Bridge : okFn Go.Proofs.Try.prog Go.Proofs.Try.f137 18 [] [(4, none)] mc_spec_l4Bridge = true := by kernel_rfl
def mc_spec_l2Forest : MCode :=
 .seq
  (.reg [
     ⟨(some 4), none, .mov (.v (.nl 2))⟩] [0, 1])
  (.seq
  (.reg [
     ⟨(some 7), none, .buildSlice 2 []⟩,
     ⟨(some 5), none, .mov (.t 7)⟩] [0, 1, 5])
  (.seq
  (.seq
   (.reg [
      ⟨(some 6), none, .mov (.v (.i .i64 0))⟩] [0, 1, 5, 6])
   (.block 0
   (.loop [0, 1, 5, 6]
    (.seq
     (.seq
      (.reg [
         ⟨(some 8), none, .mov (.t 6)⟩,
         ⟨(some 9), none, .mov (.t 1)⟩,
         ⟨(some 10), none, .len (.t 9)⟩,
         ⟨(some 11), none, .bin .lss (.t 8) (.t 10)⟩] [0, 1, 5, 6, 11])
      (.cond (.t 11)
      (.skip)
      (.exit 0)))
     (.seq
     (.block 1
      (.seq
       (.draw [0, 0, 3, 0, 0, 24, 56, 120, 0, 0, 768, 1792, 3840, 8191, 16383] [
          ⟨(some 14), none, .mov (.t 0)⟩,
          ⟨(some 15), none, .mov (.t 5)⟩,
          ⟨(some 16), none, .build [.i .i64 0, .nl 2] [(0, 1, (.t 14)), (1, 1, (.t 15))]⟩,
          ⟨(some 17), none, .mov (.t 1)⟩,
          ⟨(some 18), none, .mov (.t 6)⟩,
          ⟨(some 19), none, .indexAddr 2 (.t 17) (.t 18)⟩,
          ⟨(some 20), none, .fieldAddr 0 (.t 19)⟩,
          ⟨(some 21), none, .load false 1 (.t 20)⟩,
          ⟨(some 22), none, .mov (.t 1)⟩,
          ⟨(some 23), none, .mov (.t 6)⟩,
          ⟨(some 24), none, .indexAddr 2 (.t 22) (.t 23)⟩,
          ⟨(some 25), none, .fieldAddr 1 (.t 24)⟩,
          ⟨(some 26), none, .load false 1 (.t 25)⟩,
          ⟨(some 27), none, .call fid_spec_l2Joined false [.im, .im, .im] [(.t 16), (.t 21), (.t 26)]⟩,
          ⟨(some 28), none, .un .not (.t 27)⟩] [0, 1, 5, 6, 28])
       (.cond (.t 28)
       (.reg [
          ⟨(some 29), none, .mov (.t 5)⟩,
          ⟨(some 30), none, .mov (.t 1)⟩,
          ⟨(some 31), none, .mov (.t 6)⟩,
          ⟨(some 32), none, .indexAddr 2 (.t 30) (.t 31)⟩,
          ⟨(some 33), none, .load true 2 (.t 32)⟩,
          ⟨(some 34), none, .buildSlice 2 [(.t 33)]⟩,
          ⟨(some 35), none, .append 2 16 true (.t 29) (.t 34)⟩,
          ⟨(some 5), none, .mov (.t 35)⟩] [0, 1, 5, 6])
       (.skip))))
     (.reg [
       ⟨(some 12), none, .mov (.t 6)⟩,
       ⟨(some 13), none, .bin .add (.t 12) (.v (.i .i64 1))⟩,
       ⟨(some 6), none, .mov (.t 13)⟩] [0, 1, 5, 6]))))))
  (.seq
  (.reg [
     ⟨(some 36), none, .mov (.t 5)⟩,
     ⟨(some 4), none, .mov (.t 36)⟩] [4])
  (.ret))))
theorem get_spec_l2Forest : Go.Proofs.Try.prog.funcs[fid_spec_l2Forest]? = some Go.Proofs.Try.f140 := Go.Proofs.Try.func140
theorem ok_spec_l2Forest : okFn Go.Proofs.Try.prog Go.Proofs.Try.f140 37 [] [(4, none)] mc_spec_l2Forest = true := by kernel_rfl
def mc_spec_l1Draw : MCode :=
 .seq
  (.reg [
     ⟨(some 2), none, .alloc [.i .i64 0, .nl 2]⟩] [0, 2])
  (.seq
  (.reg [
     ⟨(some 8), none, .mov (.t 0)⟩,
     ⟨(some 9), none, .buildSlice 1 [(.v (.i .i64 6)), (.v (.i .i64 5)), (.v (.i .i64 7)), (.v (.i .i64 4)), (.v (.i .i64 8)), (.v (.i .i64 10)), (.v (.i .i64 3)), (.v (.i .i64 1)), (.v (.i .i64 16))]⟩,
     ⟨(some 10), none, .call fid_p_spec_l14Rd_num false [.io, .im] [(.t 8), (.t 9)]⟩,
     ⟨(some 11), none, .build [.i .i64 0, .nl 2] [(0, 1, (.t 10))]⟩,
     ⟨(some 3), none, .alloc [.i .i64 0, .nl 2]⟩,
     ⟨none, none, .store 2 (.t 3) (.t 11)⟩] [0, 2, 3])
  (.seq
  (.seq
   (.reg [
      ⟨(some 4), none, .mov (.v (.i .i64 1))⟩] [0, 2, 3, 4])
   (.block 0
   (.loop [0, 2, 3, 4]
    (.seq
     (.seq
      (.reg [
         ⟨(some 12), none, .mov (.t 4)⟩,
         ⟨(some 13), none, .fieldAddr 0 (.t 3)⟩,
         ⟨(some 14), none, .load false 1 (.t 13)⟩,
         ⟨(some 15), none, .bin .lss (.t 12) (.t 14)⟩] [0, 2, 3, 4, 15])
      (.cond (.t 15)
      (.skip)
      (.exit 0)))
     (.seq
     (.block 1
      (.seq
       (.reg [
          ⟨(some 18), none, .mov (.t 0)⟩,
          ⟨(some 19), none, .call fid_p_spec_l14Rd_pick false [.io, .im] [(.t 18), (.v (.i .i64 4))]⟩,
          ⟨(some 20), none, .bin .gtr (.t 19) (.v (.i .i64 0))⟩] [0, 2, 3, 4, 20])
       (.cond (.t 20)
       (.draw [0, 1, 0, 0, 12, 0, 60, 127, 255, 511] [
          ⟨(some 21), none, .fieldAddr 1 (.t 3)⟩,
          ⟨(some 22), none, .load false 1 (.t 21)⟩,
          ⟨(some 23), none, .mov (.t 0)⟩,
          ⟨(some 24), none, .mov (.t 4)⟩,
          ⟨(some 25), none, .call fid_p_spec_l14Rd_pick false [.io, .im] [(.t 23), (.t 24)]⟩,
          ⟨(some 26), none, .mov (.t 4)⟩,
          ⟨(some 27), none, .call fid_spec_l1Edge false [.im, .im] [(.t 25), (.t 26)]⟩,
          ⟨(some 28), none, .call fid_spec_l1Put false [.im, .im] [(.t 22), (.t 27)]⟩,
          ⟨(some 29), none, .fieldAddr 1 (.t 3)⟩,
          ⟨none, none, .store 1 (.t 29) (.t 28)⟩] [0, 2, 3, 4])
       (.skip))))
     (.reg [
       ⟨(some 16), none, .mov (.t 4)⟩,
       ⟨(some 17), none, .bin .add (.t 16) (.v (.i .i64 1))⟩,
       ⟨(some 4), none, .mov (.t 17)⟩] [0, 2, 3, 4]))))))
  (.seq
  (.seq
   (.reg [
      ⟨(some 30), none, .mov (.t 0)⟩,
      ⟨(some 31), none, .buildSlice 1 [(.v (.i .i64 2)), (.v (.i .i64 1)), (.v (.i .i64 3)), (.v (.i .i64 0)), (.v (.i .i64 5)), (.v (.i .i64 8))]⟩,
      ⟨(some 32), none, .call fid_p_spec_l14Rd_num false [.io, .im] [(.t 30), (.t 31)]⟩,
      ⟨(some 5), none, .mov (.t 32)⟩] [0, 2, 3, 5])
   (.block 2
   (.loop [0, 2, 3, 5]
    (.seq
     (.seq
      (.reg [
         ⟨(some 33), none, .mov (.t 5)⟩,
         ⟨(some 34), none, .bin .gtr (.t 33) (.v (.i .i64 0))⟩] [0, 2, 3, 5, 34])
      (.cond (.t 34)
      (.skip)
      (.exit 2)))
     (.seq
     (.block 3
      (.seq
       (.reg [
          ⟨(some 37), none, .mov (.t 0)⟩,
          ⟨(some 38), none, .fieldAddr 0 (.t 3)⟩,
          ⟨(some 39), none, .load false 1 (.t 38)⟩,
          ⟨(some 40), none, .call fid_p_spec_l14Rd_pick false [.io, .im] [(.t 37), (.t 39)]⟩,
          ⟨(some 6), none, .mov (.t 40)⟩] [0, 2, 3, 5, 6])
       (.seq
       (.reg [
          ⟨(some 41), none, .mov (.t 0)⟩,
          ⟨(some 42), none, .fieldAddr 0 (.t 3)⟩,
          ⟨(some 43), none, .load false 1 (.t 42)⟩,
          ⟨(some 44), none, .call fid_p_spec_l14Rd_pick false [.io, .im] [(.t 41), (.t 43)]⟩,
          ⟨(some 7), none, .mov (.t 44)⟩] [0, 2, 3, 5, 6, 7])
       (.seq
       (.draw [0, 0, 3, 7, 15, 31, 15, 15, 207, 511, 1023, 2047] [
          ⟨(some 45), none, .mov (.t 6)⟩,
          ⟨(some 46), none, .mov (.t 7)⟩,
          ⟨(some 47), none, .bin .neq (.t 45) (.t 46)⟩,
          ⟨(some 48), none, .mov (.t 47)⟩,
          ⟨(some 49), (some (48, true)), .fieldAddr 1 (.t 3)⟩,
          ⟨(some 50), (some (48, true)), .load false 1 (.t 49)⟩,
          ⟨(some 51), (some (48, true)), .mov (.t 6)⟩,
          ⟨(some 52), (some (48, true)), .mov (.t 7)⟩,
          ⟨(some 53), (some (48, true)), .call fid_spec_l1Edge false [.im, .im] [(.t 51), (.t 52)]⟩,
          ⟨(some 54), (some (48, true)), .call fid_spec_l1Find false [.im, .im] [(.t 50), (.t 53)]⟩,
          ⟨(some 55), (some (48, true)), .bin .lss (.t 54) (.v (.i .i64 0))⟩,
          ⟨(some 56), none, .pick (.t 48) (.t 55) (.v (.b false))⟩] [0, 2, 3, 5, 6, 7, 56])
       (.cond (.t 56)
       (.draw [0, 1, 0, 0, 12, 31, 63, 127] [
          ⟨(some 57), none, .fieldAddr 1 (.t 3)⟩,
          ⟨(some 58), none, .load false 1 (.t 57)⟩,
          ⟨(some 59), none, .mov (.t 6)⟩,
          ⟨(some 60), none, .mov (.t 7)⟩,
          ⟨(some 61), none, .call fid_spec_l1Edge false [.im, .im] [(.t 59), (.t 60)]⟩,
          ⟨(some 62), none, .call fid_spec_l1Put false [.im, .im] [(.t 58), (.t 61)]⟩,
          ⟨(some 63), none, .fieldAddr 1 (.t 3)⟩,
          ⟨none, none, .store 1 (.t 63) (.t 62)⟩] [0, 2, 3, 5])
       (.skip))))))
     (.reg [
       ⟨(some 35), none, .mov (.t 5)⟩,
       ⟨(some 36), none, .bin .sub (.t 35) (.v (.i .i64 1))⟩,
       ⟨(some 5), none, .mov (.t 36)⟩] [0, 2, 3, 5]))))))
  (.seq
  (.reg [
     ⟨(some 64), none, .load true 2 (.t 3)⟩,
     ⟨none, none, .store 2 (.t 2) (.t 64)⟩] [0, 2])
  (.ret)))))
theorem get_spec_l1Draw : Go.Proofs.Try.prog.funcs[fid_spec_l1Draw]? = some Go.Proofs.Try.f141 := Go.Proofs.Try.func141
theorem ok_spec_l1Draw : okFn Go.Proofs.Try.prog Go.Proofs.Try.f141 65 [0] [(2, some (true, 2))] mc_spec_l1Draw = true := by kernel_rfl
def mc_spec_l1Without : MCode :=
 .seq
  (.reg [
     ⟨(some 3), none, .box 2 (.t 1)⟩,
     ⟨(some 4), none, .mov (.v (.nl 2))⟩] [0, 3])
  (.seq
  (.reg [
     ⟨(some 7), none, .buildSlice 2 []⟩,
     ⟨(some 5), none, .mov (.t 7)⟩] [0, 3, 5])
  (.seq
  (.seq
   (.reg [
      ⟨(some 6), none, .mov (.v (.i .i64 0))⟩] [0, 3, 5, 6])
   (.block 0
   (.loop [0, 3, 5, 6]
    (.seq
     (.seq
      (.reg [
         ⟨(some 8), none, .mov (.t 6)⟩,
         ⟨(some 9), none, .mov (.t 0)⟩,
         ⟨(some 10), none, .len (.t 9)⟩,
         ⟨(some 11), none, .bin .lss (.t 8) (.t 10)⟩] [0, 3, 5, 6, 11])
      (.cond (.t 11)
      (.skip)
      (.exit 0)))
     (.seq
     (.block 1
      (.seq
       (.draw [0, 0, 3, 7, 0, 31] [
          ⟨(some 14), none, .mov (.t 0)⟩,
          ⟨(some 15), none, .mov (.t 6)⟩,
          ⟨(some 16), none, .indexAddr 2 (.t 14) (.t 15)⟩,
          ⟨(some 17), none, .load true 2 (.t 16)⟩,
          ⟨(some 18), none, .load true 2 (.t 3)⟩,
          ⟨(some 19), none, .eqAgg true [true, true] (.t 17) (.t 18)⟩] [0, 3, 5, 6, 19])
       (.cond (.t 19)
       (.reg [
          ⟨(some 20), none, .mov (.t 5)⟩,
          ⟨(some 21), none, .mov (.t 0)⟩,
          ⟨(some 22), none, .mov (.t 6)⟩,
          ⟨(some 23), none, .indexAddr 2 (.t 21) (.t 22)⟩,
          ⟨(some 24), none, .load true 2 (.t 23)⟩,
          ⟨(some 25), none, .buildSlice 2 [(.t 24)]⟩,
          ⟨(some 26), none, .append 2 16 true (.t 20) (.t 25)⟩,
          ⟨(some 5), none, .mov (.t 26)⟩] [0, 3, 5, 6])
       (.skip))))
     (.reg [
       ⟨(some 12), none, .mov (.t 6)⟩,
       ⟨(some 13), none, .bin .add (.t 12) (.v (.i .i64 1))⟩,
       ⟨(some 6), none, .mov (.t 13)⟩] [0, 3, 5, 6]))))))
  (.seq
  (.reg [
     ⟨(some 27), none, .mov (.t 5)⟩,
     ⟨(some 4), none, .mov (.t 27)⟩] [4])
  (.ret))))
theorem get_spec_l1Without : Go.Proofs.Try.prog.funcs[fid_spec_l1Without]? = some Go.Proofs.Try.f145 := Go.Proofs.Try.func145
theorem ok_spec_l1Without : okFn Go.Proofs.Try.prog Go.Proofs.Try.f145 28 [] [(4, none)] mc_spec_l1Without = true := by kernel_rfl
def mc_spec_l11Turns : MCode :=
 .seq
  (.reg [
     ⟨(some 3), none, .box 2 (.t 1)⟩,
     ⟨(some 4), none, .mov (.v (.nl 2))⟩] [0, 3])
  (.seq
  (.reg [
     ⟨(some 9), none, .buildSlice 2 []⟩,
     ⟨(some 5), none, .mov (.t 9)⟩] [0, 3, 5])
  (.seq
  (.seq
   (.reg [
      ⟨(some 10), none, .mov (.t 0)⟩,
      ⟨(some 11), none, .buildSlice 1 [(.v (.i .i64 3)), (.v (.i .i64 2)), (.v (.i .i64 5)), (.v (.i .i64 1)), (.v (.i .i64 0)), (.v (.i .i64 7))]⟩,
      ⟨(some 12), none, .call fid_p_spec_l14Rd_num false [.io, .im] [(.t 10), (.t 11)]⟩,
      ⟨(some 6), none, .mov (.t 12)⟩] [0, 3, 5, 6])
   (.block 0
   (.loop [0, 3, 5, 6]
    (.seq
     (.seq
      (.reg [
         ⟨(some 13), none, .mov (.t 6)⟩,
         ⟨(some 14), none, .bin .gtr (.t 13) (.v (.i .i64 0))⟩] [0, 3, 5, 6, 14])
      (.cond (.t 14)
      (.skip)
      (.exit 0)))
     (.seq
     (.block 1
      (.seq
       (.reg [
          ⟨(some 17), none, .mov (.t 0)⟩,
          ⟨(some 18), none, .fieldAddr 0 (.t 3)⟩,
          ⟨(some 19), none, .load false 1 (.t 18)⟩,
          ⟨(some 20), none, .call fid_p_spec_l14Rd_pick false [.io, .im] [(.t 17), (.t 19)]⟩,
          ⟨(some 7), none, .mov (.t 20)⟩] [0, 3, 5, 6, 7])
       (.seq
       (.reg [
          ⟨(some 21), none, .mov (.t 0)⟩,
          ⟨(some 22), none, .fieldAddr 0 (.t 3)⟩,
          ⟨(some 23), none, .load false 1 (.t 22)⟩,
          ⟨(some 24), none, .call fid_p_spec_l14Rd_pick false [.io, .im] [(.t 21), (.t 23)]⟩,
          ⟨(some 8), none, .mov (.t 24)⟩] [0, 3, 5, 6, 7, 8])
       (.seq
       (.reg [
          ⟨(some 25), none, .fieldAddr 1 (.t 3)⟩,
          ⟨(some 26), none, .load false 1 (.t 25)⟩,
          ⟨(some 27), none, .len (.t 26)⟩,
          ⟨(some 28), none, .bin .gtr (.t 27) (.v (.i .i64 0))⟩,
          ⟨(some 29), none, .mov (.t 28)⟩,
          ⟨(some 30), (some (29, true)), .mov (.t 0)⟩,
          ⟨(some 31), (some (29, true)), .call fid_p_spec_l14Rd_pick false [.io, .im] [(.t 30), (.v (.i .i64 2))]⟩,
          ⟨(some 32), (some (29, true)), .bin .eql (.t 31) (.v (.i .i64 0))⟩,
          ⟨(some 33), none, .pick (.t 29) (.t 32) (.v (.b false))⟩] [0, 3, 5, 6, 7, 8, 33])
       (.cond (.t 33)
       (.draw [0, 0, 2, 0, 0, 16, 48, 120, 254, 510, 1022, 2046, 4095, 8191] [
          ⟨(some 34), none, .mov (.t 5)⟩,
          ⟨(some 35), none, .fieldAddr 1 (.t 3)⟩,
          ⟨(some 36), none, .load false 1 (.t 35)⟩,
          ⟨(some 37), none, .mov (.t 0)⟩,
          ⟨(some 38), none, .fieldAddr 1 (.t 3)⟩,
          ⟨(some 39), none, .load false 1 (.t 38)⟩,
          ⟨(some 40), none, .len (.t 39)⟩,
          ⟨(some 41), none, .call fid_p_spec_l14Rd_pick false [.io, .im] [(.t 37), (.t 40)]⟩,
          ⟨(some 42), none, .indexAddr 2 (.t 36) (.t 41)⟩,
          ⟨(some 43), none, .load true 2 (.t 42)⟩,
          ⟨(some 44), none, .build [.i .i64 0, .i .i64 0] [(0, 2, (.t 43))]⟩,
          ⟨(some 45), none, .buildSlice 2 [(.t 44)]⟩,
          ⟨(some 46), none, .append 2 16 true (.t 34) (.t 45)⟩,
          ⟨(some 5), none, .mov (.t 46)⟩] [0, 3, 5, 6])
       (.seq
        (.reg [
           ⟨(some 47), none, .mov (.t 7)⟩,
           ⟨(some 48), none, .mov (.t 8)⟩,
           ⟨(some 49), none, .bin .neq (.t 47) (.t 48)⟩,
           ⟨(some 50), none, .mov (.t 49)⟩,
           ⟨(some 51), (some (50, false)), .mov (.t 0)⟩,
           ⟨(some 52), (some (50, false)), .call fid_p_spec_l14Rd_pick false [.io, .im] [(.t 51), (.v (.i .i64 16))]⟩,
           ⟨(some 53), (some (50, false)), .bin .eql (.t 52) (.v (.i .i64 0))⟩,
           ⟨(some 54), none, .pick (.t 50) (.v (.b true)) (.t 53)⟩] [0, 3, 5, 6, 7, 8, 54])
        (.cond (.t 54)
        (.reg [
           ⟨(some 55), none, .mov (.t 5)⟩,
           ⟨(some 56), none, .mov (.t 7)⟩,
           ⟨(some 57), none, .mov (.t 8)⟩,
           ⟨(some 58), none, .call fid_spec_l1Edge false [.im, .im] [(.t 56), (.t 57)]⟩,
           ⟨(some 59), none, .build [.i .i64 0, .i .i64 0] [(0, 2, (.t 58))]⟩,
           ⟨(some 60), none, .buildSlice 2 [(.t 59)]⟩,
           ⟨(some 61), none, .append 2 16 true (.t 55) (.t 60)⟩,
           ⟨(some 5), none, .mov (.t 61)⟩] [0, 3, 5, 6])
        (.skip))))))))
     (.reg [
       ⟨(some 15), none, .mov (.t 6)⟩,
       ⟨(some 16), none, .bin .sub (.t 15) (.v (.i .i64 1))⟩,
       ⟨(some 6), none, .mov (.t 16)⟩] [0, 3, 5, 6]))))))
  (.seq
  (.reg [
     ⟨(some 62), none, .mov (.t 5)⟩,
     ⟨(some 4), none, .mov (.t 62)⟩] [0, 4])
  (.ret))))
theorem get_spec_l11Turns : Go.Proofs.Try.prog.funcs[fid_spec_l11Turns]? = some Go.Proofs.Try.f147 := Go.Proofs.Try.func147
theorem ok_spec_l11Turns : okFn Go.Proofs.Try.prog Go.Proofs.Try.f147 63 [0] [(4, none)] mc_spec_l11Turns = true := by kernel_rfl

end Go.Fw
