/-
  The code of the reference's functions, as the model's own. Printed by a program.
-/
import Derived.Test.YtfjekgjhhmkgoaaCd
namespace Go.Fw
open Go.Proofs.Try
set_option maxRecDepth 100000
def mc_spec_CutLevel : MCode :=
 .seq
 (.reg [
 ⟨some 2, none, .box 4 (.t 0)⟩,
 ⟨some 3, none, .box 2 (.t 1)⟩,
 ⟨some 4, none, .alloc [.i .i64 0, .nl 2, .nl 1, .nl 1]⟩,
 ⟨some 5, none, .mov (.v (.i .i64 0))⟩,
 ⟨some 6, none, .mov (.v (.b false))⟩,
 ⟨some 7, none, .mov (.v (.b false))⟩] [2, 3, 4])
 (.seq
 (.reg [
 ⟨some 15, none, .fieldAddr 0 (.t 2)⟩,
 ⟨some 16, none, .fieldAddr 1 (.t 15)⟩,
 ⟨some 17, none, .load false 1 (.t 16)⟩,
 ⟨some 18, none, .load true 2 (.t 3)⟩,
 ⟨some 19, none, .call fid_spec_l1Find false [.im, .im] [(.t 17), (.t 18)]⟩,
 ⟨some 8, none, .mov (.t 19)⟩] [2, 3, 4, 8])
 (.seq
 (.seq
 (.reg [
 ⟨some 20, none, .mov (.t 8)⟩,
 ⟨some 21, none, .bin .lss (.t 20) (.v (.i .i64 0))⟩,
 ⟨some 22, none, .mov (.t 21)⟩,
 ⟨some 23, (some (22, false)), .load true 4 (.t 2)⟩,
 ⟨some 24, (some (22, false)), .call fid_spec_LevelsValid false [.im] [(.t 23)]⟩,
 ⟨some 25, (some (22, false)), .un .not (.t 24)⟩,
 ⟨some 26, none, .pick (.t 22) (.v (.b true)) (.t 25)⟩] [2, 3, 4, 8, 26])
 (.cond (.t 26)
 (.seq
 (.reg [
 ⟨some 27, none, .build [.i .i64 0, .nl 2, .nl 1, .nl 1] []⟩,
 ⟨none, none, .store 4 (.t 4) (.t 27)⟩,
 ⟨some 5, none, .mov (.v (.i .i64 0))⟩,
 ⟨some 6, none, .mov (.v (.b false))⟩,
 ⟨some 7, none, .mov (.v (.b false))⟩] [4, 5, 6, 7])
 (.ret))
 (.skip)))
 (.seq
 (.reg [
 ⟨some 28, none, .load true 4 (.t 2)⟩,
 ⟨some 29, none, .mov (.t 8)⟩,
 ⟨some 30, none, .call fid_spec_l7Cut false [.im, .im] [(.t 28), (.t 29)]⟩,
 ⟨some 9, none, .alloc [.i .i64 0, .nl 2, .nl 1, .nl 1]⟩,
 ⟨none, none, .store 4 (.t 9) (.t 30)⟩] [2, 3, 4, 8, 9])
 (.seq
 (.seq
 (.reg [
 ⟨some 31, none, .fieldAddr 3 (.t 2)⟩,
 ⟨some 32, none, .load false 1 (.t 31)⟩,
 ⟨some 33, none, .mov (.t 8)⟩,
 ⟨some 34, none, .indexAddr 1 (.t 32) (.t 33)⟩,
 ⟨some 35, none, .load false 1 (.t 34)⟩,
 ⟨some 36, none, .un .not (.t 35)⟩] [2, 3, 4, 8, 9, 36])
 (.cond (.t 36)
 (.seq
 (.reg [
 ⟨some 37, none, .load true 4 (.t 9)⟩,
 ⟨none, none, .store 4 (.t 4) (.t 37)⟩,
 ⟨some 5, none, .mov (.v (.i .i64 0))⟩,
 ⟨some 6, none, .mov (.v (.b false))⟩,
 ⟨some 7, none, .mov (.v (.b true))⟩] [4, 5, 6, 7])
 (.ret))
 (.skip)))
 (.seq
 (.reg [
 ⟨some 10, none, .mov (.v (.i .i64 0))⟩] [2, 3, 4, 8, 9, 10])
 (.seq
 (.seq
 (.reg [
 ⟨some 38, none, .fieldAddr 2 (.t 2)⟩,
 ⟨some 39, none, .load false 1 (.t 38)⟩,
 ⟨some 40, none, .mov (.t 8)⟩,
 ⟨some 41, none, .indexAddr 1 (.t 39) (.t 40)⟩,
 ⟨some 42, none, .load false 1 (.t 41)⟩,
 ⟨some 11, none, .mov (.t 42)⟩] [3, 4, 9, 10, 11])
 (.block 0
 (.loop [3, 4, 9, 10, 11]
 (.seq
 (.seq
 (.reg [
 ⟨some 43, none, .mov (.t 11)⟩,
 ⟨some 44, none, .bin .geq (.t 43) (.v (.i .i64 0))⟩] [3, 4, 9, 10, 11, 44])
 (.cond (.t 44)
 (.skip)
 (.exit 0)))
 (.seq
 (.block 1
 (.seq
 (.reg [
 ⟨some 48, none, .load true 4 (.t 9)⟩,
 ⟨some 49, none, .fieldAddr 0 (.t 3)⟩,
 ⟨some 50, none, .load false 1 (.t 49)⟩,
 ⟨some 51, none, .fieldAddr 1 (.t 3)⟩,
 ⟨some 52, none, .load false 1 (.t 51)⟩,
 ⟨some 53, none, .mov (.t 11)⟩,
 ⟨some 54, none, .call fid_spec_l7Level false [.im, .im, .im, .im] [(.t 48), (.t 50), (.t 52), (.t 53)]⟩,
 ⟨some 47, none, .mov (.t 54)⟩,
 ⟨some 55, none, .extract (.t 47) 0⟩,
 ⟨some 56, none, .extract (.t 47) 1⟩,
 ⟨some 57, none, .extract (.t 47) 2⟩,
 ⟨some 12, none, .alloc [.i .i64 0, .nl 2, .nl 1, .nl 1]⟩,
 ⟨none, none, .store 4 (.t 12) (.t 55)⟩,
 ⟨some 13, none, .mov (.t 56)⟩,
 ⟨some 14, none, .mov (.t 57)⟩] [3, 4, 9, 10, 11, 12, 13, 14])
 (.seq
 (.reg [
 ⟨some 58, none, .load true 4 (.t 12)⟩,
 ⟨none, none, .store 4 (.t 9) (.t 58)⟩] [3, 4, 9, 10, 11, 13, 14])
 (.seq
 (.reg [
 ⟨some 59, none, .mov (.t 10)⟩,
 ⟨some 60, none, .mov (.t 13)⟩,
 ⟨some 61, none, .bin .add (.t 59) (.t 60)⟩,
 ⟨some 10, none, .mov (.t 61)⟩] [3, 4, 9, 10, 11, 14])
 (.seq
 (.reg [
 ⟨some 62, none, .mov (.t 14)⟩] [3, 4, 9, 10, 11, 62])
 (.cond (.t 62)
 (.seq
 (.reg [
 ⟨some 63, none, .load true 4 (.t 9)⟩,
 ⟨some 64, none, .mov (.t 10)⟩,
 ⟨none, none, .store 4 (.t 4) (.t 63)⟩,
 ⟨some 5, none, .mov (.t 64)⟩,
 ⟨some 6, none, .mov (.v (.b true))⟩,
 ⟨some 7, none, .mov (.v (.b true))⟩] [4, 5, 6, 7])
 (.ret))
 (.skip)))))))
 (.reg [
 ⟨some 45, none, .mov (.t 11)⟩,
 ⟨some 46, none, .bin .sub (.t 45) (.v (.i .i64 1))⟩,
 ⟨some 11, none, .mov (.t 46)⟩] [3, 4, 9, 10, 11]))))))
 (.seq
 (.reg [
 ⟨some 65, none, .load true 4 (.t 9)⟩,
 ⟨some 66, none, .mov (.t 10)⟩,
 ⟨none, none, .store 4 (.t 4) (.t 65)⟩,
 ⟨some 5, none, .mov (.t 66)⟩,
 ⟨some 6, none, .mov (.v (.b false))⟩,
 ⟨some 7, none, .mov (.v (.b true))⟩] [4, 5, 6, 7])
 (.ret))))))))
theorem get_spec_CutLevel : prog.funcs[fid_spec_CutLevel]? = some f10 := func10
theorem ok_spec_CutLevel : okFn prog f10 67 [] [(4, some (true, 4)), (5, none), (6, none), (7, none)] mc_spec_CutLevel = true := by kernel_rfl
def mc_spec_DrawPutLevel : MCode :=
 .seq
 (.reg [
 ⟨some 2, none, .alloc [.i .i64 0, .nl 2, .nl 1, .nl 1]⟩,
 ⟨some 3, none, .alloc [.i .i64 0, .i .i64 0]⟩] [0, 2, 3])
 (.seq
 (.reg [
 ⟨some 8, none, .mov (.t 0)⟩,
 ⟨some 9, none, .call fid_spec_l7Draw false [.im] [(.t 8)]⟩,
 ⟨some 4, none, .alloc [.i .i64 0, .nl 2, .nl 1, .nl 1]⟩,
 ⟨none, none, .store 4 (.t 4) (.t 9)⟩] [0, 2, 3, 4])
 (.seq
 (.reg [
 ⟨some 10, none, .mov (.t 0)⟩,
 ⟨some 11, none, .call fid_spec_l14Open true [.im] [(.t 10)]⟩,
 ⟨some 5, none, .mov (.t 11)⟩] [2, 3, 4, 5])
 (.seq
 (.reg [
 ⟨some 12, none, .mov (.t 5)⟩,
 ⟨some 13, none, .fieldAddr 0 (.t 4)⟩,
 ⟨some 14, none, .fieldAddr 0 (.t 13)⟩,
 ⟨some 15, none, .load false 1 (.t 14)⟩,
 ⟨some 16, none, .call fid_p_spec_l14Rd_pick true [.io, .im] [(.t 12), (.t 15)]⟩,
 ⟨some 6, none, .mov (.t 16)⟩] [2, 3, 4, 5, 6])
 (.seq
 (.reg [
 ⟨some 17, none, .mov (.t 5)⟩,
 ⟨some 18, none, .fieldAddr 0 (.t 4)⟩,
 ⟨some 19, none, .fieldAddr 0 (.t 18)⟩,
 ⟨some 20, none, .load false 1 (.t 19)⟩,
 ⟨some 21, none, .call fid_p_spec_l14Rd_pick true [.io, .im] [(.t 17), (.t 20)]⟩,
 ⟨some 7, none, .mov (.t 21)⟩] [2, 3, 4, 6, 7])
 (.seq
 (.draw [0, 0, 0, 6, 15, 31] [
 ⟨some 22, none, .load true 4 (.t 4)⟩,
 ⟨some 23, none, .mov (.t 6)⟩,
 ⟨some 24, none, .mov (.t 7)⟩,
 ⟨some 25, none, .call fid_spec_l1Edge false [.im, .im] [(.t 23), (.t 24)]⟩,
 ⟨none, none, .store 4 (.t 2) (.t 22)⟩,
 ⟨none, none, .store 2 (.t 3) (.t 25)⟩] [2, 3])
 (.ret))))))
theorem get_spec_DrawPutLevel : prog.funcs[fid_spec_DrawPutLevel]? = some f17 := func17
theorem ok_spec_DrawPutLevel : okFn prog f17 26 [] [(2, some (true, 4)), (3, some (true, 2))] mc_spec_DrawPutLevel = true := by kernel_rfl
def mc_spec_PutLevel : MCode :=
 .seq
 (.reg [
 ⟨some 2, none, .box 4 (.t 0)⟩,
 ⟨some 3, none, .box 2 (.t 1)⟩,
 ⟨some 4, none, .alloc [.i .i64 0, .nl 2, .nl 1, .nl 1]⟩,
 ⟨some 5, none, .mov (.v (.b false))⟩] [2, 3, 4])
 (.seq
 (.reg [
 ⟨some 9, none, .fieldAddr 0 (.t 2)⟩,
 ⟨some 10, none, .load true 2 (.t 9)⟩,
 ⟨some 11, none, .load true 2 (.t 3)⟩,
 ⟨some 12, none, .call fid_spec_PutEdge false [.im, .im] [(.t 10), (.t 11)]⟩,
 ⟨some 8, none, .mov (.t 12)⟩,
 ⟨some 13, none, .extract (.t 8) 0⟩,
 ⟨some 14, none, .extract (.t 8) 1⟩,
 ⟨some 6, none, .alloc [.i .i64 0, .nl 2]⟩,
 ⟨none, none, .store 2 (.t 6) (.t 13)⟩,
 ⟨some 7, none, .mov (.t 14)⟩] [2, 3, 4, 7])
 (.seq
 (.seq
 (.reg [
 ⟨some 15, none, .mov (.t 7)⟩,
 ⟨some 16, none, .un .not (.t 15)⟩,
 ⟨some 17, none, .mov (.t 16)⟩,
 ⟨some 18, (some (17, false)), .load true 4 (.t 2)⟩,
 ⟨some 19, (some (17, false)), .call fid_spec_LevelsValid false [.im] [(.t 18)]⟩,
 ⟨some 20, (some (17, false)), .un .not (.t 19)⟩,
 ⟨some 21, none, .pick (.t 17) (.v (.b true)) (.t 20)⟩] [2, 3, 4, 21])
 (.cond (.t 21)
 (.seq
 (.reg [
 ⟨some 22, none, .build [.i .i64 0, .nl 2, .nl 1, .nl 1] []⟩,
 ⟨none, none, .store 4 (.t 4) (.t 22)⟩,
 ⟨some 5, none, .mov (.v (.b false))⟩] [4, 5])
 (.ret))
 (.skip)))
 (.seq
 (.draw [0, 0, 0, 4, 0, 16, 0, 64, 252, 508, 1023, 2047, 4095] [
 ⟨some 23, none, .load true 4 (.t 2)⟩,
 ⟨some 24, none, .load true 2 (.t 3)⟩,
 ⟨some 25, none, .fieldAddr 0 (.t 2)⟩,
 ⟨some 26, none, .load true 2 (.t 25)⟩,
 ⟨some 27, none, .fieldAddr 0 (.t 3)⟩,
 ⟨some 28, none, .load false 1 (.t 27)⟩,
 ⟨some 29, none, .fieldAddr 1 (.t 3)⟩,
 ⟨some 30, none, .load false 1 (.t 29)⟩,
 ⟨some 31, none, .call fid_spec_l2Joined false [.im, .im, .im] [(.t 26), (.t 28), (.t 30)]⟩,
 ⟨some 32, none, .un .not (.t 31)⟩,
 ⟨some 33, none, .call fid_spec_l7Put false [.im, .im, .im] [(.t 23), (.t 24), (.t 32)]⟩,
 ⟨none, none, .store 4 (.t 4) (.t 33)⟩,
 ⟨some 5, none, .mov (.v (.b true))⟩] [4, 5])
 (.ret))))
theorem get_spec_PutLevel : prog.funcs[fid_spec_PutLevel]? = some f19 := func19
theorem ok_spec_PutLevel : okFn prog f19 34 [] [(4, some (true, 4)), (5, none)] mc_spec_PutLevel = true := by kernel_rfl
def mc_spec_DrawCutLevel : MCode :=
 .seq
 (.reg [
 ⟨some 2, none, .alloc [.i .i64 0, .nl 2, .nl 1, .nl 1]⟩,
 ⟨some 3, none, .alloc [.i .i64 0, .i .i64 0]⟩] [0, 2, 3])
 (.seq
 (.reg [
 ⟨some 6, none, .mov (.t 0)⟩,
 ⟨some 7, none, .call fid_spec_l7Draw false [.im] [(.t 6)]⟩,
 ⟨some 4, none, .alloc [.i .i64 0, .nl 2, .nl 1, .nl 1]⟩,
 ⟨none, none, .store 4 (.t 4) (.t 7)⟩] [0, 2, 3, 4])
 (.seq
 (.reg [
 ⟨some 8, none, .mov (.t 0)⟩,
 ⟨some 9, none, .call fid_spec_l14Open true [.im] [(.t 8)]⟩,
 ⟨some 5, none, .mov (.t 9)⟩] [2, 3, 4, 5])
 (.seq
 (.seq
 (.reg [
 ⟨some 10, none, .fieldAddr 0 (.t 4)⟩,
 ⟨some 11, none, .fieldAddr 1 (.t 10)⟩,
 ⟨some 12, none, .load false 1 (.t 11)⟩,
 ⟨some 13, none, .len (.t 12)⟩,
 ⟨some 14, none, .bin .eql (.t 13) (.v (.i .i64 0))⟩,
 ⟨some 15, none, .mov (.t 14)⟩,
 ⟨some 16, (some (15, false)), .mov (.t 5)⟩,
 ⟨some 17, (some (15, false)), .call fid_p_spec_l14Rd_pick true [.io, .im] [(.t 16), (.v (.i .i64 12))]⟩,
 ⟨some 18, (some (15, false)), .bin .eql (.t 17) (.v (.i .i64 0))⟩,
 ⟨some 19, none, .pick (.t 15) (.v (.b true)) (.t 18)⟩] [2, 3, 4, 5, 19])
 (.cond (.t 19)
 (.seq
 (.draw [0, 0, 0, 6, 14, 15, 63] [
 ⟨some 20, none, .load true 4 (.t 4)⟩,
 ⟨some 21, none, .mov (.t 5)⟩,
 ⟨some 22, none, .buildSlice 1 [(.v (.i .i64 1)), (.v (.i .i64 2)), (.v (.i .i64 16))]⟩,
 ⟨some 23, none, .call fid_p_spec_l14Rd_num true [.io, .im] [(.t 21), (.t 22)]⟩,
 ⟨some 24, none, .build [.i .i64 0, .i .i64 0] [(1, 1, (.t 23))]⟩,
 ⟨none, none, .store 4 (.t 2) (.t 20)⟩,
 ⟨none, none, .store 2 (.t 3) (.t 24)⟩] [2, 3])
 (.ret))
 (.skip)))
 (.seq
 (.draw [0, 0, 2, 6, 0, 0, 32, 96, 224, 496, 1022, 2046, 1009, 8191] [
 ⟨some 25, none, .load true 4 (.t 4)⟩,
 ⟨some 26, none, .fieldAddr 0 (.t 4)⟩,
 ⟨some 27, none, .fieldAddr 1 (.t 26)⟩,
 ⟨some 28, none, .load false 1 (.t 27)⟩,
 ⟨some 29, none, .mov (.t 5)⟩,
 ⟨some 30, none, .fieldAddr 0 (.t 4)⟩,
 ⟨some 31, none, .fieldAddr 1 (.t 30)⟩,
 ⟨some 32, none, .load false 1 (.t 31)⟩,
 ⟨some 33, none, .len (.t 32)⟩,
 ⟨some 34, none, .call fid_p_spec_l14Rd_pick true [.io, .im] [(.t 29), (.t 33)]⟩,
 ⟨some 35, none, .indexAddr 2 (.t 28) (.t 34)⟩,
 ⟨some 36, none, .load true 2 (.t 35)⟩,
 ⟨none, none, .store 4 (.t 2) (.t 25)⟩,
 ⟨none, none, .store 2 (.t 3) (.t 36)⟩] [2, 3])
 (.ret)))))
theorem get_spec_DrawCutLevel : prog.funcs[fid_spec_DrawCutLevel]? = some f25 := func25
theorem ok_spec_DrawCutLevel : okFn prog f25 37 [] [(2, some (true, 4)), (3, some (true, 2))] mc_spec_DrawCutLevel = true := by kernel_rfl
def mc_spec_DrawSumLevels : MCode :=
 .seq
 (.reg [
 ⟨some 2, none, .alloc [.i .i64 0, .nl 2, .nl 1, .nl 1]⟩] [0, 2])
 (.seq
 (.reg [
 ⟨some 3, none, .mov (.t 0)⟩,
 ⟨some 4, none, .call fid_spec_l7Draw false [.im] [(.t 3)]⟩,
 ⟨none, none, .store 4 (.t 2) (.t 4)⟩] [2])
 (.ret))
theorem get_spec_DrawSumLevels : prog.funcs[fid_spec_DrawSumLevels]? = some f28 := func28
theorem ok_spec_DrawSumLevels : okFn prog f28 5 [] [(2, some (true, 4))] mc_spec_DrawSumLevels = true := by kernel_rfl
def mc_spec_SumLevels : MCode :=
 .seq
 (.reg [
 ⟨some 1, none, .box 4 (.t 0)⟩,
 ⟨some 2, none, .mov (.v (.i .i64 0))⟩,
 ⟨some 3, none, .mov (.v (.b false))⟩] [1])
 (.seq
 (.seq
 (.reg [
 ⟨some 6, none, .load true 4 (.t 1)⟩,
 ⟨some 7, none, .call fid_spec_LevelsValid false [.im] [(.t 6)]⟩,
 ⟨some 8, none, .un .not (.t 7)⟩] [1, 8])
 (.cond (.t 8)
 (.seq
 (.reg [
 ⟨some 2, none, .mov (.v (.i .i64 0))⟩,
 ⟨some 3, none, .mov (.v (.b false))⟩] [2, 3])
 (.ret))
 (.skip)))
 (.seq
 (.reg [
 ⟨some 4, none, .mov (.v (.i .i64 0))⟩] [1, 4])
 (.seq
 (.seq
 (.reg [
 ⟨some 5, none, .mov (.v (.i .i64 0))⟩] [1, 4, 5])
 (.block 0
 (.loop [1, 4, 5]
 (.seq
 (.seq
 (.reg [
 ⟨some 9, none, .mov (.t 5)⟩,
 ⟨some 10, none, .fieldAddr 2 (.t 1)⟩,
 ⟨some 11, none, .load false 1 (.t 10)⟩,
 ⟨some 12, none, .len (.t 11)⟩,
 ⟨some 13, none, .bin .lss (.t 9) (.t 12)⟩] [1, 4, 5, 13])
 (.cond (.t 13)
 (.skip)
 (.exit 0)))
 (.seq
 (.block 1
 (.reg [
 ⟨some 16, none, .mov (.t 4)⟩,
 ⟨some 17, none, .fieldAddr 2 (.t 1)⟩,
 ⟨some 18, none, .load false 1 (.t 17)⟩,
 ⟨some 19, none, .mov (.t 5)⟩,
 ⟨some 20, none, .indexAddr 1 (.t 18) (.t 19)⟩,
 ⟨some 21, none, .load false 1 (.t 20)⟩,
 ⟨some 22, none, .bin .add (.t 16) (.t 21)⟩,
 ⟨some 4, none, .mov (.t 22)⟩] [1, 4, 5]))
 (.reg [
 ⟨some 14, none, .mov (.t 5)⟩,
 ⟨some 15, none, .bin .add (.t 14) (.v (.i .i64 1))⟩,
 ⟨some 5, none, .mov (.t 15)⟩] [1, 4, 5]))))))
 (.seq
 (.reg [
 ⟨some 23, none, .mov (.t 4)⟩,
 ⟨some 2, none, .mov (.t 23)⟩,
 ⟨some 3, none, .mov (.v (.b true))⟩] [2, 3])
 (.ret)))))
theorem get_spec_SumLevels : prog.funcs[fid_spec_SumLevels]? = some f29 := func29
theorem ok_spec_SumLevels : okFn prog f29 24 [] [(2, none), (3, none)] mc_spec_SumLevels = true := by kernel_rfl
def mc_spec_LevelsValid : MCode :=
 .seq
 (.reg [
 ⟨some 1, none, .box 4 (.t 0)⟩,
 ⟨some 2, none, .mov (.v (.b false))⟩] [1])
 (.seq
 (.seq
 (.reg [
 ⟨some 7, none, .fieldAddr 0 (.t 1)⟩,
 ⟨some 8, none, .load true 2 (.t 7)⟩,
 ⟨some 9, none, .call fid_spec_GraphValid false [.im] [(.t 8)]⟩,
 ⟨some 10, none, .un .not (.t 9)⟩,
 ⟨some 11, none, .mov (.t 10)⟩,
 ⟨some 12, (some (11, false)), .fieldAddr 2 (.t 1)⟩,
 ⟨some 13, (some (11, false)), .load false 1 (.t 12)⟩,
 ⟨some 14, (some (11, false)), .len (.t 13)⟩,
 ⟨some 15, (some (11, false)), .fieldAddr 0 (.t 1)⟩,
 ⟨some 16, (some (11, false)), .fieldAddr 1 (.t 15)⟩,
 ⟨some 17, (some (11, false)), .load false 1 (.t 16)⟩,
 ⟨some 18, (some (11, false)), .len (.t 17)⟩,
 ⟨some 19, (some (11, false)), .bin .neq (.t 14) (.t 18)⟩,
 ⟨some 20, none, .pick (.t 11) (.v (.b true)) (.t 19)⟩,
 ⟨some 21, none, .mov (.t 20)⟩,
 ⟨some 22, (some (21, false)), .fieldAddr 3 (.t 1)⟩,
 ⟨some 23, (some (21, false)), .load false 1 (.t 22)⟩,
 ⟨some 24, (some (21, false)), .len (.t 23)⟩,
 ⟨some 25, (some (21, false)), .fieldAddr 0 (.t 1)⟩,
 ⟨some 26, (some (21, false)), .fieldAddr 1 (.t 25)⟩,
 ⟨some 27, (some (21, false)), .load false 1 (.t 26)⟩,
 ⟨some 28, (some (21, false)), .len (.t 27)⟩,
 ⟨some 29, (some (21, false)), .bin .neq (.t 24) (.t 28)⟩,
 ⟨some 30, none, .pick (.t 21) (.v (.b true)) (.t 29)⟩] [1, 30])
 (.cond (.t 30)
 (.seq
 (.reg [
 ⟨some 2, none, .mov (.v (.b false))⟩] [2])
 (.ret))
 (.skip)))
 (.seq
 (.seq
 (.reg [
 ⟨some 3, none, .mov (.v (.i .i64 0))⟩] [1, 3])
 (.block 0
 (.loop [1, 3]
 (.seq
 (.seq
 (.reg [
 ⟨some 31, none, .mov (.t 3)⟩,
 ⟨some 32, none, .fieldAddr 2 (.t 1)⟩,
 ⟨some 33, none, .load false 1 (.t 32)⟩,
 ⟨some 34, none, .len (.t 33)⟩,
 ⟨some 35, none, .bin .lss (.t 31) (.t 34)⟩] [1, 3, 35])
 (.cond (.t 35)
 (.skip)
 (.exit 0)))
 (.seq
 (.block 1
 (.seq
 (.reg [
 ⟨some 38, none, .fieldAddr 2 (.t 1)⟩,
 ⟨some 39, none, .load false 1 (.t 38)⟩,
 ⟨some 40, none, .mov (.t 3)⟩,
 ⟨some 41, none, .indexAddr 1 (.t 39) (.t 40)⟩,
 ⟨some 42, none, .load false 1 (.t 41)⟩,
 ⟨some 43, none, .bin .lss (.t 42) (.v (.i .i64 0))⟩,
 ⟨some 44, none, .mov (.t 43)⟩,
 ⟨some 45, (some (44, false)), .fieldAddr 2 (.t 1)⟩,
 ⟨some 46, (some (44, false)), .load false 1 (.t 45)⟩,
 ⟨some 47, (some (44, false)), .mov (.t 3)⟩,
 ⟨some 48, (some (44, false)), .indexAddr 1 (.t 46) (.t 47)⟩,
 ⟨some 49, (some (44, false)), .load false 1 (.t 48)⟩,
 ⟨some 50, (some (44, false)), .bin .gtr (.t 49) (.v (.i .i64 4))⟩,
 ⟨some 51, none, .pick (.t 44) (.v (.b true)) (.t 50)⟩] [1, 3, 51])
 (.cond (.t 51)
 (.seq
 (.reg [
 ⟨some 2, none, .mov (.v (.b false))⟩] [2])
 (.ret))
 (.skip))))
 (.reg [
 ⟨some 36, none, .mov (.t 3)⟩,
 ⟨some 37, none, .bin .add (.t 36) (.v (.i .i64 1))⟩,
 ⟨some 3, none, .mov (.t 37)⟩] [1, 3]))))))
 (.seq
 (.seq
 (.reg [
 ⟨some 4, none, .mov (.v (.i .i64 0))⟩] [1, 4])
 (.block 2
 (.loop [1, 4]
 (.seq
 (.seq
 (.reg [
 ⟨some 52, none, .mov (.t 4)⟩,
 ⟨some 53, none, .bin .leq (.t 52) (.v (.i .i64 4))⟩] [1, 4, 53])
 (.cond (.t 53)
 (.skip)
 (.exit 2)))
 (.seq
 (.block 3
 (.seq
 (.reg [
 ⟨some 56, none, .load true 4 (.t 1)⟩,
 ⟨some 57, none, .mov (.t 4)⟩,
 ⟨some 58, none, .call fid_spec_l7At false [.im, .im, .im] [(.t 56), (.t 57), (.v (.b false))]⟩,
 ⟨some 5, none, .alloc [.i .i64 0, .nl 2]⟩,
 ⟨none, none, .store 2 (.t 5) (.t 58)⟩] [1, 4, 5])
 (.seq
 (.reg [
 ⟨some 59, none, .load true 4 (.t 1)⟩,
 ⟨some 60, none, .mov (.t 4)⟩,
 ⟨some 61, none, .call fid_spec_l7At false [.im, .im, .im] [(.t 59), (.t 60), (.v (.b true))]⟩,
 ⟨some 6, none, .alloc [.i .i64 0, .nl 2]⟩,
 ⟨none, none, .store 2 (.t 6) (.t 61)⟩] [1, 4, 5, 6])
 (.seq
 (.draw [0, 1, 3, 7, 15, 31, 15, 127, 255, 511, 1023, 2047, 4095, 4095, 12287, 4095, 61439, 131071, 262143, 524287] [
 ⟨some 62, none, .load true 2 (.t 6)⟩,
 ⟨some 63, none, .call fid_spec_l6Forest false [.im] [(.t 62)]⟩,
 ⟨some 64, none, .un .not (.t 63)⟩,
 ⟨some 65, none, .mov (.t 64)⟩,
 ⟨some 66, (some (65, false)), .load true 2 (.t 5)⟩,
 ⟨some 67, (some (65, false)), .call fid_spec_l2Labels false [.im] [(.t 66)]⟩,
 ⟨some 68, (some (65, false)), .load true 2 (.t 6)⟩,
 ⟨some 69, (some (65, false)), .call fid_spec_l2Labels false [.im] [(.t 68)]⟩,
 ⟨some 70, (some (65, false)), .call fid_spec_l7Ints false [.im, .im] [(.t 67), (.t 69)]⟩,
 ⟨some 71, (some (65, false)), .un .not (.t 70)⟩,
 ⟨some 72, none, .pick (.t 65) (.v (.b true)) (.t 71)⟩,
 ⟨some 73, none, .mov (.t 72)⟩,
 ⟨some 74, (some (73, false)), .load true 2 (.t 5)⟩,
 ⟨some 75, (some (73, false)), .fieldAddr 0 (.t 5)⟩,
 ⟨some 76, (some (73, false)), .load false 1 (.t 75)⟩,
 ⟨some 77, (some (73, false)), .mov (.t 4)⟩,
 ⟨some 78, (some (73, false)), .call fid_spec_l7Most false [.im, .im] [(.t 76), (.t 77)]⟩,
 ⟨some 79, (some (73, false)), .call fid_spec_l7Small false [.im, .im] [(.t 74), (.t 78)]⟩,
 ⟨some 80, (some (73, false)), .un .not (.t 79)⟩,
 ⟨some 81, none, .pick (.t 73) (.v (.b true)) (.t 80)⟩] [1, 4, 81])
 (.cond (.t 81)
 (.seq
 (.reg [
 ⟨some 2, none, .mov (.v (.b false))⟩] [2])
 (.ret))
 (.skip))))))
 (.reg [
 ⟨some 54, none, .mov (.t 4)⟩,
 ⟨some 55, none, .bin .add (.t 54) (.v (.i .i64 1))⟩,
 ⟨some 4, none, .mov (.t 55)⟩] [1, 4]))))))
 (.seq
 (.reg [
 ⟨some 2, none, .mov (.v (.b true))⟩] [2])
 (.ret)))))
theorem get_spec_LevelsValid : prog.funcs[fid_spec_LevelsValid]? = some f30 := func30
theorem ok_spec_LevelsValid : okFn prog f30 82 [] [(2, none)] mc_spec_LevelsValid = true := by kernel_rfl
def mc_spec_DrawLevelForest : MCode :=
 .seq
 (.reg [
 ⟨some 2, none, .alloc [.i .i64 0, .nl 2, .nl 1, .nl 1]⟩,
 ⟨some 3, none, .mov (.v (.i .i64 0))⟩] [0, 2])
 (.seq
 (.reg [
 ⟨some 4, none, .mov (.t 0)⟩,
 ⟨some 5, none, .call fid_spec_l7Draw false [.im] [(.t 4)]⟩,
 ⟨some 6, none, .mov (.t 0)⟩,
 ⟨some 7, none, .call fid_spec_l14Open true [.im] [(.t 6)]⟩,
 ⟨some 8, none, .buildSlice 1 [(.v (.i .i64 0)), (.v (.i .i64 1)), (.v (.i .i64 2)), (.v (.i .i64 4)), (.v (.i .i64 5)), (.v (.i .i64 (-1)))]⟩,
 ⟨some 9, none, .call fid_p_spec_l14Rd_num true [.io, .im] [(.t 7), (.t 8)]⟩,
 ⟨none, none, .store 4 (.t 2) (.t 5)⟩,
 ⟨some 3, none, .mov (.t 9)⟩] [2, 3])
 (.ret))
theorem get_spec_DrawLevelForest : prog.funcs[fid_spec_DrawLevelForest]? = some f31 := func31
theorem ok_spec_DrawLevelForest : okFn prog f31 10 [] [(2, some (true, 4)), (3, none)] mc_spec_DrawLevelForest = true := by kernel_rfl
def mc_spec_LevelForest : MCode :=
 .seq
 (.reg [
 ⟨some 2, none, .box 4 (.t 0)⟩,
 ⟨some 4, none, .mov (.v (.nl 2))⟩,
 ⟨some 5, none, .mov (.v (.b false))⟩] [1, 2])
 (.seq
 (.seq
 (.reg [
 ⟨some 6, none, .load true 4 (.t 2)⟩,
 ⟨some 7, none, .call fid_spec_LevelsValid false [.im] [(.t 6)]⟩,
 ⟨some 8, none, .un .not (.t 7)⟩,
 ⟨some 9, none, .mov (.t 8)⟩,
 ⟨some 10, (some (9, false)), .mov (.t 1)⟩,
 ⟨some 11, (some (9, false)), .bin .lss (.t 10) (.v (.i .i64 0))⟩,
 ⟨some 12, none, .pick (.t 9) (.v (.b true)) (.t 11)⟩,
 ⟨some 13, none, .mov (.t 12)⟩,
 ⟨some 14, (some (13, false)), .mov (.t 1)⟩,
 ⟨some 15, (some (13, false)), .bin .gtr (.t 14) (.v (.i .i64 4))⟩,
 ⟨some 16, none, .pick (.t 13) (.v (.b true)) (.t 15)⟩] [1, 2, 16])
 (.cond (.t 16)
 (.seq
 (.reg [
 ⟨some 17, none, .buildSlice 2 []⟩,
 ⟨some 4, none, .mov (.t 17)⟩,
 ⟨some 5, none, .mov (.v (.b false))⟩] [4, 5])
 (.ret))
 (.skip)))
 (.seq
 (.reg [
 ⟨some 18, none, .load true 4 (.t 2)⟩,
 ⟨some 19, none, .mov (.t 1)⟩,
 ⟨some 20, none, .call fid_spec_l7At false [.im, .im, .im] [(.t 18), (.t 19), (.v (.b true))]⟩,
 ⟨some 21, none, .field false 1 1 (.t 20)⟩,
 ⟨some 4, none, .mov (.t 21)⟩,
 ⟨some 5, none, .mov (.v (.b true))⟩] [4, 5])
 (.ret)))
theorem get_spec_LevelForest : prog.funcs[fid_spec_LevelForest]? = some f33 := func33
theorem ok_spec_LevelForest : okFn prog f33 22 [] [(4, none), (5, none)] mc_spec_LevelForest = true := by kernel_rfl
def mc_spec_l1Find : MCode :=
 .seq
 (.reg [
 ⟨some 3, none, .box 2 (.t 1)⟩,
 ⟨some 4, none, .mov (.v (.i .i64 0))⟩] [0, 3])
 (.seq
 (.seq
 (.reg [
 ⟨some 5, none, .mov (.v (.i .i64 0))⟩] [0, 3, 5])
 (.block 0
 (.loop [0, 3, 5]
 (.seq
 (.seq
 (.reg [
 ⟨some 6, none, .mov (.t 5)⟩,
 ⟨some 7, none, .mov (.t 0)⟩,
 ⟨some 8, none, .len (.t 7)⟩,
 ⟨some 9, none, .bin .lss (.t 6) (.t 8)⟩] [0, 3, 5, 9])
 (.cond (.t 9)
 (.skip)
 (.exit 0)))
 (.seq
 (.block 1
 (.seq
 (.draw [0, 0, 3, 7, 0, 31] [
 ⟨some 12, none, .mov (.t 0)⟩,
 ⟨some 13, none, .mov (.t 5)⟩,
 ⟨some 14, none, .indexAddr 2 (.t 12) (.t 13)⟩,
 ⟨some 15, none, .load true 2 (.t 14)⟩,
 ⟨some 16, none, .load true 2 (.t 3)⟩,
 ⟨some 17, none, .eqAgg false [true, true] (.t 15) (.t 16)⟩] [0, 3, 5, 17])
 (.cond (.t 17)
 (.seq
 (.reg [
 ⟨some 18, none, .mov (.t 5)⟩,
 ⟨some 4, none, .mov (.t 18)⟩] [4])
 (.ret))
 (.skip))))
 (.reg [
 ⟨some 10, none, .mov (.t 5)⟩,
 ⟨some 11, none, .bin .add (.t 10) (.v (.i .i64 1))⟩,
 ⟨some 5, none, .mov (.t 11)⟩] [0, 3, 5]))))))
 (.seq
 (.reg [
 ⟨some 4, none, .mov (.v (.i .i64 (-1)))⟩] [4])
 (.ret)))
theorem get_spec_l1Find : prog.funcs[fid_spec_l1Find]? = some f39 := func39
theorem ok_spec_l1Find : okFn prog f39 19 [] [(4, none)] mc_spec_l1Find = true := by kernel_rfl
def mc_spec_l7Cut : MCode :=
 .seq
 (.reg [
 ⟨some 2, none, .box 4 (.t 0)⟩,
 ⟨some 4, none, .alloc [.i .i64 0, .nl 2, .nl 1, .nl 1]⟩] [1, 2, 4])
 (.seq
 (.reg [
 ⟨some 7, none, .fieldAddr 0 (.t 2)⟩,
 ⟨some 8, none, .fieldAddr 0 (.t 7)⟩,
 ⟨some 9, none, .load false 1 (.t 8)⟩,
 ⟨some 10, none, .buildSlice 2 []⟩,
 ⟨some 11, none, .build [.i .i64 0, .nl 2] [(0, 1, (.t 9)), (1, 1, (.t 10))]⟩,
 ⟨some 12, none, .build [.i .i64 0, .nl 2, .nl 1, .nl 1] [(0, 2, (.t 11))]⟩,
 ⟨some 5, none, .alloc [.i .i64 0, .nl 2, .nl 1, .nl 1]⟩,
 ⟨none, none, .store 4 (.t 5) (.t 12)⟩] [1, 2, 4, 5])
 (.seq
 (.seq
 (.reg [
 ⟨some 6, none, .mov (.v (.i .i64 0))⟩] [1, 2, 4, 5, 6])
 (.block 0
 (.loop [1, 2, 4, 5, 6]
 (.seq
 (.seq
 (.reg [
 ⟨some 13, none, .mov (.t 6)⟩,
 ⟨some 14, none, .fieldAddr 0 (.t 2)⟩,
 ⟨some 15, none, .fieldAddr 1 (.t 14)⟩,
 ⟨some 16, none, .load false 1 (.t 15)⟩,
 ⟨some 17, none, .len (.t 16)⟩,
 ⟨some 18, none, .bin .lss (.t 13) (.t 17)⟩] [1, 2, 4, 5, 6, 18])
 (.cond (.t 18)
 (.skip)
 (.exit 0)))
 (.seq
 (.block 1
 (.seq
 (.reg [
 ⟨some 21, none, .mov (.t 6)⟩,
 ⟨some 22, none, .mov (.t 1)⟩,
 ⟨some 23, none, .bin .neq (.t 21) (.t 22)⟩] [1, 2, 4, 5, 6, 23])
 (.cond (.t 23)
 (.seq
 (.draw [0, 1, 3, 0, 8, 24, 0, 120, 248, 504, 1023, 2047, 4095, 8191] [
 ⟨some 24, none, .fieldAddr 0 (.t 5)⟩,
 ⟨some 25, none, .fieldAddr 1 (.t 24)⟩,
 ⟨some 26, none, .load false 1 (.t 25)⟩,
 ⟨some 27, none, .fieldAddr 0 (.t 2)⟩,
 ⟨some 28, none, .fieldAddr 1 (.t 27)⟩,
 ⟨some 29, none, .load false 1 (.t 28)⟩,
 ⟨some 30, none, .mov (.t 6)⟩,
 ⟨some 31, none, .indexAddr 2 (.t 29) (.t 30)⟩,
 ⟨some 32, none, .load true 2 (.t 31)⟩,
 ⟨some 33, none, .buildSlice 2 [(.t 32)]⟩,
 ⟨some 34, none, .append 2 16 true (.t 26) (.t 33)⟩,
 ⟨some 35, none, .fieldAddr 0 (.t 5)⟩,
 ⟨some 36, none, .fieldAddr 1 (.t 35)⟩,
 ⟨none, none, .store 1 (.t 36) (.t 34)⟩] [1, 2, 4, 5, 6])
 (.seq
 (.draw [0, 1, 0, 4, 0, 28, 60, 124, 255, 511, 1023] [
 ⟨some 37, none, .fieldAddr 2 (.t 5)⟩,
 ⟨some 38, none, .load false 1 (.t 37)⟩,
 ⟨some 39, none, .fieldAddr 2 (.t 2)⟩,
 ⟨some 40, none, .load false 1 (.t 39)⟩,
 ⟨some 41, none, .mov (.t 6)⟩,
 ⟨some 42, none, .indexAddr 1 (.t 40) (.t 41)⟩,
 ⟨some 43, none, .load false 1 (.t 42)⟩,
 ⟨some 44, none, .buildSlice 1 [(.t 43)]⟩,
 ⟨some 45, none, .append 1 8 true (.t 38) (.t 44)⟩,
 ⟨some 46, none, .fieldAddr 2 (.t 5)⟩,
 ⟨none, none, .store 1 (.t 46) (.t 45)⟩] [1, 2, 4, 5, 6])
 (.draw [0, 1, 0, 4, 0, 28, 60, 124, 255, 511, 1023] [
 ⟨some 47, none, .fieldAddr 3 (.t 5)⟩,
 ⟨some 48, none, .load false 1 (.t 47)⟩,
 ⟨some 49, none, .fieldAddr 3 (.t 2)⟩,
 ⟨some 50, none, .load false 1 (.t 49)⟩,
 ⟨some 51, none, .mov (.t 6)⟩,
 ⟨some 52, none, .indexAddr 1 (.t 50) (.t 51)⟩,
 ⟨some 53, none, .load false 1 (.t 52)⟩,
 ⟨some 54, none, .buildSlice 1 [(.t 53)]⟩,
 ⟨some 55, none, .append 1 1 true (.t 48) (.t 54)⟩,
 ⟨some 56, none, .fieldAddr 3 (.t 5)⟩,
 ⟨none, none, .store 1 (.t 56) (.t 55)⟩] [1, 2, 4, 5, 6])))
 (.skip))))
 (.reg [
 ⟨some 19, none, .mov (.t 6)⟩,
 ⟨some 20, none, .bin .add (.t 19) (.v (.i .i64 1))⟩,
 ⟨some 6, none, .mov (.t 20)⟩] [1, 2, 4, 5, 6]))))))
 (.seq
 (.reg [
 ⟨some 57, none, .load true 4 (.t 5)⟩,
 ⟨none, none, .store 4 (.t 4) (.t 57)⟩] [4])
 (.ret))))
theorem get_spec_l7Cut : prog.funcs[fid_spec_l7Cut]? = some f40 := func40
theorem ok_spec_l7Cut : okFn prog f40 58 [] [(4, some (true, 4))] mc_spec_l7Cut = true := by kernel_rfl
def mc_spec_l7Level : MCode :=
 .seq
 (.reg [
 ⟨some 4, none, .box 4 (.t 0)⟩,
 ⟨some 8, none, .alloc [.i .i64 0, .nl 2, .nl 1, .nl 1]⟩,
 ⟨some 9, none, .mov (.v (.i .i64 0))⟩,
 ⟨some 10, none, .mov (.v (.b false))⟩] [1, 2, 3, 4, 8])
 (.seq
 (.reg [
 ⟨some 18, none, .load true 4 (.t 4)⟩,
 ⟨some 19, none, .mov (.t 3)⟩,
 ⟨some 20, none, .call fid_spec_l7At false [.im, .im, .im] [(.t 18), (.t 19), (.v (.b true))]⟩,
 ⟨some 21, none, .mov (.t 1)⟩,
 ⟨some 22, none, .mov (.t 2)⟩,
 ⟨some 23, none, .call fid_spec_l7Side false [.im, .im, .im] [(.t 20), (.t 21), (.t 22)]⟩,
 ⟨some 11, none, .mov (.t 23)⟩] [3, 4, 8, 11])
 (.seq
 (.reg [
 ⟨some 24, none, .load true 4 (.t 4)⟩,
 ⟨some 25, none, .call fid_spec_l7Copy false [.im] [(.t 24)]⟩,
 ⟨some 12, none, .alloc [.i .i64 0, .nl 2, .nl 1, .nl 1]⟩,
 ⟨none, none, .store 4 (.t 12) (.t 25)⟩] [3, 8, 11, 12])
 (.seq
 (.reg [
 ⟨some 13, none, .mov (.v (.i .i64 0))⟩] [3, 8, 11, 12, 13])
 (.cut [3, 8, 11, 12, 13]
 (.seq
 (.reg [
 ⟨some 14, none, .mov (.v (.i .i64 0))⟩] [3, 8, 11, 12, 13, 14])
 (.block 0
 (.loop [3, 8, 11, 12, 13, 14]
 (.seq
 (.seq
 (.reg [
 ⟨some 26, none, .mov (.t 14)⟩,
 ⟨some 27, none, .fieldAddr 2 (.t 12)⟩,
 ⟨some 28, none, .load false 1 (.t 27)⟩,
 ⟨some 29, none, .len (.t 28)⟩,
 ⟨some 30, none, .bin .lss (.t 26) (.t 29)⟩] [3, 8, 11, 12, 13, 14, 30])
 (.cond (.t 30)
 (.skip)
 (.exit 0)))
 (.seq
 (.block 1
 (.seq
 (.reg [
 ⟨some 33, none, .fieldAddr 0 (.t 12)⟩,
 ⟨some 34, none, .fieldAddr 1 (.t 33)⟩,
 ⟨some 35, none, .load false 1 (.t 34)⟩,
 ⟨some 36, none, .mov (.t 14)⟩,
 ⟨some 37, none, .indexAddr 2 (.t 35) (.t 36)⟩,
 ⟨some 38, none, .load true 2 (.t 37)⟩,
 ⟨some 15, none, .alloc [.i .i64 0, .i .i64 0]⟩,
 ⟨none, none, .store 2 (.t 15) (.t 38)⟩] [3, 8, 11, 12, 13, 14, 15])
 (.seq
 (.reg [
 ⟨some 39, none, .fieldAddr 3 (.t 12)⟩,
 ⟨some 40, none, .load false 1 (.t 39)⟩,
 ⟨some 41, none, .mov (.t 14)⟩,
 ⟨some 42, none, .indexAddr 1 (.t 40) (.t 41)⟩,
 ⟨some 43, none, .load false 1 (.t 42)⟩,
 ⟨some 44, none, .mov (.t 43)⟩,
 ⟨some 45, (some (44, true)), .fieldAddr 2 (.t 12)⟩,
 ⟨some 46, (some (44, true)), .load false 1 (.t 45)⟩,
 ⟨some 47, (some (44, true)), .mov (.t 14)⟩,
 ⟨some 48, (some (44, true)), .indexAddr 1 (.t 46) (.t 47)⟩,
 ⟨some 49, (some (44, true)), .load false 1 (.t 48)⟩,
 ⟨some 50, (some (44, true)), .mov (.t 3)⟩,
 ⟨some 51, (some (44, true)), .bin .eql (.t 49) (.t 50)⟩,
 ⟨some 52, none, .pick (.t 44) (.t 51) (.v (.b false))⟩,
 ⟨some 53, none, .mov (.t 52)⟩,
 ⟨some 54, (some (53, true)), .mov (.t 11)⟩,
 ⟨some 55, (some (53, true)), .fieldAddr 0 (.t 15)⟩,
 ⟨some 56, (some (53, true)), .load false 1 (.t 55)⟩,
 ⟨some 57, (some (53, true)), .call fid_spec_l6In false [.im, .im] [(.t 54), (.t 56)]⟩,
 ⟨some 58, none, .pick (.t 53) (.t 57) (.v (.b false))⟩] [3, 8, 11, 12, 13, 14, 58])
 (.cond (.t 58)
 (.seq
 (.reg [
 ⟨some 59, none, .fieldAddr 2 (.t 12)⟩,
 ⟨some 60, none, .load false 1 (.t 59)⟩,
 ⟨some 61, none, .mov (.t 14)⟩,
 ⟨some 62, none, .mov (.t 3)⟩,
 ⟨some 63, none, .bin .add (.t 62) (.v (.i .i64 1))⟩,
 ⟨some 64, none, .indexAddr 1 (.t 60) (.t 61)⟩,
 ⟨none, none, .store 1 (.t 64) (.t 63)⟩] [3, 8, 11, 12, 13, 14])
 (.reg [
 ⟨some 65, none, .mov (.t 13)⟩,
 ⟨some 66, none, .bin .add (.t 65) (.v (.i .i64 1))⟩,
 ⟨some 13, none, .mov (.t 66)⟩] [3, 8, 11, 12, 13, 14]))
 (.skip)))))
 (.reg [
 ⟨some 31, none, .mov (.t 14)⟩,
 ⟨some 32, none, .bin .add (.t 31) (.v (.i .i64 1))⟩,
 ⟨some 14, none, .mov (.t 32)⟩] [3, 8, 11, 12, 13, 14]))))))
 (.seq
 (.seq
 (.reg [
 ⟨some 16, none, .mov (.v (.i .i64 0))⟩] [3, 8, 11, 12, 13, 16])
 (.block 2
 (.loop [3, 8, 11, 12, 13, 16]
 (.seq
 (.seq
 (.reg [
 ⟨some 67, none, .mov (.t 16)⟩,
 ⟨some 68, none, .fieldAddr 2 (.t 12)⟩,
 ⟨some 69, none, .load false 1 (.t 68)⟩,
 ⟨some 70, none, .len (.t 69)⟩,
 ⟨some 71, none, .bin .lss (.t 67) (.t 70)⟩] [3, 8, 11, 12, 13, 16, 71])
 (.cond (.t 71)
 (.skip)
 (.exit 2)))
 (.seq
 (.block 3
 (.seq
 (.reg [
 ⟨some 74, none, .fieldAddr 0 (.t 12)⟩,
 ⟨some 75, none, .fieldAddr 1 (.t 74)⟩,
 ⟨some 76, none, .load false 1 (.t 75)⟩,
 ⟨some 77, none, .mov (.t 16)⟩,
 ⟨some 78, none, .indexAddr 2 (.t 76) (.t 77)⟩,
 ⟨some 79, none, .load true 2 (.t 78)⟩,
 ⟨some 17, none, .alloc [.i .i64 0, .i .i64 0]⟩,
 ⟨none, none, .store 2 (.t 17) (.t 79)⟩] [3, 8, 11, 12, 13, 16, 17])
 (.seq
 (.seq
 (.reg [
 ⟨some 80, none, .fieldAddr 3 (.t 12)⟩,
 ⟨some 81, none, .load false 1 (.t 80)⟩,
 ⟨some 82, none, .mov (.t 16)⟩,
 ⟨some 83, none, .indexAddr 1 (.t 81) (.t 82)⟩,
 ⟨some 84, none, .load false 1 (.t 83)⟩,
 ⟨some 85, none, .mov (.t 84)⟩,
 ⟨some 86, (some (85, false)), .fieldAddr 2 (.t 12)⟩,
 ⟨some 87, (some (85, false)), .load false 1 (.t 86)⟩,
 ⟨some 88, (some (85, false)), .mov (.t 16)⟩,
 ⟨some 89, (some (85, false)), .indexAddr 1 (.t 87) (.t 88)⟩,
 ⟨some 90, (some (85, false)), .load false 1 (.t 89)⟩,
 ⟨some 91, (some (85, false)), .mov (.t 3)⟩,
 ⟨some 92, (some (85, false)), .bin .neq (.t 90) (.t 91)⟩,
 ⟨some 93, none, .pick (.t 85) (.v (.b true)) (.t 92)⟩,
 ⟨some 94, none, .mov (.t 93)⟩,
 ⟨some 95, (some (94, false)), .mov (.t 11)⟩,
 ⟨some 96, (some (94, false)), .fieldAddr 0 (.t 17)⟩,
 ⟨some 97, (some (94, false)), .load false 1 (.t 96)⟩,
 ⟨some 98, (some (94, false)), .call fid_spec_l6In false [.im, .im] [(.t 95), (.t 97)]⟩,
 ⟨some 99, (some (94, false)), .un .not (.t 98)⟩,
 ⟨some 100, (some (94, false)), .mov (.t 99)⟩,
 ⟨some 101, (some (100, true)), .mov (.t 11)⟩,
 ⟨some 102, (some (100, true)), .fieldAddr 1 (.t 17)⟩,
 ⟨some 103, (some (100, true)), .load false 1 (.t 102)⟩,
 ⟨some 104, (some (100, true)), .call fid_spec_l6In false [.im, .im] [(.t 101), (.t 103)]⟩,
 ⟨some 105, (some (100, true)), .un .not (.t 104)⟩,
 ⟨some 106, (some (94, false)), .pick (.t 100) (.t 105) (.v (.b false))⟩,
 ⟨some 107, none, .pick (.t 94) (.v (.b true)) (.t 106)⟩] [3, 8, 11, 12, 13, 16, 17, 107])
 (.cond (.t 107)
 (.exit 3)
 (.skip)))
 (.seq
 (.seq
 (.reg [
 ⟨some 108, none, .mov (.t 11)⟩,
 ⟨some 109, none, .fieldAddr 0 (.t 17)⟩,
 ⟨some 110, none, .load false 1 (.t 109)⟩,
 ⟨some 111, none, .call fid_spec_l6In false [.im, .im] [(.t 108), (.t 110)]⟩,
 ⟨some 112, none, .mov (.t 111)⟩,
 ⟨some 113, (some (112, true)), .mov (.t 11)⟩,
 ⟨some 114, (some (112, true)), .fieldAddr 1 (.t 17)⟩,
 ⟨some 115, (some (112, true)), .load false 1 (.t 114)⟩,
 ⟨some 116, (some (112, true)), .call fid_spec_l6In false [.im, .im] [(.t 113), (.t 115)]⟩,
 ⟨some 117, none, .pick (.t 112) (.t 116) (.v (.b false))⟩] [3, 8, 11, 12, 13, 16, 117])
 (.cond (.t 117)
 (.seq
 (.reg [
 ⟨some 118, none, .fieldAddr 2 (.t 12)⟩,
 ⟨some 119, none, .load false 1 (.t 118)⟩,
 ⟨some 120, none, .mov (.t 16)⟩,
 ⟨some 121, none, .mov (.t 3)⟩,
 ⟨some 122, none, .bin .add (.t 121) (.v (.i .i64 1))⟩,
 ⟨some 123, none, .indexAddr 1 (.t 119) (.t 120)⟩,
 ⟨none, none, .store 1 (.t 123) (.t 122)⟩] [3, 8, 11, 12, 13, 16])
 (.seq
 (.reg [
 ⟨some 124, none, .mov (.t 13)⟩,
 ⟨some 125, none, .bin .add (.t 124) (.v (.i .i64 1))⟩,
 ⟨some 13, none, .mov (.t 125)⟩] [3, 8, 11, 12, 13, 16])
 (.exit 3)))
 (.skip)))
 (.seq
 (.reg [
 ⟨some 126, none, .fieldAddr 3 (.t 12)⟩,
 ⟨some 127, none, .load false 1 (.t 126)⟩,
 ⟨some 128, none, .mov (.t 16)⟩,
 ⟨some 129, none, .indexAddr 1 (.t 127) (.t 128)⟩,
 ⟨none, none, .store 1 (.t 129) (.v (.b true))⟩] [8, 12, 13])
 (.seq
 (.reg [
 ⟨some 130, none, .load true 4 (.t 12)⟩,
 ⟨some 131, none, .mov (.t 13)⟩,
 ⟨none, none, .store 4 (.t 8) (.t 130)⟩,
 ⟨some 9, none, .mov (.t 131)⟩,
 ⟨some 10, none, .mov (.v (.b true))⟩] [8, 9, 10])
 (.ret)))))))
 (.reg [
 ⟨some 72, none, .mov (.t 16)⟩,
 ⟨some 73, none, .bin .add (.t 72) (.v (.i .i64 1))⟩,
 ⟨some 16, none, .mov (.t 73)⟩] [3, 8, 11, 12, 13, 16]))))))
 (.seq
 (.reg [
 ⟨some 132, none, .load true 4 (.t 12)⟩,
 ⟨some 133, none, .mov (.t 13)⟩,
 ⟨none, none, .store 4 (.t 8) (.t 132)⟩,
 ⟨some 9, none, .mov (.t 133)⟩,
 ⟨some 10, none, .mov (.v (.b false))⟩] [8, 9, 10])
 (.ret)))))))
theorem get_spec_l7Level : prog.funcs[fid_spec_l7Level]? = some f41 := func41
theorem ok_spec_l7Level : okFn prog f41 134 [] [(8, some (true, 4)), (9, none), (10, none)] mc_spec_l7Level = true := by kernel_rfl
def mc_spec_l7Draw : MCode :=
 .seq
 (.reg [
 ⟨some 2, none, .alloc [.i .i64 0, .nl 2, .nl 1, .nl 1]⟩] [0, 2])
 (.seq
 (.reg [
 ⟨some 14, none, .mov (.t 0)⟩,
 ⟨some 15, none, .call fid_spec_l14Open true [.im] [(.t 14)]⟩,
 ⟨some 3, none, .mov (.t 15)⟩] [2, 3])
 (.seq
 (.reg [
 ⟨some 16, none, .mov (.t 3)⟩,
 ⟨some 17, none, .call fid_spec_l1Draw true [.io] [(.t 16)]⟩,
 ⟨some 18, none, .call fid_spec_l7Of false [.im] [(.t 17)]⟩,
 ⟨some 4, none, .alloc [.i .i64 0, .nl 2, .nl 1, .nl 1]⟩,
 ⟨none, none, .store 4 (.t 4) (.t 18)⟩] [2, 3, 4])
 (.cut [2, 3, 4]
 (.seq
 (.reg [
 ⟨some 19, none, .mov (.t 3)⟩,
 ⟨some 20, none, .call fid_p_spec_l14Rd_pick true [.io, .im] [(.t 19), (.v (.i .i64 5))]⟩,
 ⟨some 5, none, .mov (.t 20)⟩] [2, 3, 4, 5])
 (.block 0
 (.loop [2, 3, 4, 5]
 (.seq
 (.seq
 (.reg [
 ⟨some 21, none, .mov (.t 5)⟩,
 ⟨some 22, none, .bin .gtr (.t 21) (.v (.i .i64 0))⟩,
 ⟨some 23, none, .mov (.t 22)⟩,
 ⟨some 24, (some (23, true)), .fieldAddr 0 (.t 4)⟩,
 ⟨some 25, (some (23, true)), .fieldAddr 1 (.t 24)⟩,
 ⟨some 26, (some (23, true)), .load false 1 (.t 25)⟩,
 ⟨some 27, (some (23, true)), .len (.t 26)⟩,
 ⟨some 28, (some (23, true)), .bin .gtr (.t 27) (.v (.i .i64 0))⟩,
 ⟨some 29, none, .pick (.t 23) (.t 28) (.v (.b false))⟩] [2, 3, 4, 5, 29])
 (.cond (.t 29)
 (.skip)
 (.exit 0)))
 (.seq
 (.block 1
 (.seq
 (.draw [0, 0, 2, 6, 0, 0, 32, 96, 224, 496, 1022, 2046, 4095, 8191, 16383, 16383, 16383, 16383, 0, 294911, 851967, 1966079, 4194303] [
 ⟨some 33, none, .load true 4 (.t 4)⟩,
 ⟨some 34, none, .fieldAddr 0 (.t 4)⟩,
 ⟨some 35, none, .fieldAddr 1 (.t 34)⟩,
 ⟨some 36, none, .load false 1 (.t 35)⟩,
 ⟨some 37, none, .mov (.t 3)⟩,
 ⟨some 38, none, .fieldAddr 0 (.t 4)⟩,
 ⟨some 39, none, .fieldAddr 1 (.t 38)⟩,
 ⟨some 40, none, .load false 1 (.t 39)⟩,
 ⟨some 41, none, .len (.t 40)⟩,
 ⟨some 42, none, .call fid_p_spec_l14Rd_pick true [.io, .im] [(.t 37), (.t 41)]⟩,
 ⟨some 43, none, .indexAddr 2 (.t 36) (.t 42)⟩,
 ⟨some 44, none, .load true 2 (.t 43)⟩,
 ⟨some 45, none, .call fid_spec_CutLevel false [.im, .im] [(.t 33), (.t 44)]⟩,
 ⟨some 32, none, .mov (.t 45)⟩,
 ⟨some 46, none, .extract (.t 32) 0⟩,
 ⟨some 47, none, .extract (.t 32) 1⟩,
 ⟨some 48, none, .extract (.t 32) 2⟩,
 ⟨some 49, none, .extract (.t 32) 3⟩,
 ⟨some 6, none, .alloc [.i .i64 0, .nl 2, .nl 1, .nl 1]⟩,
 ⟨none, none, .store 4 (.t 6) (.t 46)⟩,
 ⟨some 7, none, .mov (.t 47)⟩,
 ⟨some 8, none, .mov (.t 48)⟩,
 ⟨some 9, none, .mov (.t 49)⟩] [2, 3, 4, 5, 6, 9])
 (.cut [2, 3, 4, 5]
 (.seq
 (.reg [
 ⟨some 50, none, .mov (.t 9)⟩] [2, 3, 4, 5, 6, 50])
 (.cond (.t 50)
 (.reg [
 ⟨some 51, none, .load true 4 (.t 6)⟩,
 ⟨none, none, .store 4 (.t 4) (.t 51)⟩] [2, 3, 4, 5])
 (.skip)))
 (.seq
 (.reg [
 ⟨some 52, none, .mov (.t 3)⟩,
 ⟨some 53, none, .fieldAddr 0 (.t 4)⟩,
 ⟨some 54, none, .fieldAddr 0 (.t 53)⟩,
 ⟨some 55, none, .load false 1 (.t 54)⟩,
 ⟨some 56, none, .call fid_p_spec_l14Rd_pick true [.io, .im] [(.t 52), (.t 55)]⟩,
 ⟨some 10, none, .mov (.t 56)⟩] [2, 3, 4, 5, 10])
 (.seq
 (.reg [
 ⟨some 57, none, .mov (.t 3)⟩,
 ⟨some 58, none, .fieldAddr 0 (.t 4)⟩,
 ⟨some 59, none, .fieldAddr 0 (.t 58)⟩,
 ⟨some 60, none, .load false 1 (.t 59)⟩,
 ⟨some 61, none, .call fid_p_spec_l14Rd_pick true [.io, .im] [(.t 57), (.t 60)]⟩,
 ⟨some 11, none, .mov (.t 61)⟩] [2, 3, 4, 5, 10, 11])
 (.seq
 (.reg [
 ⟨some 62, none, .mov (.t 10)⟩,
 ⟨some 63, none, .mov (.t 11)⟩,
 ⟨some 64, none, .bin .neq (.t 62) (.t 63)⟩,
 ⟨some 65, none, .mov (.t 64)⟩,
 ⟨some 66, (some (65, true)), .mov (.t 3)⟩,
 ⟨some 67, (some (65, true)), .call fid_p_spec_l14Rd_pick true [.io, .im] [(.t 66), (.v (.i .i64 2))]⟩,
 ⟨some 68, (some (65, true)), .bin .eql (.t 67) (.v (.i .i64 0))⟩,
 ⟨some 69, none, .pick (.t 65) (.t 68) (.v (.b false))⟩] [2, 3, 4, 5, 10, 11, 69])
 (.cond (.t 69)
 (.seq
 (.draw [0, 0, 0, 6, 15, 31, 63, 63, 0, 383, 1023] [
 ⟨some 71, none, .load true 4 (.t 4)⟩,
 ⟨some 72, none, .mov (.t 10)⟩,
 ⟨some 73, none, .mov (.t 11)⟩,
 ⟨some 74, none, .call fid_spec_l1Edge false [.im, .im] [(.t 72), (.t 73)]⟩,
 ⟨some 75, none, .call fid_spec_PutLevel false [.im, .im] [(.t 71), (.t 74)]⟩,
 ⟨some 70, none, .mov (.t 75)⟩,
 ⟨some 76, none, .extract (.t 70) 0⟩,
 ⟨some 77, none, .extract (.t 70) 1⟩,
 ⟨some 12, none, .alloc [.i .i64 0, .nl 2, .nl 1, .nl 1]⟩,
 ⟨none, none, .store 4 (.t 12) (.t 76)⟩,
 ⟨some 13, none, .mov (.t 77)⟩] [2, 3, 4, 5, 12, 13])
 (.seq
 (.reg [
 ⟨some 78, none, .mov (.t 13)⟩] [2, 3, 4, 5, 12, 78])
 (.cond (.t 78)
 (.reg [
 ⟨some 79, none, .load true 4 (.t 12)⟩,
 ⟨none, none, .store 4 (.t 4) (.t 79)⟩] [2, 3, 4, 5])
 (.skip))))
 (.skip))))))))
 (.reg [
 ⟨some 30, none, .mov (.t 5)⟩,
 ⟨some 31, none, .bin .sub (.t 30) (.v (.i .i64 1))⟩,
 ⟨some 5, none, .mov (.t 31)⟩] [2, 3, 4, 5]))))))
 (.seq
 (.seq
 (.reg [
 ⟨some 80, none, .fieldAddr 2 (.t 4)⟩,
 ⟨some 81, none, .load false 1 (.t 80)⟩,
 ⟨some 82, none, .len (.t 81)⟩,
 ⟨some 83, none, .bin .eql (.t 82) (.v (.i .i64 0))⟩] [2, 3, 4, 83])
 (.cond (.t 83)
 (.seq
 (.reg [
 ⟨some 84, none, .load true 4 (.t 4)⟩,
 ⟨none, none, .store 4 (.t 2) (.t 84)⟩] [2])
 (.ret))
 (.skip)))
 (.seq
 (.seq
 (.reg [
 ⟨some 85, none, .mov (.t 3)⟩,
 ⟨some 86, none, .call fid_p_spec_l14Rd_pick true [.io, .im] [(.t 85), (.v (.i .i64 24))]⟩] [2, 3, 4, 86])
 (.block 2
 (.seq
 (.reg [
 ⟨some 88, none, .bin .eql (.t 86) (.v (.i .i64 0))⟩,
 ⟨some 87, none, .mov (.t 88)⟩] [2, 3, 4, 86, 87])
 (.cond (.t 87)
 (.draw [0, 1, 0, 0, 8, 24, 60, 0, 0, 508, 1023, 2047] [
 ⟨some 89, none, .fieldAddr 2 (.t 4)⟩,
 ⟨some 90, none, .load false 1 (.t 89)⟩,
 ⟨some 91, none, .mov (.t 3)⟩,
 ⟨some 92, none, .fieldAddr 2 (.t 4)⟩,
 ⟨some 93, none, .load false 1 (.t 92)⟩,
 ⟨some 94, none, .len (.t 93)⟩,
 ⟨some 95, none, .call fid_p_spec_l14Rd_pick true [.io, .im] [(.t 91), (.t 94)]⟩,
 ⟨some 96, none, .mov (.t 3)⟩,
 ⟨some 97, none, .buildSlice 1 [(.v (.i .i64 5)), (.v (.i .i64 (-1))), (.v (.i .i64 4)), (.v (.i .i64 1))]⟩,
 ⟨some 98, none, .call fid_p_spec_l14Rd_num true [.io, .im] [(.t 96), (.t 97)]⟩,
 ⟨some 99, none, .indexAddr 1 (.t 90) (.t 95)⟩,
 ⟨none, none, .store 1 (.t 99) (.t 98)⟩] [2, 4])
 (.seq
 (.reg [
 ⟨some 101, none, .bin .eql (.t 86) (.v (.i .i64 1))⟩,
 ⟨some 100, none, .mov (.t 101)⟩] [2, 3, 4, 86, 100])
 (.cond (.t 100)
 (.draw [0, 1, 0, 0, 8, 24, 60, 0, 252, 508, 1023, 2047] [
 ⟨some 102, none, .fieldAddr 3 (.t 4)⟩,
 ⟨some 103, none, .load false 1 (.t 102)⟩,
 ⟨some 104, none, .mov (.t 3)⟩,
 ⟨some 105, none, .fieldAddr 3 (.t 4)⟩,
 ⟨some 106, none, .load false 1 (.t 105)⟩,
 ⟨some 107, none, .len (.t 106)⟩,
 ⟨some 108, none, .call fid_p_spec_l14Rd_pick true [.io, .im] [(.t 104), (.t 107)]⟩,
 ⟨some 109, none, .mov (.t 3)⟩,
 ⟨some 110, none, .call fid_p_spec_l14Rd_pick true [.io, .im] [(.t 109), (.v (.i .i64 2))]⟩,
 ⟨some 111, none, .bin .eql (.t 110) (.v (.i .i64 0))⟩,
 ⟨some 112, none, .indexAddr 1 (.t 103) (.t 108)⟩,
 ⟨none, none, .store 1 (.t 112) (.t 111)⟩] [2, 4])
 (.seq
 (.reg [
 ⟨some 114, none, .bin .eql (.t 86) (.v (.i .i64 2))⟩,
 ⟨some 113, none, .mov (.t 114)⟩] [2, 4, 113])
 (.cond (.t 113)
 (.reg [
 ⟨some 115, none, .fieldAddr 2 (.t 4)⟩,
 ⟨some 116, none, .load false 1 (.t 115)⟩,
 ⟨some 117, none, .fieldAddr 2 (.t 4)⟩,
 ⟨some 118, none, .load false 1 (.t 117)⟩,
 ⟨some 119, none, .len (.t 118)⟩,
 ⟨some 120, none, .bin .sub (.t 119) (.v (.i .i64 1))⟩,
 ⟨some 121, none, .slice 1 (.t 116) none (some (.t 120))⟩,
 ⟨some 122, none, .fieldAddr 2 (.t 4)⟩,
 ⟨none, none, .store 1 (.t 122) (.t 121)⟩] [2, 4])
 (.skip)))))))))
 (.seq
 (.reg [
 ⟨some 123, none, .load true 4 (.t 4)⟩,
 ⟨none, none, .store 4 (.t 2) (.t 123)⟩] [2])
 (.ret)))))))
theorem get_spec_l7Draw : prog.funcs[fid_spec_l7Draw]? = some f62 := func62
theorem ok_spec_l7Draw : okFn prog f62 124 [] [(2, some (true, 4))] mc_spec_l7Draw = true := by kernel_rfl
def mc_spec_l14Open : MCode :=
 .seq
 (.reg [
 ⟨some 2, none, .mov (.v (.u))⟩] [0])
 (.seq
 (.seq
 (.reg [
 ⟨some 3, none, .mov (.t 0)⟩,
 ⟨some 4, none, .len (.t 3)⟩,
 ⟨some 5, none, .bin .gtr (.t 4) (.v (.i .i64 2000))⟩] [0, 5])
 (.cond (.t 5)
 (.reg [
 ⟨some 6, none, .mov (.t 0)⟩,
 ⟨some 7, none, .slice 1 (.t 6) none (some (.v (.i .i64 2000)))⟩,
 ⟨some 0, none, .mov (.t 7)⟩] [0])
 (.skip)))
 (.seq
 (.reg [
 ⟨some 8, none, .mov (.t 0)⟩,
 ⟨some 9, none, .build [.nl 1, .i .i64 0] [(0, 1, (.t 8))]⟩,
 ⟨some 10, none, .box 2 (.t 9)⟩,
 ⟨some 2, none, .mov (.t 10)⟩] [2])
 (.ret)))
theorem get_spec_l14Open : prog.funcs[fid_spec_l14Open]? = some f63 := func63
theorem ok_spec_l14Open : okFn prog f63 11 [] [(2, none)] mc_spec_l14Open = true := by kernel_rfl
def mc_p_spec_l14Rd_pick : MCode :=
 .seq
 (.reg [
 ⟨some 4, none, .mov (.v (.i .i64 0))⟩] [0, 1])
 (.seq
 (.reg [
 ⟨some 7, none, .mov (.t 0)⟩,
 ⟨some 8, none, .mov (.t 0)⟩,
 ⟨some 9, none, .nilCheck (.t 8)⟩,
 ⟨some 10, none, .fieldAddr 1 (.t 9)⟩,
 ⟨some 11, none, .load false 1 (.t 10)⟩,
 ⟨some 12, none, .bin .add (.t 11) (.v (.i .i64 1))⟩,
 ⟨some 13, none, .nilCheck (.t 7)⟩,
 ⟨some 14, none, .fieldAddr 1 (.t 13)⟩,
 ⟨none, none, .store 1 (.t 14) (.t 12)⟩] [0, 1])
 (.seq
 (.seq
 (.reg [
 ⟨some 15, none, .mov (.t 1)⟩,
 ⟨some 16, none, .bin .lss (.t 15) (.v (.i .i64 1))⟩,
 ⟨some 17, none, .mov (.t 16)⟩,
 ⟨some 18, (some (17, false)), .mov (.t 0)⟩,
 ⟨some 19, (some (17, false)), .nilCheck (.t 18)⟩,
 ⟨some 20, (some (17, false)), .fieldAddr 0 (.t 19)⟩,
 ⟨some 21, (some (17, false)), .load false 1 (.t 20)⟩,
 ⟨some 22, (some (17, false)), .len (.t 21)⟩,
 ⟨some 23, (some (17, false)), .bin .eql (.t 22) (.v (.i .i64 0))⟩,
 ⟨some 24, none, .pick (.t 17) (.v (.b true)) (.t 23)⟩] [0, 1, 24])
 (.cond (.t 24)
 (.seq
 (.reg [
 ⟨some 4, none, .mov (.v (.i .i64 0))⟩] [0, 4])
 (.ret))
 (.skip)))
 (.seq
 (.reg [
 ⟨some 25, none, .mov (.t 0)⟩,
 ⟨some 26, none, .nilCheck (.t 25)⟩,
 ⟨some 27, none, .fieldAddr 1 (.t 26)⟩,
 ⟨some 28, none, .load false 1 (.t 27)⟩,
 ⟨some 29, none, .bin .sub (.t 28) (.v (.i .i64 1))⟩,
 ⟨some 5, none, .mov (.t 29)⟩] [0, 1, 5])
 (.seq
 (.seq
 (.reg [
 ⟨some 30, none, .mov (.t 5)⟩,
 ⟨some 31, none, .mov (.t 0)⟩,
 ⟨some 32, none, .nilCheck (.t 31)⟩,
 ⟨some 33, none, .fieldAddr 0 (.t 32)⟩,
 ⟨some 34, none, .load false 1 (.t 33)⟩,
 ⟨some 35, none, .len (.t 34)⟩,
 ⟨some 36, none, .bin .lss (.t 30) (.t 35)⟩] [0, 1, 5, 36])
 (.cond (.t 36)
 (.seq
 (.reg [
 ⟨some 37, none, .mov (.t 0)⟩,
 ⟨some 38, none, .nilCheck (.t 37)⟩,
 ⟨some 39, none, .fieldAddr 0 (.t 38)⟩,
 ⟨some 40, none, .load false 1 (.t 39)⟩,
 ⟨some 41, none, .mov (.t 5)⟩,
 ⟨some 42, none, .indexAddr 1 (.t 40) (.t 41)⟩,
 ⟨some 43, none, .load false 1 (.t 42)⟩,
 ⟨some 44, none, .conv .i64 (.t 43)⟩,
 ⟨some 45, none, .mov (.t 1)⟩,
 ⟨some 46, none, .bin .rem (.t 44) (.t 45)⟩,
 ⟨some 4, none, .mov (.t 46)⟩] [0, 4])
 (.ret))
 (.skip)))
 (.seq
 (.draw [0, 1, 3, 7, 0, 0, 32, 96, 224, 480, 1008, 2047, 4095, 8191, 16383, 0, 32768, 98304, 229376, 0, 524288, 1572864, 0, 4194304, 12582912, 29360128, 62914560, 133693440, 268402688, 536838144, 1073709056, 2147450880, 4294967295, 0, 8589934592, 34359738367, 0, 0, 137438953472, 412316860416, 962072674304, 2061584302080, 4329327034368, 8727373545472, 17592186044415, 35184372088831] [
 ⟨some 47, none, .mov (.t 0)⟩,
 ⟨some 48, none, .nilCheck (.t 47)⟩,
 ⟨some 49, none, .fieldAddr 0 (.t 48)⟩,
 ⟨some 50, none, .load false 1 (.t 49)⟩,
 ⟨some 51, none, .mov (.t 5)⟩,
 ⟨some 52, none, .mov (.t 0)⟩,
 ⟨some 53, none, .nilCheck (.t 52)⟩,
 ⟨some 54, none, .fieldAddr 0 (.t 53)⟩,
 ⟨some 55, none, .load false 1 (.t 54)⟩,
 ⟨some 56, none, .len (.t 55)⟩,
 ⟨some 57, none, .bin .rem (.t 51) (.t 56)⟩,
 ⟨some 58, none, .indexAddr 1 (.t 50) (.t 57)⟩,
 ⟨some 59, none, .load false 1 (.t 58)⟩,
 ⟨some 60, none, .conv .i64 (.t 59)⟩,
 ⟨some 61, none, .bin .mul (.t 60) (.v (.i .i64 131))⟩,
 ⟨some 62, none, .mov (.t 0)⟩,
 ⟨some 63, none, .nilCheck (.t 62)⟩,
 ⟨some 64, none, .fieldAddr 0 (.t 63)⟩,
 ⟨some 65, none, .load false 1 (.t 64)⟩,
 ⟨some 66, none, .mov (.t 5)⟩,
 ⟨some 67, none, .bin .mul (.t 66) (.v (.i .i64 7))⟩,
 ⟨some 68, none, .bin .add (.t 67) (.v (.i .i64 3))⟩,
 ⟨some 69, none, .mov (.t 0)⟩,
 ⟨some 70, none, .nilCheck (.t 69)⟩,
 ⟨some 71, none, .fieldAddr 0 (.t 70)⟩,
 ⟨some 72, none, .load false 1 (.t 71)⟩,
 ⟨some 73, none, .len (.t 72)⟩,
 ⟨some 74, none, .bin .rem (.t 68) (.t 73)⟩,
 ⟨some 75, none, .indexAddr 1 (.t 65) (.t 74)⟩,
 ⟨some 76, none, .load false 1 (.t 75)⟩,
 ⟨some 77, none, .conv .i64 (.t 76)⟩,
 ⟨some 78, none, .bin .mul (.t 77) (.v (.i .i64 1117))⟩,
 ⟨some 79, none, .bin .add (.t 61) (.t 78)⟩,
 ⟨some 80, none, .mov (.t 5)⟩,
 ⟨some 81, none, .bin .mul (.t 80) (.v (.i .i64 29))⟩,
 ⟨some 82, none, .bin .add (.t 79) (.t 81)⟩,
 ⟨some 83, none, .mov (.t 5)⟩,
 ⟨some 84, none, .mov (.t 0)⟩,
 ⟨some 85, none, .nilCheck (.t 84)⟩,
 ⟨some 86, none, .fieldAddr 0 (.t 85)⟩,
 ⟨some 87, none, .load false 1 (.t 86)⟩,
 ⟨some 88, none, .len (.t 87)⟩,
 ⟨some 89, none, .bin .quo (.t 83) (.t 88)⟩,
 ⟨some 90, none, .bin .mul (.t 89) (.v (.i .i64 53))⟩,
 ⟨some 91, none, .bin .add (.t 82) (.t 90)⟩,
 ⟨some 6, none, .mov (.t 91)⟩] [0, 1, 6])
 (.seq
 (.reg [
 ⟨some 92, none, .mov (.t 6)⟩,
 ⟨some 93, none, .mov (.t 6)⟩,
 ⟨some 94, none, .bin .quo (.t 93) (.v (.i .i64 64))⟩,
 ⟨some 95, none, .bin .xor (.t 92) (.t 94)⟩,
 ⟨some 6, none, .mov (.t 95)⟩] [0, 1, 6])
 (.seq
 (.reg [
 ⟨some 96, none, .mov (.t 6)⟩,
 ⟨some 97, none, .mov (.t 1)⟩,
 ⟨some 98, none, .bin .rem (.t 96) (.t 97)⟩,
 ⟨some 4, none, .mov (.t 98)⟩] [0, 4])
 (.ret))))))))
theorem get_p_spec_l14Rd_pick : prog.funcs[fid_p_spec_l14Rd_pick]? = some f64 := func64
theorem ok_p_spec_l14Rd_pick : okFn prog f64 99 [0] [(4, none)] mc_p_spec_l14Rd_pick = true := by kernel_rfl
def mc_spec_l1Edge : MCode :=
 .seq
 (.reg [
 ⟨some 4, none, .alloc [.i .i64 0, .i .i64 0]⟩] [0, 1, 4])
 (.seq
 (.seq
 (.reg [
 ⟨some 5, none, .mov (.t 0)⟩,
 ⟨some 6, none, .mov (.t 1)⟩,
 ⟨some 7, none, .bin .lss (.t 5) (.t 6)⟩] [0, 1, 4, 7])
 (.cond (.t 7)
 (.seq
 (.reg [
 ⟨some 8, none, .mov (.t 0)⟩,
 ⟨some 9, none, .mov (.t 1)⟩,
 ⟨some 10, none, .build [.i .i64 0, .i .i64 0] [(0, 1, (.t 8)), (1, 1, (.t 9))]⟩,
 ⟨none, none, .store 2 (.t 4) (.t 10)⟩] [4])
 (.ret))
 (.skip)))
 (.seq
 (.reg [
 ⟨some 11, none, .mov (.t 1)⟩,
 ⟨some 12, none, .mov (.t 0)⟩,
 ⟨some 13, none, .build [.i .i64 0, .i .i64 0] [(0, 1, (.t 11)), (1, 1, (.t 12))]⟩,
 ⟨none, none, .store 2 (.t 4) (.t 13)⟩] [4])
 (.ret)))
theorem get_spec_l1Edge : prog.funcs[fid_spec_l1Edge]? = some f65 := func65
theorem ok_spec_l1Edge : okFn prog f65 14 [] [(4, some (true, 2))] mc_spec_l1Edge = true := by kernel_rfl
def mc_spec_PutEdge : MCode :=
 .seq
 (.reg [
 ⟨some 2, none, .box 2 (.t 0)⟩,
 ⟨some 3, none, .box 2 (.t 1)⟩,
 ⟨some 4, none, .alloc [.i .i64 0, .nl 2]⟩,
 ⟨some 5, none, .mov (.v (.b false))⟩] [2, 3, 4])
 (.seq
 (.seq
 (.reg [
 ⟨some 7, none, .load true 2 (.t 2)⟩,
 ⟨some 8, none, .call fid_spec_GraphValid false [.im] [(.t 7)]⟩,
 ⟨some 9, none, .un .not (.t 8)⟩,
 ⟨some 10, none, .mov (.t 9)⟩,
 ⟨some 11, (some (10, false)), .fieldAddr 1 (.t 2)⟩,
 ⟨some 12, (some (10, false)), .load false 1 (.t 11)⟩,
 ⟨some 13, (some (10, false)), .load true 2 (.t 3)⟩,
 ⟨some 14, (some (10, false)), .call fid_spec_l1Find false [.im, .im] [(.t 12), (.t 13)]⟩,
 ⟨some 15, (some (10, false)), .bin .geq (.t 14) (.v (.i .i64 0))⟩,
 ⟨some 16, none, .pick (.t 10) (.v (.b true)) (.t 15)⟩] [2, 3, 4, 16])
 (.cond (.t 16)
 (.seq
 (.reg [
 ⟨some 17, none, .build [.i .i64 0, .nl 2] []⟩,
 ⟨none, none, .store 2 (.t 4) (.t 17)⟩,
 ⟨some 5, none, .mov (.v (.b false))⟩] [4, 5])
 (.ret))
 (.skip)))
 (.seq
 (.draw [0, 1, 0, 4, 0, 28, 63, 0, 255] [
 ⟨some 18, none, .fieldAddr 0 (.t 2)⟩,
 ⟨some 19, none, .load false 1 (.t 18)⟩,
 ⟨some 20, none, .fieldAddr 1 (.t 2)⟩,
 ⟨some 21, none, .load false 1 (.t 20)⟩,
 ⟨some 22, none, .load true 2 (.t 3)⟩,
 ⟨some 23, none, .call fid_spec_l1Put false [.im, .im] [(.t 21), (.t 22)]⟩,
 ⟨some 24, none, .build [.i .i64 0, .nl 2] [(0, 1, (.t 19)), (1, 1, (.t 23))]⟩,
 ⟨some 6, none, .alloc [.i .i64 0, .nl 2]⟩,
 ⟨none, none, .store 2 (.t 6) (.t 24)⟩] [4, 6])
 (.seq
 (.seq
 (.reg [
 ⟨some 25, none, .load true 2 (.t 6)⟩,
 ⟨some 26, none, .call fid_spec_GraphValid false [.im] [(.t 25)]⟩,
 ⟨some 27, none, .un .not (.t 26)⟩] [4, 6, 27])
 (.cond (.t 27)
 (.seq
 (.reg [
 ⟨some 28, none, .build [.i .i64 0, .nl 2] []⟩,
 ⟨none, none, .store 2 (.t 4) (.t 28)⟩,
 ⟨some 5, none, .mov (.v (.b false))⟩] [4, 5])
 (.ret))
 (.skip)))
 (.seq
 (.reg [
 ⟨some 29, none, .load true 2 (.t 6)⟩,
 ⟨none, none, .store 2 (.t 4) (.t 29)⟩,
 ⟨some 5, none, .mov (.v (.b true))⟩] [4, 5])
 (.ret)))))
theorem get_spec_PutEdge : prog.funcs[fid_spec_PutEdge]? = some f69 := func69
theorem ok_spec_PutEdge : okFn prog f69 30 [] [(4, some (true, 2)), (5, none)] mc_spec_PutEdge = true := by kernel_rfl
def mc_spec_l7Put : MCode :=
 .seq
 (.reg [
 ⟨some 3, none, .box 4 (.t 0)⟩,
 ⟨some 4, none, .box 2 (.t 1)⟩,
 ⟨some 6, none, .alloc [.i .i64 0, .nl 2, .nl 1, .nl 1]⟩] [2, 3, 4, 6])
 (.seq
 (.draw [0, 1, 3, 0, 8, 24, 0, 120, 255, 511, 0, 2047] [
 ⟨some 10, none, .fieldAddr 0 (.t 3)⟩,
 ⟨some 11, none, .fieldAddr 0 (.t 10)⟩,
 ⟨some 12, none, .load false 1 (.t 11)⟩,
 ⟨some 13, none, .fieldAddr 0 (.t 3)⟩,
 ⟨some 14, none, .fieldAddr 1 (.t 13)⟩,
 ⟨some 15, none, .load false 1 (.t 14)⟩,
 ⟨some 16, none, .load true 2 (.t 4)⟩,
 ⟨some 17, none, .call fid_spec_l1Put false [.im, .im] [(.t 15), (.t 16)]⟩,
 ⟨some 18, none, .build [.i .i64 0, .nl 2] [(0, 1, (.t 12)), (1, 1, (.t 17))]⟩,
 ⟨some 19, none, .build [.i .i64 0, .nl 2, .nl 1, .nl 1] [(0, 2, (.t 18))]⟩,
 ⟨some 7, none, .alloc [.i .i64 0, .nl 2, .nl 1, .nl 1]⟩,
 ⟨none, none, .store 4 (.t 7) (.t 19)⟩] [2, 3, 6, 7])
 (.seq
 (.seq
 (.reg [
 ⟨some 8, none, .mov (.v (.i .i64 0))⟩] [2, 3, 6, 7, 8])
 (.block 0
 (.loop [2, 3, 6, 7, 8]
 (.seq
 (.seq
 (.reg [
 ⟨some 20, none, .mov (.t 8)⟩,
 ⟨some 21, none, .fieldAddr 0 (.t 7)⟩,
 ⟨some 22, none, .fieldAddr 1 (.t 21)⟩,
 ⟨some 23, none, .load false 1 (.t 22)⟩,
 ⟨some 24, none, .len (.t 23)⟩,
 ⟨some 25, none, .bin .lss (.t 20) (.t 24)⟩] [2, 3, 6, 7, 8, 25])
 (.cond (.t 25)
 (.skip)
 (.exit 0)))
 (.seq
 (.block 1
 (.seq
 (.draw [0, 1, 3, 0, 8, 24, 0, 120, 248, 511, 1023] [
 ⟨some 28, none, .fieldAddr 0 (.t 3)⟩,
 ⟨some 29, none, .fieldAddr 1 (.t 28)⟩,
 ⟨some 30, none, .load false 1 (.t 29)⟩,
 ⟨some 31, none, .fieldAddr 0 (.t 7)⟩,
 ⟨some 32, none, .fieldAddr 1 (.t 31)⟩,
 ⟨some 33, none, .load false 1 (.t 32)⟩,
 ⟨some 34, none, .mov (.t 8)⟩,
 ⟨some 35, none, .indexAddr 2 (.t 33) (.t 34)⟩,
 ⟨some 36, none, .load true 2 (.t 35)⟩,
 ⟨some 37, none, .call fid_spec_l1Find false [.im, .im] [(.t 30), (.t 36)]⟩,
 ⟨some 9, none, .mov (.t 37)⟩] [2, 3, 6, 7, 8, 9])
 (.seq
 (.reg [
 ⟨some 38, none, .mov (.t 9)⟩,
 ⟨some 39, none, .bin .lss (.t 38) (.v (.i .i64 0))⟩] [2, 3, 6, 7, 8, 9, 39])
 (.cond (.t 39)
 (.seq
 (.reg [
 ⟨some 40, none, .fieldAddr 2 (.t 7)⟩,
 ⟨some 41, none, .load false 1 (.t 40)⟩,
 ⟨some 42, none, .buildSlice 1 [(.v (.i .i64 0))]⟩,
 ⟨some 43, none, .append 1 8 true (.t 41) (.t 42)⟩,
 ⟨some 44, none, .fieldAddr 2 (.t 7)⟩,
 ⟨none, none, .store 1 (.t 44) (.t 43)⟩] [2, 3, 6, 7, 8])
 (.reg [
 ⟨some 45, none, .fieldAddr 3 (.t 7)⟩,
 ⟨some 46, none, .load false 1 (.t 45)⟩,
 ⟨some 47, none, .mov (.t 2)⟩,
 ⟨some 48, none, .buildSlice 1 [(.t 47)]⟩,
 ⟨some 49, none, .append 1 1 true (.t 46) (.t 48)⟩,
 ⟨some 50, none, .fieldAddr 3 (.t 7)⟩,
 ⟨none, none, .store 1 (.t 50) (.t 49)⟩] [2, 3, 6, 7, 8]))
 (.seq
 (.draw [0, 1, 0, 4, 0, 28, 60, 124, 255, 511, 1023] [
 ⟨some 51, none, .fieldAddr 2 (.t 7)⟩,
 ⟨some 52, none, .load false 1 (.t 51)⟩,
 ⟨some 53, none, .fieldAddr 2 (.t 3)⟩,
 ⟨some 54, none, .load false 1 (.t 53)⟩,
 ⟨some 55, none, .mov (.t 9)⟩,
 ⟨some 56, none, .indexAddr 1 (.t 54) (.t 55)⟩,
 ⟨some 57, none, .load false 1 (.t 56)⟩,
 ⟨some 58, none, .buildSlice 1 [(.t 57)]⟩,
 ⟨some 59, none, .append 1 8 true (.t 52) (.t 58)⟩,
 ⟨some 60, none, .fieldAddr 2 (.t 7)⟩,
 ⟨none, none, .store 1 (.t 60) (.t 59)⟩] [2, 3, 6, 7, 8, 9])
 (.draw [0, 1, 0, 4, 0, 28, 60, 124, 255, 511, 1023] [
 ⟨some 61, none, .fieldAddr 3 (.t 7)⟩,
 ⟨some 62, none, .load false 1 (.t 61)⟩,
 ⟨some 63, none, .fieldAddr 3 (.t 3)⟩,
 ⟨some 64, none, .load false 1 (.t 63)⟩,
 ⟨some 65, none, .mov (.t 9)⟩,
 ⟨some 66, none, .indexAddr 1 (.t 64) (.t 65)⟩,
 ⟨some 67, none, .load false 1 (.t 66)⟩,
 ⟨some 68, none, .buildSlice 1 [(.t 67)]⟩,
 ⟨some 69, none, .append 1 1 true (.t 62) (.t 68)⟩,
 ⟨some 70, none, .fieldAddr 3 (.t 7)⟩,
 ⟨none, none, .store 1 (.t 70) (.t 69)⟩] [2, 3, 6, 7, 8]))))))
 (.reg [
 ⟨some 26, none, .mov (.t 8)⟩,
 ⟨some 27, none, .bin .add (.t 26) (.v (.i .i64 1))⟩,
 ⟨some 8, none, .mov (.t 27)⟩] [2, 3, 6, 7, 8]))))))
 (.seq
 (.reg [
 ⟨some 71, none, .load true 4 (.t 7)⟩,
 ⟨none, none, .store 4 (.t 6) (.t 71)⟩] [6])
 (.ret))))
theorem get_spec_l7Put : prog.funcs[fid_spec_l7Put]? = some f70 := func70
theorem ok_spec_l7Put : okFn prog f70 72 [] [(6, some (true, 4))] mc_spec_l7Put = true := by kernel_rfl
def mc_spec_l2Joined : MCode :=
 .seq
 (.reg [
 ⟨some 3, none, .box 2 (.t 0)⟩,
 ⟨some 6, none, .mov (.v (.b false))⟩] [1, 2, 3])
 (.seq
 (.reg [
 ⟨some 8, none, .load true 2 (.t 3)⟩,
 ⟨some 9, none, .call fid_spec_l2Labels false [.im] [(.t 8)]⟩,
 ⟨some 7, none, .mov (.t 9)⟩] [1, 2, 7])
 (.seq
 (.draw [0, 0, 3, 7, 0, 0, 48, 112, 255, 511] [
 ⟨some 10, none, .mov (.t 7)⟩,
 ⟨some 11, none, .mov (.t 1)⟩,
 ⟨some 12, none, .indexAddr 1 (.t 10) (.t 11)⟩,
 ⟨some 13, none, .load false 1 (.t 12)⟩,
 ⟨some 14, none, .mov (.t 7)⟩,
 ⟨some 15, none, .mov (.t 2)⟩,
 ⟨some 16, none, .indexAddr 1 (.t 14) (.t 15)⟩,
 ⟨some 17, none, .load false 1 (.t 16)⟩,
 ⟨some 18, none, .bin .eql (.t 13) (.t 17)⟩,
 ⟨some 6, none, .mov (.t 18)⟩] [6])
 (.ret)))
theorem get_spec_l2Joined : prog.funcs[fid_spec_l2Joined]? = some f71 := func71
theorem ok_spec_l2Joined : okFn prog f71 19 [] [(6, none)] mc_spec_l2Joined = true := by kernel_rfl
def mc_p_spec_l14Rd_num : MCode :=
 .seq
 (.reg [
 ⟨some 4, none, .mov (.v (.i .i64 0))⟩] [0, 1])
 (.seq
 (.reg [
 ⟨some 5, none, .mov (.t 1)⟩,
 ⟨some 6, none, .mov (.t 0)⟩,
 ⟨some 7, none, .mov (.t 1)⟩,
 ⟨some 8, none, .len (.t 7)⟩,
 ⟨some 9, none, .call fid_p_spec_l14Rd_pick false [.io, .im] [(.t 6), (.t 8)]⟩,
 ⟨some 10, none, .indexAddr 1 (.t 5) (.t 9)⟩,
 ⟨some 11, none, .load false 1 (.t 10)⟩,
 ⟨some 4, none, .mov (.t 11)⟩] [0, 4])
 (.ret))
theorem get_p_spec_l14Rd_num : prog.funcs[fid_p_spec_l14Rd_num]? = some f86 := func86
theorem ok_p_spec_l14Rd_num : okFn prog f86 12 [0] [(4, none)] mc_p_spec_l14Rd_num = true := by kernel_rfl
def mc_spec_GraphValid : MCode :=
 .seq
 (.reg [
 ⟨some 1, none, .box 2 (.t 0)⟩,
 ⟨some 2, none, .mov (.v (.b false))⟩] [1])
 (.seq
 (.seq
 (.reg [
 ⟨some 5, none, .fieldAddr 0 (.t 1)⟩,
 ⟨some 6, none, .load false 1 (.t 5)⟩,
 ⟨some 7, none, .bin .lss (.t 6) (.v (.i .i64 1))⟩,
 ⟨some 8, none, .mov (.t 7)⟩,
 ⟨some 9, (some (8, false)), .fieldAddr 0 (.t 1)⟩,
 ⟨some 10, (some (8, false)), .load false 1 (.t 9)⟩,
 ⟨some 11, (some (8, false)), .bin .gtr (.t 10) (.v (.i .i64 16))⟩,
 ⟨some 12, none, .pick (.t 8) (.v (.b true)) (.t 11)⟩,
 ⟨some 13, none, .mov (.t 12)⟩,
 ⟨some 14, (some (13, false)), .fieldAddr 1 (.t 1)⟩,
 ⟨some 15, (some (13, false)), .load false 1 (.t 14)⟩,
 ⟨some 16, (some (13, false)), .len (.t 15)⟩,
 ⟨some 17, (some (13, false)), .bin .gtr (.t 16) (.v (.i .i64 40))⟩,
 ⟨some 18, none, .pick (.t 13) (.v (.b true)) (.t 17)⟩] [1, 18])
 (.cond (.t 18)
 (.seq
 (.reg [
 ⟨some 2, none, .mov (.v (.b false))⟩] [2])
 (.ret))
 (.skip)))
 (.seq
 (.seq
 (.reg [
 ⟨some 3, none, .mov (.v (.i .i64 0))⟩] [1, 3])
 (.block 0
 (.loop [1, 3]
 (.seq
 (.seq
 (.reg [
 ⟨some 19, none, .mov (.t 3)⟩,
 ⟨some 20, none, .fieldAddr 1 (.t 1)⟩,
 ⟨some 21, none, .load false 1 (.t 20)⟩,
 ⟨some 22, none, .len (.t 21)⟩,
 ⟨some 23, none, .bin .lss (.t 19) (.t 22)⟩] [1, 3, 23])
 (.cond (.t 23)
 (.skip)
 (.exit 0)))
 (.seq
 (.block 1
 (.seq
 (.reg [
 ⟨some 26, none, .fieldAddr 1 (.t 1)⟩,
 ⟨some 27, none, .load false 1 (.t 26)⟩,
 ⟨some 28, none, .mov (.t 3)⟩,
 ⟨some 29, none, .indexAddr 2 (.t 27) (.t 28)⟩,
 ⟨some 30, none, .load true 2 (.t 29)⟩,
 ⟨some 4, none, .alloc [.i .i64 0, .i .i64 0]⟩,
 ⟨none, none, .store 2 (.t 4) (.t 30)⟩] [1, 3, 4])
 (.seq
 (.draw [0, 1, 3, 7, 15, 31, 15, 79, 255, 511, 1023, 2047, 4095, 2047, 10239, 32767, 65535, 131071, 262143, 524287, 1048575, 2097151, 4194303, 2097151, 10485759, 33554431, 67108863, 2097151, 268435455, 536870911, 1073741823, 2147483647] [
 ⟨some 31, none, .fieldAddr 0 (.t 4)⟩,
 ⟨some 32, none, .load false 1 (.t 31)⟩,
 ⟨some 33, none, .bin .lss (.t 32) (.v (.i .i64 0))⟩,
 ⟨some 34, none, .mov (.t 33)⟩,
 ⟨some 35, (some (34, false)), .fieldAddr 0 (.t 4)⟩,
 ⟨some 36, (some (34, false)), .load false 1 (.t 35)⟩,
 ⟨some 37, (some (34, false)), .fieldAddr 1 (.t 4)⟩,
 ⟨some 38, (some (34, false)), .load false 1 (.t 37)⟩,
 ⟨some 39, (some (34, false)), .bin .geq (.t 36) (.t 38)⟩,
 ⟨some 40, none, .pick (.t 34) (.v (.b true)) (.t 39)⟩,
 ⟨some 41, none, .mov (.t 40)⟩,
 ⟨some 42, (some (41, false)), .fieldAddr 1 (.t 4)⟩,
 ⟨some 43, (some (41, false)), .load false 1 (.t 42)⟩,
 ⟨some 44, (some (41, false)), .fieldAddr 0 (.t 1)⟩,
 ⟨some 45, (some (41, false)), .load false 1 (.t 44)⟩,
 ⟨some 46, (some (41, false)), .bin .geq (.t 43) (.t 45)⟩,
 ⟨some 47, none, .pick (.t 41) (.v (.b true)) (.t 46)⟩,
 ⟨some 48, none, .mov (.t 47)⟩,
 ⟨some 49, (some (48, false)), .mov (.t 3)⟩,
 ⟨some 50, (some (48, false)), .bin .gtr (.t 49) (.v (.i .i64 0))⟩,
 ⟨some 51, (some (48, false)), .mov (.t 50)⟩,
 ⟨some 52, (some (51, true)), .fieldAddr 1 (.t 1)⟩,
 ⟨some 53, (some (51, true)), .load false 1 (.t 52)⟩,
 ⟨some 54, (some (51, true)), .mov (.t 3)⟩,
 ⟨some 55, (some (51, true)), .bin .sub (.t 54) (.v (.i .i64 1))⟩,
 ⟨some 56, (some (51, true)), .indexAddr 2 (.t 53) (.t 55)⟩,
 ⟨some 57, (some (51, true)), .load true 2 (.t 56)⟩,
 ⟨some 58, (some (51, true)), .load true 2 (.t 4)⟩,
 ⟨some 59, (some (51, true)), .call fid_spec_l1Less false [.im, .im] [(.t 57), (.t 58)]⟩,
 ⟨some 60, (some (51, true)), .un .not (.t 59)⟩,
 ⟨some 61, (some (48, false)), .pick (.t 51) (.t 60) (.v (.b false))⟩,
 ⟨some 62, none, .pick (.t 48) (.v (.b true)) (.t 61)⟩] [1, 3, 62])
 (.cond (.t 62)
 (.seq
 (.reg [
 ⟨some 2, none, .mov (.v (.b false))⟩] [2])
 (.ret))
 (.skip)))))
 (.reg [
 ⟨some 24, none, .mov (.t 3)⟩,
 ⟨some 25, none, .bin .add (.t 24) (.v (.i .i64 1))⟩,
 ⟨some 3, none, .mov (.t 25)⟩] [1, 3]))))))
 (.seq
 (.reg [
 ⟨some 2, none, .mov (.v (.b true))⟩] [2])
 (.ret))))
theorem get_spec_GraphValid : prog.funcs[fid_spec_GraphValid]? = some f89 := func89
theorem ok_spec_GraphValid : okFn prog f89 63 [] [(2, none)] mc_spec_GraphValid = true := by kernel_rfl
def mc_spec_l7At : MCode :=
 .seq
 (.reg [
 ⟨some 3, none, .box 4 (.t 0)⟩,
 ⟨some 6, none, .alloc [.i .i64 0, .nl 2]⟩] [1, 2, 3, 6])
 (.seq
 (.reg [
 ⟨some 9, none, .fieldAddr 0 (.t 3)⟩,
 ⟨some 10, none, .fieldAddr 0 (.t 9)⟩,
 ⟨some 11, none, .load false 1 (.t 10)⟩,
 ⟨some 12, none, .buildSlice 2 []⟩,
 ⟨some 13, none, .build [.i .i64 0, .nl 2] [(0, 1, (.t 11)), (1, 1, (.t 12))]⟩,
 ⟨some 7, none, .alloc [.i .i64 0, .nl 2]⟩,
 ⟨none, none, .store 2 (.t 7) (.t 13)⟩] [1, 2, 3, 6, 7])
 (.seq
 (.seq
 (.reg [
 ⟨some 8, none, .mov (.v (.i .i64 0))⟩] [1, 2, 3, 6, 7, 8])
 (.block 0
 (.loop [1, 2, 3, 6, 7, 8]
 (.seq
 (.seq
 (.reg [
 ⟨some 14, none, .mov (.t 8)⟩,
 ⟨some 15, none, .fieldAddr 0 (.t 3)⟩,
 ⟨some 16, none, .fieldAddr 1 (.t 15)⟩,
 ⟨some 17, none, .load false 1 (.t 16)⟩,
 ⟨some 18, none, .len (.t 17)⟩,
 ⟨some 19, none, .bin .lss (.t 14) (.t 18)⟩] [1, 2, 3, 6, 7, 8, 19])
 (.cond (.t 19)
 (.skip)
 (.exit 0)))
 (.seq
 (.block 1
 (.seq
 (.reg [
 ⟨some 22, none, .fieldAddr 2 (.t 3)⟩,
 ⟨some 23, none, .load false 1 (.t 22)⟩,
 ⟨some 24, none, .mov (.t 8)⟩,
 ⟨some 25, none, .indexAddr 1 (.t 23) (.t 24)⟩,
 ⟨some 26, none, .load false 1 (.t 25)⟩,
 ⟨some 27, none, .mov (.t 1)⟩,
 ⟨some 28, none, .bin .geq (.t 26) (.t 27)⟩,
 ⟨some 29, none, .mov (.t 28)⟩,
 ⟨some 30, (some (29, true)), .fieldAddr 3 (.t 3)⟩,
 ⟨some 31, (some (29, true)), .load false 1 (.t 30)⟩,
 ⟨some 32, (some (29, true)), .mov (.t 8)⟩,
 ⟨some 33, (some (29, true)), .indexAddr 1 (.t 31) (.t 32)⟩,
 ⟨some 34, (some (29, true)), .load false 1 (.t 33)⟩,
 ⟨some 35, (some (29, true)), .mov (.t 34)⟩,
 ⟨some 36, (some (35, false)), .mov (.t 2)⟩,
 ⟨some 37, (some (35, false)), .un .not (.t 36)⟩,
 ⟨some 38, (some (29, true)), .pick (.t 35) (.v (.b true)) (.t 37)⟩,
 ⟨some 39, none, .pick (.t 29) (.t 38) (.v (.b false))⟩] [1, 2, 3, 6, 7, 8, 39])
 (.cond (.t 39)
 (.draw [0, 1, 0, 4, 12, 0, 60, 124, 252, 511, 1023, 2047] [
 ⟨some 40, none, .fieldAddr 1 (.t 7)⟩,
 ⟨some 41, none, .load false 1 (.t 40)⟩,
 ⟨some 42, none, .fieldAddr 0 (.t 3)⟩,
 ⟨some 43, none, .fieldAddr 1 (.t 42)⟩,
 ⟨some 44, none, .load false 1 (.t 43)⟩,
 ⟨some 45, none, .mov (.t 8)⟩,
 ⟨some 46, none, .indexAddr 2 (.t 44) (.t 45)⟩,
 ⟨some 47, none, .load true 2 (.t 46)⟩,
 ⟨some 48, none, .buildSlice 2 [(.t 47)]⟩,
 ⟨some 49, none, .append 2 16 true (.t 41) (.t 48)⟩,
 ⟨some 50, none, .fieldAddr 1 (.t 7)⟩,
 ⟨none, none, .store 1 (.t 50) (.t 49)⟩] [1, 2, 3, 6, 7, 8])
 (.skip))))
 (.reg [
 ⟨some 20, none, .mov (.t 8)⟩,
 ⟨some 21, none, .bin .add (.t 20) (.v (.i .i64 1))⟩,
 ⟨some 8, none, .mov (.t 21)⟩] [1, 2, 3, 6, 7, 8]))))))
 (.seq
 (.reg [
 ⟨some 51, none, .load true 2 (.t 7)⟩,
 ⟨none, none, .store 2 (.t 6) (.t 51)⟩] [6])
 (.ret))))
theorem get_spec_l7At : prog.funcs[fid_spec_l7At]? = some f90 := func90
theorem ok_spec_l7At : okFn prog f90 52 [] [(6, some (true, 2))] mc_spec_l7At = true := by kernel_rfl
def mc_spec_l6Forest : MCode :=
 .seq
 (.reg [
 ⟨some 1, none, .box 2 (.t 0)⟩,
 ⟨some 2, none, .mov (.v (.b false))⟩] [1])
 (.seq
 (.draw [0, 1, 0, 4, 15, 31, 0, 64, 192, 511, 1023] [
 ⟨some 3, none, .fieldAddr 0 (.t 1)⟩,
 ⟨some 4, none, .load false 1 (.t 3)⟩,
 ⟨some 5, none, .fieldAddr 1 (.t 1)⟩,
 ⟨some 6, none, .load false 1 (.t 5)⟩,
 ⟨some 7, none, .call fid_spec_l2Forest false [.im, .im] [(.t 4), (.t 6)]⟩,
 ⟨some 8, none, .len (.t 7)⟩,
 ⟨some 9, none, .fieldAddr 1 (.t 1)⟩,
 ⟨some 10, none, .load false 1 (.t 9)⟩,
 ⟨some 11, none, .len (.t 10)⟩,
 ⟨some 12, none, .bin .eql (.t 8) (.t 11)⟩,
 ⟨some 2, none, .mov (.t 12)⟩] [2])
 (.ret))
theorem get_spec_l6Forest : prog.funcs[fid_spec_l6Forest]? = some f91 := func91
theorem ok_spec_l6Forest : okFn prog f91 13 [] [(2, none)] mc_spec_l6Forest = true := by kernel_rfl
def mc_spec_l7Ints : MCode :=
 .seq
 (.reg [
 ⟨some 4, none, .mov (.v (.b false))⟩] [0, 1])
 (.seq
 (.seq
 (.reg [
 ⟨some 6, none, .mov (.t 0)⟩,
 ⟨some 7, none, .len (.t 6)⟩,
 ⟨some 8, none, .mov (.t 1)⟩,
 ⟨some 9, none, .len (.t 8)⟩,
 ⟨some 10, none, .bin .neq (.t 7) (.t 9)⟩] [0, 1, 10])
 (.cond (.t 10)
 (.seq
 (.reg [
 ⟨some 4, none, .mov (.v (.b false))⟩] [4])
 (.ret))
 (.skip)))
 (.seq
 (.seq
 (.reg [
 ⟨some 5, none, .mov (.v (.i .i64 0))⟩] [0, 1, 5])
 (.block 0
 (.loop [0, 1, 5]
 (.seq
 (.seq
 (.reg [
 ⟨some 11, none, .mov (.t 5)⟩,
 ⟨some 12, none, .mov (.t 0)⟩,
 ⟨some 13, none, .len (.t 12)⟩,
 ⟨some 14, none, .bin .lss (.t 11) (.t 13)⟩] [0, 1, 5, 14])
 (.cond (.t 14)
 (.skip)
 (.exit 0)))
 (.seq
 (.block 1
 (.seq
 (.draw [0, 0, 3, 7, 0, 0, 48, 112, 255] [
 ⟨some 17, none, .mov (.t 0)⟩,
 ⟨some 18, none, .mov (.t 5)⟩,
 ⟨some 19, none, .indexAddr 1 (.t 17) (.t 18)⟩,
 ⟨some 20, none, .load false 1 (.t 19)⟩,
 ⟨some 21, none, .mov (.t 1)⟩,
 ⟨some 22, none, .mov (.t 5)⟩,
 ⟨some 23, none, .indexAddr 1 (.t 21) (.t 22)⟩,
 ⟨some 24, none, .load false 1 (.t 23)⟩,
 ⟨some 25, none, .bin .neq (.t 20) (.t 24)⟩] [0, 1, 5, 25])
 (.cond (.t 25)
 (.seq
 (.reg [
 ⟨some 4, none, .mov (.v (.b false))⟩] [4])
 (.ret))
 (.skip))))
 (.reg [
 ⟨some 15, none, .mov (.t 5)⟩,
 ⟨some 16, none, .bin .add (.t 15) (.v (.i .i64 1))⟩,
 ⟨some 5, none, .mov (.t 16)⟩] [0, 1, 5]))))))
 (.seq
 (.reg [
 ⟨some 4, none, .mov (.v (.b true))⟩] [4])
 (.ret))))
theorem get_spec_l7Ints : prog.funcs[fid_spec_l7Ints]? = some f92 := func92
theorem ok_spec_l7Ints : okFn prog f92 26 [] [(4, none)] mc_spec_l7Ints = true := by kernel_rfl
def mc_spec_l2Labels : MCode :=
 .seq
 (.reg [
 ⟨some 1, none, .box 2 (.t 0)⟩,
 ⟨some 2, none, .mov (.v (.nl 1))⟩] [1])
 (.seq
 (.reg [
 ⟨some 9, none, .buildSlice 1 []⟩,
 ⟨some 3, none, .mov (.t 9)⟩] [1, 3])
 (.seq
 (.seq
 (.reg [
 ⟨some 4, none, .mov (.v (.i .i64 0))⟩] [1, 3, 4])
 (.block 0
 (.loop [1, 3, 4]
 (.seq
 (.seq
 (.reg [
 ⟨some 10, none, .mov (.t 4)⟩,
 ⟨some 11, none, .fieldAddr 0 (.t 1)⟩,
 ⟨some 12, none, .load false 1 (.t 11)⟩,
 ⟨some 13, none, .bin .lss (.t 10) (.t 12)⟩] [1, 3, 4, 13])
 (.cond (.t 13)
 (.skip)
 (.exit 0)))
 (.seq
 (.block 1
 (.reg [
 ⟨some 16, none, .mov (.t 3)⟩,
 ⟨some 17, none, .mov (.t 4)⟩,
 ⟨some 18, none, .buildSlice 1 [(.t 17)]⟩,
 ⟨some 19, none, .append 1 8 true (.t 16) (.t 18)⟩,
 ⟨some 3, none, .mov (.t 19)⟩] [1, 3, 4]))
 (.reg [
 ⟨some 14, none, .mov (.t 4)⟩,
 ⟨some 15, none, .bin .add (.t 14) (.v (.i .i64 1))⟩,
 ⟨some 4, none, .mov (.t 15)⟩] [1, 3, 4]))))))
 (.seq
 (.seq
 (.reg [
 ⟨some 5, none, .mov (.v (.b true))⟩] [1, 3, 5])
 (.block 2
 (.loop [1, 3, 5]
 (.seq
 (.seq
 (.reg [
 ⟨some 20, none, .mov (.t 5)⟩] [1, 3, 20])
 (.cond (.t 20)
 (.skip)
 (.exit 2)))
 (.block 3
 (.seq
 (.reg [
 ⟨some 5, none, .mov (.v (.b false))⟩] [1, 3, 5])
 (.seq
 (.reg [
 ⟨some 6, none, .mov (.v (.i .i64 0))⟩] [1, 3, 5, 6])
 (.block 4
 (.loop [1, 3, 5, 6]
 (.seq
 (.seq
 (.reg [
 ⟨some 21, none, .mov (.t 6)⟩,
 ⟨some 22, none, .fieldAddr 1 (.t 1)⟩,
 ⟨some 23, none, .load false 1 (.t 22)⟩,
 ⟨some 24, none, .len (.t 23)⟩,
 ⟨some 25, none, .bin .lss (.t 21) (.t 24)⟩] [1, 3, 5, 6, 25])
 (.cond (.t 25)
 (.skip)
 (.exit 4)))
 (.seq
 (.block 5
 (.seq
 (.reg [
 ⟨some 28, none, .mov (.t 3)⟩,
 ⟨some 29, none, .fieldAddr 1 (.t 1)⟩,
 ⟨some 30, none, .load false 1 (.t 29)⟩,
 ⟨some 31, none, .mov (.t 6)⟩,
 ⟨some 32, none, .indexAddr 2 (.t 30) (.t 31)⟩,
 ⟨some 33, none, .fieldAddr 0 (.t 32)⟩,
 ⟨some 34, none, .load false 1 (.t 33)⟩,
 ⟨some 35, none, .indexAddr 1 (.t 28) (.t 34)⟩,
 ⟨some 36, none, .load false 1 (.t 35)⟩,
 ⟨some 7, none, .mov (.t 36)⟩] [1, 3, 5, 6, 7])
 (.seq
 (.reg [
 ⟨some 37, none, .mov (.t 3)⟩,
 ⟨some 38, none, .fieldAddr 1 (.t 1)⟩,
 ⟨some 39, none, .load false 1 (.t 38)⟩,
 ⟨some 40, none, .mov (.t 6)⟩,
 ⟨some 41, none, .indexAddr 2 (.t 39) (.t 40)⟩,
 ⟨some 42, none, .fieldAddr 1 (.t 41)⟩,
 ⟨some 43, none, .load false 1 (.t 42)⟩,
 ⟨some 44, none, .indexAddr 1 (.t 37) (.t 43)⟩,
 ⟨some 45, none, .load false 1 (.t 44)⟩,
 ⟨some 8, none, .mov (.t 45)⟩] [1, 3, 5, 6, 7, 8])
 (.seq
 (.seq
 (.reg [
 ⟨some 46, none, .mov (.t 7)⟩,
 ⟨some 47, none, .mov (.t 8)⟩,
 ⟨some 48, none, .bin .lss (.t 46) (.t 47)⟩] [1, 3, 5, 6, 7, 8, 48])
 (.cond (.t 48)
 (.seq
 (.reg [
 ⟨some 49, none, .mov (.t 3)⟩,
 ⟨some 50, none, .fieldAddr 1 (.t 1)⟩,
 ⟨some 51, none, .load false 1 (.t 50)⟩,
 ⟨some 52, none, .mov (.t 6)⟩,
 ⟨some 53, none, .indexAddr 2 (.t 51) (.t 52)⟩,
 ⟨some 54, none, .fieldAddr 1 (.t 53)⟩,
 ⟨some 55, none, .load false 1 (.t 54)⟩,
 ⟨some 56, none, .mov (.t 7)⟩,
 ⟨some 57, none, .indexAddr 1 (.t 49) (.t 55)⟩,
 ⟨none, none, .store 1 (.t 57) (.t 56)⟩] [1, 3, 6, 7, 8])
 (.reg [
 ⟨some 5, none, .mov (.v (.b true))⟩] [1, 3, 5, 6, 7, 8]))
 (.skip)))
 (.seq
 (.reg [
 ⟨some 58, none, .mov (.t 8)⟩,
 ⟨some 59, none, .mov (.t 7)⟩,
 ⟨some 60, none, .bin .lss (.t 58) (.t 59)⟩] [1, 3, 5, 6, 8, 60])
 (.cond (.t 60)
 (.seq
 (.reg [
 ⟨some 61, none, .mov (.t 3)⟩,
 ⟨some 62, none, .fieldAddr 1 (.t 1)⟩,
 ⟨some 63, none, .load false 1 (.t 62)⟩,
 ⟨some 64, none, .mov (.t 6)⟩,
 ⟨some 65, none, .indexAddr 2 (.t 63) (.t 64)⟩,
 ⟨some 66, none, .fieldAddr 0 (.t 65)⟩,
 ⟨some 67, none, .load false 1 (.t 66)⟩,
 ⟨some 68, none, .mov (.t 8)⟩,
 ⟨some 69, none, .indexAddr 1 (.t 61) (.t 67)⟩,
 ⟨none, none, .store 1 (.t 69) (.t 68)⟩] [1, 3, 6])
 (.reg [
 ⟨some 5, none, .mov (.v (.b true))⟩] [1, 3, 5, 6]))
 (.skip)))))))
 (.reg [
 ⟨some 26, none, .mov (.t 6)⟩,
 ⟨some 27, none, .bin .add (.t 26) (.v (.i .i64 1))⟩,
 ⟨some 6, none, .mov (.t 27)⟩] [1, 3, 5, 6]))))))))))))
 (.seq
 (.reg [
 ⟨some 70, none, .mov (.t 3)⟩,
 ⟨some 2, none, .mov (.t 70)⟩] [2])
 (.ret)))))
theorem get_spec_l2Labels : prog.funcs[fid_spec_l2Labels]? = some f93 := func93
theorem ok_spec_l2Labels : okFn prog f93 71 [] [(2, none)] mc_spec_l2Labels = true := by kernel_rfl
def mc_spec_l7Small : MCode :=
 .seq
 (.reg [
 ⟨some 2, none, .box 2 (.t 0)⟩,
 ⟨some 4, none, .mov (.v (.b false))⟩] [1, 2])
 (.seq
 (.reg [
 ⟨some 9, none, .load true 2 (.t 2)⟩,
 ⟨some 10, none, .call fid_spec_l2Labels false [.im] [(.t 9)]⟩,
 ⟨some 5, none, .mov (.t 10)⟩] [1, 2, 5])
 (.seq
 (.seq
 (.reg [
 ⟨some 6, none, .mov (.v (.i .i64 0))⟩] [1, 2, 5, 6])
 (.block 0
 (.loop [1, 2, 5, 6]
 (.seq
 (.seq
 (.reg [
 ⟨some 11, none, .mov (.t 6)⟩,
 ⟨some 12, none, .fieldAddr 0 (.t 2)⟩,
 ⟨some 13, none, .load false 1 (.t 12)⟩,
 ⟨some 14, none, .bin .lss (.t 11) (.t 13)⟩] [1, 2, 5, 6, 14])
 (.cond (.t 14)
 (.skip)
 (.exit 0)))
 (.seq
 (.block 1
 (.seq
 (.reg [
 ⟨some 7, none, .mov (.v (.i .i64 0))⟩] [1, 2, 5, 6, 7])
 (.seq
 (.seq
 (.reg [
 ⟨some 8, none, .mov (.v (.i .i64 0))⟩] [1, 2, 5, 6, 7, 8])
 (.block 2
 (.loop [1, 2, 5, 6, 7, 8]
 (.seq
 (.seq
 (.reg [
 ⟨some 17, none, .mov (.t 8)⟩,
 ⟨some 18, none, .fieldAddr 0 (.t 2)⟩,
 ⟨some 19, none, .load false 1 (.t 18)⟩,
 ⟨some 20, none, .bin .lss (.t 17) (.t 19)⟩] [1, 2, 5, 6, 7, 8, 20])
 (.cond (.t 20)
 (.skip)
 (.exit 2)))
 (.seq
 (.block 3
 (.seq
 (.draw [0, 0, 3, 7, 0, 0, 48, 112, 255] [
 ⟨some 23, none, .mov (.t 5)⟩,
 ⟨some 24, none, .mov (.t 8)⟩,
 ⟨some 25, none, .indexAddr 1 (.t 23) (.t 24)⟩,
 ⟨some 26, none, .load false 1 (.t 25)⟩,
 ⟨some 27, none, .mov (.t 5)⟩,
 ⟨some 28, none, .mov (.t 6)⟩,
 ⟨some 29, none, .indexAddr 1 (.t 27) (.t 28)⟩,
 ⟨some 30, none, .load false 1 (.t 29)⟩,
 ⟨some 31, none, .bin .eql (.t 26) (.t 30)⟩] [1, 2, 5, 6, 7, 8, 31])
 (.cond (.t 31)
 (.reg [
 ⟨some 32, none, .mov (.t 7)⟩,
 ⟨some 33, none, .bin .add (.t 32) (.v (.i .i64 1))⟩,
 ⟨some 7, none, .mov (.t 33)⟩] [1, 2, 5, 6, 7, 8])
 (.skip))))
 (.reg [
 ⟨some 21, none, .mov (.t 8)⟩,
 ⟨some 22, none, .bin .add (.t 21) (.v (.i .i64 1))⟩,
 ⟨some 8, none, .mov (.t 22)⟩] [1, 2, 5, 6, 7, 8]))))))
 (.seq
 (.reg [
 ⟨some 34, none, .mov (.t 7)⟩,
 ⟨some 35, none, .bin .gtr (.t 34) (.v (.i .i64 1))⟩,
 ⟨some 36, none, .mov (.t 35)⟩,
 ⟨some 37, (some (36, true)), .mov (.t 7)⟩,
 ⟨some 38, (some (36, true)), .mov (.t 1)⟩,
 ⟨some 39, (some (36, true)), .bin .gtr (.t 37) (.t 38)⟩,
 ⟨some 40, none, .pick (.t 36) (.t 39) (.v (.b false))⟩] [1, 2, 5, 6, 40])
 (.cond (.t 40)
 (.seq
 (.reg [
 ⟨some 4, none, .mov (.v (.b false))⟩] [4])
 (.ret))
 (.skip))))))
 (.reg [
 ⟨some 15, none, .mov (.t 6)⟩,
 ⟨some 16, none, .bin .add (.t 15) (.v (.i .i64 1))⟩,
 ⟨some 6, none, .mov (.t 16)⟩] [1, 2, 5, 6]))))))
 (.seq
 (.reg [
 ⟨some 4, none, .mov (.v (.b true))⟩] [4])
 (.ret))))
theorem get_spec_l7Small : prog.funcs[fid_spec_l7Small]? = some f94 := func94
theorem ok_spec_l7Small : okFn prog f94 41 [] [(4, none)] mc_spec_l7Small = true := by kernel_rfl
def mc_spec_l7Most : MCode :=
 .seq
 (.reg [
 ⟨some 4, none, .mov (.v (.i .i64 0))⟩] [0, 1])
 (.seq
 (.seq
 (.reg [
 ⟨some 5, none, .mov (.v (.i .i64 0))⟩] [0, 1, 5])
 (.block 0
 (.loop [0, 1, 5]
 (.seq
 (.seq
 (.reg [
 ⟨some 6, none, .mov (.t 5)⟩,
 ⟨some 7, none, .mov (.t 1)⟩,
 ⟨some 8, none, .bin .lss (.t 6) (.t 7)⟩] [0, 1, 5, 8])
 (.cond (.t 8)
 (.skip)
 (.exit 0)))
 (.seq
 (.block 1
 (.reg [
 ⟨some 11, none, .mov (.t 0)⟩,
 ⟨some 12, none, .bin .quo (.t 11) (.v (.i .i64 2))⟩,
 ⟨some 0, none, .mov (.t 12)⟩] [0, 1, 5]))
 (.reg [
 ⟨some 9, none, .mov (.t 5)⟩,
 ⟨some 10, none, .bin .add (.t 9) (.v (.i .i64 1))⟩,
 ⟨some 5, none, .mov (.t 10)⟩] [0, 1, 5]))))))
 (.seq
 (.reg [
 ⟨some 13, none, .mov (.t 0)⟩,
 ⟨some 4, none, .mov (.t 13)⟩] [4])
 (.ret)))
theorem get_spec_l7Most : prog.funcs[fid_spec_l7Most]? = some f95 := func95
theorem ok_spec_l7Most : okFn prog f95 14 [] [(4, none)] mc_spec_l7Most = true := by kernel_rfl
def mc_spec_l7Side : MCode :=
 .seq
 (.reg [
 ⟨some 3, none, .box 2 (.t 0)⟩,
 ⟨some 6, none, .mov (.v (.nl 1))⟩] [1, 2, 3])
 (.seq
 (.reg [
 ⟨some 9, none, .load true 2 (.t 3)⟩,
 ⟨some 10, none, .mov (.t 1)⟩,
 ⟨some 11, none, .call fid_spec_PartNodes false [.im, .im] [(.t 9), (.t 10)]⟩,
 ⟨some 7, none, .mov (.t 11)⟩] [2, 3, 7])
 (.seq
 (.reg [
 ⟨some 12, none, .load true 2 (.t 3)⟩,
 ⟨some 13, none, .mov (.t 2)⟩,
 ⟨some 14, none, .call fid_spec_PartNodes false [.im, .im] [(.t 12), (.t 13)]⟩,
 ⟨some 8, none, .mov (.t 14)⟩] [7, 8])
 (.seq
 (.seq
 (.reg [
 ⟨some 15, none, .mov (.t 8)⟩,
 ⟨some 16, none, .len (.t 15)⟩,
 ⟨some 17, none, .mov (.t 7)⟩,
 ⟨some 18, none, .len (.t 17)⟩,
 ⟨some 19, none, .bin .lss (.t 16) (.t 18)⟩] [7, 8, 19])
 (.cond (.t 19)
 (.seq
 (.reg [
 ⟨some 20, none, .mov (.t 8)⟩,
 ⟨some 6, none, .mov (.t 20)⟩] [6])
 (.ret))
 (.skip)))
 (.seq
 (.reg [
 ⟨some 21, none, .mov (.t 7)⟩,
 ⟨some 6, none, .mov (.t 21)⟩] [6])
 (.ret)))))
theorem get_spec_l7Side : prog.funcs[fid_spec_l7Side]? = some f97 := func97
theorem ok_spec_l7Side : okFn prog f97 22 [] [(6, none)] mc_spec_l7Side = true := by kernel_rfl
def mc_spec_l7Copy : MCode :=
 .seq
 (.reg [
 ⟨some 1, none, .box 4 (.t 0)⟩,
 ⟨some 2, none, .alloc [.i .i64 0, .nl 2, .nl 1, .nl 1]⟩] [1, 2])
 (.seq
 (.draw [0, 1, 3, 0, 0, 16, 63, 0, 0, 256, 1023, 2047, 4095] [
 ⟨some 3, none, .fieldAddr 0 (.t 1)⟩,
 ⟨some 4, none, .load true 2 (.t 3)⟩,
 ⟨some 5, none, .call fid_spec_l1Copy false [.im] [(.t 4)]⟩,
 ⟨some 6, none, .buildSlice 1 []⟩,
 ⟨some 7, none, .fieldAddr 2 (.t 1)⟩,
 ⟨some 8, none, .load false 1 (.t 7)⟩,
 ⟨some 9, none, .append 1 8 false (.t 6) (.t 8)⟩,
 ⟨some 10, none, .buildSlice 1 []⟩,
 ⟨some 11, none, .fieldAddr 3 (.t 1)⟩,
 ⟨some 12, none, .load false 1 (.t 11)⟩,
 ⟨some 13, none, .append 1 1 false (.t 10) (.t 12)⟩,
 ⟨some 14, none, .build [.i .i64 0, .nl 2, .nl 1, .nl 1] [(0, 2, (.t 5)), (2, 1, (.t 9)), (3, 1, (.t 13))]⟩,
 ⟨none, none, .store 4 (.t 2) (.t 14)⟩] [2])
 (.ret))
theorem get_spec_l7Copy : prog.funcs[fid_spec_l7Copy]? = some f98 := func98
theorem ok_spec_l7Copy : okFn prog f98 15 [] [(2, some (true, 4))] mc_spec_l7Copy = true := by kernel_rfl
def mc_spec_l6In : MCode :=
 .seq
 (.reg [
 ⟨some 4, none, .mov (.v (.b false))⟩] [0, 1])
 (.seq
 (.seq
 (.reg [
 ⟨some 5, none, .mov (.v (.i .i64 0))⟩] [0, 1, 5])
 (.block 0
 (.loop [0, 1, 5]
 (.seq
 (.seq
 (.reg [
 ⟨some 6, none, .mov (.t 5)⟩,
 ⟨some 7, none, .mov (.t 0)⟩,
 ⟨some 8, none, .len (.t 7)⟩,
 ⟨some 9, none, .bin .lss (.t 6) (.t 8)⟩] [0, 1, 5, 9])
 (.cond (.t 9)
 (.skip)
 (.exit 0)))
 (.seq
 (.block 1
 (.seq
 (.reg [
 ⟨some 12, none, .mov (.t 0)⟩,
 ⟨some 13, none, .mov (.t 5)⟩,
 ⟨some 14, none, .indexAddr 1 (.t 12) (.t 13)⟩,
 ⟨some 15, none, .load false 1 (.t 14)⟩,
 ⟨some 16, none, .mov (.t 1)⟩,
 ⟨some 17, none, .bin .eql (.t 15) (.t 16)⟩] [0, 1, 5, 17])
 (.cond (.t 17)
 (.seq
 (.reg [
 ⟨some 4, none, .mov (.v (.b true))⟩] [4])
 (.ret))
 (.skip))))
 (.reg [
 ⟨some 10, none, .mov (.t 5)⟩,
 ⟨some 11, none, .bin .add (.t 10) (.v (.i .i64 1))⟩,
 ⟨some 5, none, .mov (.t 11)⟩] [0, 1, 5]))))))
 (.seq
 (.reg [
 ⟨some 4, none, .mov (.v (.b false))⟩] [4])
 (.ret)))
theorem get_spec_l6In : prog.funcs[fid_spec_l6In]? = some f99 := func99
theorem ok_spec_l6In : okFn prog f99 18 [] [(4, none)] mc_spec_l6In = true := by kernel_rfl
def mc_spec_l7Of : MCode :=
 .seq
 (.reg [
 ⟨some 1, none, .box 2 (.t 0)⟩,
 ⟨some 2, none, .alloc [.i .i64 0, .nl 2, .nl 1, .nl 1]⟩] [1, 2])
 (.seq
 (.reg [
 ⟨some 5, none, .fieldAddr 0 (.t 1)⟩,
 ⟨some 6, none, .load false 1 (.t 5)⟩,
 ⟨some 7, none, .build [.i .i64 0, .nl 2] [(0, 1, (.t 6))]⟩,
 ⟨some 8, none, .build [.i .i64 0, .nl 2, .nl 1, .nl 1] [(0, 2, (.t 7))]⟩,
 ⟨some 3, none, .alloc [.i .i64 0, .nl 2, .nl 1, .nl 1]⟩,
 ⟨none, none, .store 4 (.t 3) (.t 8)⟩] [1, 2, 3])
 (.seq
 (.seq
 (.reg [
 ⟨some 4, none, .mov (.v (.i .i64 0))⟩] [1, 2, 3, 4])
 (.block 0
 (.loop [1, 2, 3, 4]
 (.seq
 (.seq
 (.reg [
 ⟨some 9, none, .mov (.t 4)⟩,
 ⟨some 10, none, .fieldAddr 1 (.t 1)⟩,
 ⟨some 11, none, .load false 1 (.t 10)⟩,
 ⟨some 12, none, .len (.t 11)⟩,
 ⟨some 13, none, .bin .lss (.t 9) (.t 12)⟩] [1, 2, 3, 4, 13])
 (.cond (.t 13)
 (.skip)
 (.exit 0)))
 (.seq
 (.block 1
 (.draw [0, 0, 2, 0, 14, 30, 0, 64, 0, 256, 0, 1792, 3840, 7936, 0, 16384, 0, 114688, 245760, 507904, 1048512, 2097088, 4194303, 8388607] [
 ⟨some 16, none, .load true 4 (.t 3)⟩,
 ⟨some 17, none, .fieldAddr 1 (.t 1)⟩,
 ⟨some 18, none, .load false 1 (.t 17)⟩,
 ⟨some 19, none, .mov (.t 4)⟩,
 ⟨some 20, none, .indexAddr 2 (.t 18) (.t 19)⟩,
 ⟨some 21, none, .load true 2 (.t 20)⟩,
 ⟨some 22, none, .fieldAddr 0 (.t 3)⟩,
 ⟨some 23, none, .load true 2 (.t 22)⟩,
 ⟨some 24, none, .fieldAddr 1 (.t 1)⟩,
 ⟨some 25, none, .load false 1 (.t 24)⟩,
 ⟨some 26, none, .mov (.t 4)⟩,
 ⟨some 27, none, .indexAddr 2 (.t 25) (.t 26)⟩,
 ⟨some 28, none, .fieldAddr 0 (.t 27)⟩,
 ⟨some 29, none, .load false 1 (.t 28)⟩,
 ⟨some 30, none, .fieldAddr 1 (.t 1)⟩,
 ⟨some 31, none, .load false 1 (.t 30)⟩,
 ⟨some 32, none, .mov (.t 4)⟩,
 ⟨some 33, none, .indexAddr 2 (.t 31) (.t 32)⟩,
 ⟨some 34, none, .fieldAddr 1 (.t 33)⟩,
 ⟨some 35, none, .load false 1 (.t 34)⟩,
 ⟨some 36, none, .call fid_spec_l2Joined false [.im, .im, .im] [(.t 23), (.t 29), (.t 35)]⟩,
 ⟨some 37, none, .un .not (.t 36)⟩,
 ⟨some 38, none, .call fid_spec_l7Put false [.im, .im, .im] [(.t 16), (.t 21), (.t 37)]⟩,
 ⟨none, none, .store 4 (.t 3) (.t 38)⟩] [1, 2, 3, 4]))
 (.reg [
 ⟨some 14, none, .mov (.t 4)⟩,
 ⟨some 15, none, .bin .add (.t 14) (.v (.i .i64 1))⟩,
 ⟨some 4, none, .mov (.t 15)⟩] [1, 2, 3, 4]))))))
 (.seq
 (.reg [
 ⟨some 39, none, .load true 4 (.t 3)⟩,
 ⟨none, none, .store 4 (.t 2) (.t 39)⟩] [2])
 (.ret))))
theorem get_spec_l7Of : prog.funcs[fid_spec_l7Of]? = some f108 := func108
theorem ok_spec_l7Of : okFn prog f108 40 [] [(2, some (true, 4))] mc_spec_l7Of = true := by kernel_rfl
def mc_spec_l1Draw : MCode :=
 .seq
 (.reg [
 ⟨some 2, none, .alloc [.i .i64 0, .nl 2]⟩] [0, 2])
 (.seq
 (.reg [
 ⟨some 8, none, .mov (.t 0)⟩,
 ⟨some 9, none, .buildSlice 1 [(.v (.i .i64 6)), (.v (.i .i64 5)), (.v (.i .i64 7)), (.v (.i .i64 4)), (.v (.i .i64 8)), (.v (.i .i64 10)), (.v (.i .i64 3)), (.v (.i .i64 1)), (.v (.i .i64 16))]⟩,
 ⟨some 10, none, .call fid_p_spec_l14Rd_num false [.io, .im] [(.t 8), (.t 9)]⟩,
 ⟨some 11, none, .build [.i .i64 0, .nl 2] [(0, 1, (.t 10))]⟩,
 ⟨some 3, none, .alloc [.i .i64 0, .nl 2]⟩,
 ⟨none, none, .store 2 (.t 3) (.t 11)⟩] [0, 2, 3])
 (.seq
 (.seq
 (.reg [
 ⟨some 4, none, .mov (.v (.i .i64 1))⟩] [0, 2, 3, 4])
 (.block 0
 (.loop [0, 2, 3, 4]
 (.seq
 (.seq
 (.reg [
 ⟨some 12, none, .mov (.t 4)⟩,
 ⟨some 13, none, .fieldAddr 0 (.t 3)⟩,
 ⟨some 14, none, .load false 1 (.t 13)⟩,
 ⟨some 15, none, .bin .lss (.t 12) (.t 14)⟩] [0, 2, 3, 4, 15])
 (.cond (.t 15)
 (.skip)
 (.exit 0)))
 (.seq
 (.block 1
 (.seq
 (.reg [
 ⟨some 18, none, .mov (.t 0)⟩,
 ⟨some 19, none, .call fid_p_spec_l14Rd_pick false [.io, .im] [(.t 18), (.v (.i .i64 4))]⟩,
 ⟨some 20, none, .bin .gtr (.t 19) (.v (.i .i64 0))⟩] [0, 2, 3, 4, 20])
 (.cond (.t 20)
 (.draw [0, 1, 0, 0, 12, 0, 60, 127, 255, 511] [
 ⟨some 21, none, .fieldAddr 1 (.t 3)⟩,
 ⟨some 22, none, .load false 1 (.t 21)⟩,
 ⟨some 23, none, .mov (.t 0)⟩,
 ⟨some 24, none, .mov (.t 4)⟩,
 ⟨some 25, none, .call fid_p_spec_l14Rd_pick false [.io, .im] [(.t 23), (.t 24)]⟩,
 ⟨some 26, none, .mov (.t 4)⟩,
 ⟨some 27, none, .call fid_spec_l1Edge false [.im, .im] [(.t 25), (.t 26)]⟩,
 ⟨some 28, none, .call fid_spec_l1Put false [.im, .im] [(.t 22), (.t 27)]⟩,
 ⟨some 29, none, .fieldAddr 1 (.t 3)⟩,
 ⟨none, none, .store 1 (.t 29) (.t 28)⟩] [0, 2, 3, 4])
 (.skip))))
 (.reg [
 ⟨some 16, none, .mov (.t 4)⟩,
 ⟨some 17, none, .bin .add (.t 16) (.v (.i .i64 1))⟩,
 ⟨some 4, none, .mov (.t 17)⟩] [0, 2, 3, 4]))))))
 (.seq
 (.seq
 (.reg [
 ⟨some 30, none, .mov (.t 0)⟩,
 ⟨some 31, none, .buildSlice 1 [(.v (.i .i64 2)), (.v (.i .i64 1)), (.v (.i .i64 3)), (.v (.i .i64 0)), (.v (.i .i64 5)), (.v (.i .i64 8))]⟩,
 ⟨some 32, none, .call fid_p_spec_l14Rd_num false [.io, .im] [(.t 30), (.t 31)]⟩,
 ⟨some 5, none, .mov (.t 32)⟩] [0, 2, 3, 5])
 (.block 2
 (.loop [0, 2, 3, 5]
 (.seq
 (.seq
 (.reg [
 ⟨some 33, none, .mov (.t 5)⟩,
 ⟨some 34, none, .bin .gtr (.t 33) (.v (.i .i64 0))⟩] [0, 2, 3, 5, 34])
 (.cond (.t 34)
 (.skip)
 (.exit 2)))
 (.seq
 (.block 3
 (.seq
 (.reg [
 ⟨some 37, none, .mov (.t 0)⟩,
 ⟨some 38, none, .fieldAddr 0 (.t 3)⟩,
 ⟨some 39, none, .load false 1 (.t 38)⟩,
 ⟨some 40, none, .call fid_p_spec_l14Rd_pick false [.io, .im] [(.t 37), (.t 39)]⟩,
 ⟨some 6, none, .mov (.t 40)⟩] [0, 2, 3, 5, 6])
 (.seq
 (.reg [
 ⟨some 41, none, .mov (.t 0)⟩,
 ⟨some 42, none, .fieldAddr 0 (.t 3)⟩,
 ⟨some 43, none, .load false 1 (.t 42)⟩,
 ⟨some 44, none, .call fid_p_spec_l14Rd_pick false [.io, .im] [(.t 41), (.t 43)]⟩,
 ⟨some 7, none, .mov (.t 44)⟩] [0, 2, 3, 5, 6, 7])
 (.seq
 (.draw [0, 0, 3, 7, 15, 31, 15, 15, 207, 511, 1023, 2047] [
 ⟨some 45, none, .mov (.t 6)⟩,
 ⟨some 46, none, .mov (.t 7)⟩,
 ⟨some 47, none, .bin .neq (.t 45) (.t 46)⟩,
 ⟨some 48, none, .mov (.t 47)⟩,
 ⟨some 49, (some (48, true)), .fieldAddr 1 (.t 3)⟩,
 ⟨some 50, (some (48, true)), .load false 1 (.t 49)⟩,
 ⟨some 51, (some (48, true)), .mov (.t 6)⟩,
 ⟨some 52, (some (48, true)), .mov (.t 7)⟩,
 ⟨some 53, (some (48, true)), .call fid_spec_l1Edge false [.im, .im] [(.t 51), (.t 52)]⟩,
 ⟨some 54, (some (48, true)), .call fid_spec_l1Find false [.im, .im] [(.t 50), (.t 53)]⟩,
 ⟨some 55, (some (48, true)), .bin .lss (.t 54) (.v (.i .i64 0))⟩,
 ⟨some 56, none, .pick (.t 48) (.t 55) (.v (.b false))⟩] [0, 2, 3, 5, 6, 7, 56])
 (.cond (.t 56)
 (.draw [0, 1, 0, 0, 12, 31, 63, 127] [
 ⟨some 57, none, .fieldAddr 1 (.t 3)⟩,
 ⟨some 58, none, .load false 1 (.t 57)⟩,
 ⟨some 59, none, .mov (.t 6)⟩,
 ⟨some 60, none, .mov (.t 7)⟩,
 ⟨some 61, none, .call fid_spec_l1Edge false [.im, .im] [(.t 59), (.t 60)]⟩,
 ⟨some 62, none, .call fid_spec_l1Put false [.im, .im] [(.t 58), (.t 61)]⟩,
 ⟨some 63, none, .fieldAddr 1 (.t 3)⟩,
 ⟨none, none, .store 1 (.t 63) (.t 62)⟩] [0, 2, 3, 5])
 (.skip))))))
 (.reg [
 ⟨some 35, none, .mov (.t 5)⟩,
 ⟨some 36, none, .bin .sub (.t 35) (.v (.i .i64 1))⟩,
 ⟨some 5, none, .mov (.t 36)⟩] [0, 2, 3, 5]))))))
 (.seq
 (.reg [
 ⟨some 64, none, .load true 2 (.t 3)⟩,
 ⟨none, none, .store 2 (.t 2) (.t 64)⟩] [0, 2])
 (.ret)))))
theorem get_spec_l1Draw : prog.funcs[fid_spec_l1Draw]? = some f109 := func109
theorem ok_spec_l1Draw : okFn prog f109 65 [0] [(2, some (true, 2))] mc_spec_l1Draw = true := by kernel_rfl
def mc_spec_l1Put : MCode :=
 .seq
 (.reg [
 ⟨some 3, none, .box 2 (.t 1)⟩,
 ⟨some 4, none, .mov (.v (.nl 2))⟩] [0, 3])
 (.seq
 (.reg [
 ⟨some 8, none, .buildSlice 2 []⟩,
 ⟨some 5, none, .mov (.t 8)⟩] [0, 3, 5])
 (.seq
 (.reg [
 ⟨some 6, none, .mov (.v (.b false))⟩] [0, 3, 5, 6])
 (.seq
 (.seq
 (.reg [
 ⟨some 7, none, .mov (.v (.i .i64 0))⟩] [0, 3, 5, 6, 7])
 (.block 0
 (.loop [0, 3, 5, 6, 7]
 (.seq
 (.seq
 (.reg [
 ⟨some 9, none, .mov (.t 7)⟩,
 ⟨some 10, none, .mov (.t 0)⟩,
 ⟨some 11, none, .len (.t 10)⟩,
 ⟨some 12, none, .bin .lss (.t 9) (.t 11)⟩] [0, 3, 5, 6, 7, 12])
 (.cond (.t 12)
 (.skip)
 (.exit 0)))
 (.seq
 (.block 1
 (.seq
 (.seq
 (.draw [0, 1, 3, 7, 7, 7, 55, 119, 255, 511] [
 ⟨some 15, none, .mov (.t 6)⟩,
 ⟨some 16, none, .un .not (.t 15)⟩,
 ⟨some 17, none, .mov (.t 16)⟩,
 ⟨some 18, (some (17, true)), .load true 2 (.t 3)⟩,
 ⟨some 19, (some (17, true)), .mov (.t 0)⟩,
 ⟨some 20, (some (17, true)), .mov (.t 7)⟩,
 ⟨some 21, (some (17, true)), .indexAddr 2 (.t 19) (.t 20)⟩,
 ⟨some 22, (some (17, true)), .load true 2 (.t 21)⟩,
 ⟨some 23, (some (17, true)), .call fid_spec_l1Less false [.im, .im] [(.t 18), (.t 22)]⟩,
 ⟨some 24, none, .pick (.t 17) (.t 23) (.v (.b false))⟩] [0, 3, 5, 6, 7, 24])
 (.cond (.t 24)
 (.seq
 (.reg [
 ⟨some 25, none, .mov (.t 5)⟩,
 ⟨some 26, none, .load true 2 (.t 3)⟩,
 ⟨some 27, none, .buildSlice 2 [(.t 26)]⟩,
 ⟨some 28, none, .append 2 16 true (.t 25) (.t 27)⟩,
 ⟨some 5, none, .mov (.t 28)⟩] [0, 3, 5, 7])
 (.reg [
 ⟨some 6, none, .mov (.v (.b true))⟩] [0, 3, 5, 6, 7]))
 (.skip)))
 (.reg [
 ⟨some 29, none, .mov (.t 5)⟩,
 ⟨some 30, none, .mov (.t 0)⟩,
 ⟨some 31, none, .mov (.t 7)⟩,
 ⟨some 32, none, .indexAddr 2 (.t 30) (.t 31)⟩,
 ⟨some 33, none, .load true 2 (.t 32)⟩,
 ⟨some 34, none, .buildSlice 2 [(.t 33)]⟩,
 ⟨some 35, none, .append 2 16 true (.t 29) (.t 34)⟩,
 ⟨some 5, none, .mov (.t 35)⟩] [0, 3, 5, 6, 7])))
 (.reg [
 ⟨some 13, none, .mov (.t 7)⟩,
 ⟨some 14, none, .bin .add (.t 13) (.v (.i .i64 1))⟩,
 ⟨some 7, none, .mov (.t 14)⟩] [0, 3, 5, 6, 7]))))))
 (.seq
 (.seq
 (.reg [
 ⟨some 36, none, .mov (.t 6)⟩,
 ⟨some 37, none, .un .not (.t 36)⟩] [3, 5, 37])
 (.cond (.t 37)
 (.reg [
 ⟨some 38, none, .mov (.t 5)⟩,
 ⟨some 39, none, .load true 2 (.t 3)⟩,
 ⟨some 40, none, .buildSlice 2 [(.t 39)]⟩,
 ⟨some 41, none, .append 2 16 true (.t 38) (.t 40)⟩,
 ⟨some 5, none, .mov (.t 41)⟩] [5])
 (.skip)))
 (.seq
 (.reg [
 ⟨some 42, none, .mov (.t 5)⟩,
 ⟨some 4, none, .mov (.t 42)⟩] [4])
 (.ret))))))
theorem get_spec_l1Put : prog.funcs[fid_spec_l1Put]? = some f114 := func114
theorem ok_spec_l1Put : okFn prog f114 43 [] [(4, none)] mc_spec_l1Put = true := by kernel_rfl
def mc_spec_l1Less : MCode :=
 .seq
 (.reg [
 ⟨some 2, none, .box 2 (.t 0)⟩,
 ⟨some 3, none, .box 2 (.t 1)⟩,
 ⟨some 4, none, .mov (.v (.b false))⟩] [2, 3])
 (.seq
 (.reg [
 ⟨some 5, none, .fieldAddr 0 (.t 2)⟩,
 ⟨some 6, none, .load false 1 (.t 5)⟩,
 ⟨some 7, none, .fieldAddr 0 (.t 3)⟩,
 ⟨some 8, none, .load false 1 (.t 7)⟩,
 ⟨some 9, none, .bin .lss (.t 6) (.t 8)⟩,
 ⟨some 10, none, .mov (.t 9)⟩,
 ⟨some 11, (some (10, false)), .fieldAddr 0 (.t 2)⟩,
 ⟨some 12, (some (10, false)), .load false 1 (.t 11)⟩,
 ⟨some 13, (some (10, false)), .fieldAddr 0 (.t 3)⟩,
 ⟨some 14, (some (10, false)), .load false 1 (.t 13)⟩,
 ⟨some 15, (some (10, false)), .bin .eql (.t 12) (.t 14)⟩,
 ⟨some 16, (some (10, false)), .mov (.t 15)⟩,
 ⟨some 17, (some (16, true)), .fieldAddr 1 (.t 2)⟩,
 ⟨some 18, (some (16, true)), .load false 1 (.t 17)⟩,
 ⟨some 19, (some (16, true)), .fieldAddr 1 (.t 3)⟩,
 ⟨some 20, (some (16, true)), .load false 1 (.t 19)⟩,
 ⟨some 21, (some (16, true)), .bin .lss (.t 18) (.t 20)⟩,
 ⟨some 22, (some (10, false)), .pick (.t 16) (.t 21) (.v (.b false))⟩,
 ⟨some 23, none, .pick (.t 10) (.v (.b true)) (.t 22)⟩,
 ⟨some 4, none, .mov (.t 23)⟩] [4])
 (.ret))
theorem get_spec_l1Less : prog.funcs[fid_spec_l1Less]? = some f120 := func120
theorem ok_spec_l1Less : okFn prog f120 24 [] [(4, none)] mc_spec_l1Less = true := by kernel_rfl
def mc_spec_l2Forest : MCode :=
 .seq
 (.reg [
 ⟨some 4, none, .mov (.v (.nl 2))⟩] [0, 1])
 (.seq
 (.reg [
 ⟨some 7, none, .buildSlice 2 []⟩,
 ⟨some 5, none, .mov (.t 7)⟩] [0, 1, 5])
 (.seq
 (.seq
 (.reg [
 ⟨some 6, none, .mov (.v (.i .i64 0))⟩] [0, 1, 5, 6])
 (.block 0
 (.loop [0, 1, 5, 6]
 (.seq
 (.seq
 (.reg [
 ⟨some 8, none, .mov (.t 6)⟩,
 ⟨some 9, none, .mov (.t 1)⟩,
 ⟨some 10, none, .len (.t 9)⟩,
 ⟨some 11, none, .bin .lss (.t 8) (.t 10)⟩] [0, 1, 5, 6, 11])
 (.cond (.t 11)
 (.skip)
 (.exit 0)))
 (.seq
 (.block 1
 (.seq
 (.draw [0, 0, 3, 0, 0, 24, 56, 120, 0, 0, 768, 1792, 3840, 8191, 16383] [
 ⟨some 14, none, .mov (.t 0)⟩,
 ⟨some 15, none, .mov (.t 5)⟩,
 ⟨some 16, none, .build [.i .i64 0, .nl 2] [(0, 1, (.t 14)), (1, 1, (.t 15))]⟩,
 ⟨some 17, none, .mov (.t 1)⟩,
 ⟨some 18, none, .mov (.t 6)⟩,
 ⟨some 19, none, .indexAddr 2 (.t 17) (.t 18)⟩,
 ⟨some 20, none, .fieldAddr 0 (.t 19)⟩,
 ⟨some 21, none, .load false 1 (.t 20)⟩,
 ⟨some 22, none, .mov (.t 1)⟩,
 ⟨some 23, none, .mov (.t 6)⟩,
 ⟨some 24, none, .indexAddr 2 (.t 22) (.t 23)⟩,
 ⟨some 25, none, .fieldAddr 1 (.t 24)⟩,
 ⟨some 26, none, .load false 1 (.t 25)⟩,
 ⟨some 27, none, .call fid_spec_l2Joined false [.im, .im, .im] [(.t 16), (.t 21), (.t 26)]⟩,
 ⟨some 28, none, .un .not (.t 27)⟩] [0, 1, 5, 6, 28])
 (.cond (.t 28)
 (.reg [
 ⟨some 29, none, .mov (.t 5)⟩,
 ⟨some 30, none, .mov (.t 1)⟩,
 ⟨some 31, none, .mov (.t 6)⟩,
 ⟨some 32, none, .indexAddr 2 (.t 30) (.t 31)⟩,
 ⟨some 33, none, .load true 2 (.t 32)⟩,
 ⟨some 34, none, .buildSlice 2 [(.t 33)]⟩,
 ⟨some 35, none, .append 2 16 true (.t 29) (.t 34)⟩,
 ⟨some 5, none, .mov (.t 35)⟩] [0, 1, 5, 6])
 (.skip))))
 (.reg [
 ⟨some 12, none, .mov (.t 6)⟩,
 ⟨some 13, none, .bin .add (.t 12) (.v (.i .i64 1))⟩,
 ⟨some 6, none, .mov (.t 13)⟩] [0, 1, 5, 6]))))))
 (.seq
 (.reg [
 ⟨some 36, none, .mov (.t 5)⟩,
 ⟨some 4, none, .mov (.t 36)⟩] [4])
 (.ret))))
theorem get_spec_l2Forest : prog.funcs[fid_spec_l2Forest]? = some f121 := func121
theorem ok_spec_l2Forest : okFn prog f121 37 [] [(4, none)] mc_spec_l2Forest = true := by kernel_rfl
def mc_spec_PartNodes : MCode :=
 .seq
 (.reg [
 ⟨some 2, none, .box 2 (.t 0)⟩,
 ⟨some 4, none, .mov (.v (.nl 1))⟩] [1, 2])
 (.seq
 (.reg [
 ⟨some 8, none, .buildSlice 1 []⟩,
 ⟨some 5, none, .mov (.t 8)⟩] [1, 2, 5])
 (.seq
 (.seq
 (.reg [
 ⟨some 9, none, .load true 2 (.t 2)⟩,
 ⟨some 10, none, .mov (.t 1)⟩,
 ⟨some 11, none, .call fid_spec_l2Node false [.im, .im] [(.t 9), (.t 10)]⟩,
 ⟨some 12, none, .un .not (.t 11)⟩] [1, 2, 5, 12])
 (.cond (.t 12)
 (.seq
 (.reg [
 ⟨some 13, none, .mov (.t 5)⟩,
 ⟨some 4, none, .mov (.t 13)⟩] [4])
 (.ret))
 (.skip)))
 (.seq
 (.reg [
 ⟨some 14, none, .load true 2 (.t 2)⟩,
 ⟨some 15, none, .call fid_spec_l2Labels false [.im] [(.t 14)]⟩,
 ⟨some 6, none, .mov (.t 15)⟩] [1, 5, 6])
 (.seq
 (.seq
 (.reg [
 ⟨some 7, none, .mov (.v (.i .i64 0))⟩] [1, 5, 6, 7])
 (.block 0
 (.loop [1, 5, 6, 7]
 (.seq
 (.seq
 (.reg [
 ⟨some 16, none, .mov (.t 7)⟩,
 ⟨some 17, none, .mov (.t 6)⟩,
 ⟨some 18, none, .len (.t 17)⟩,
 ⟨some 19, none, .bin .lss (.t 16) (.t 18)⟩] [1, 5, 6, 7, 19])
 (.cond (.t 19)
 (.skip)
 (.exit 0)))
 (.seq
 (.block 1
 (.seq
 (.draw [0, 0, 3, 7, 0, 0, 48, 112, 255] [
 ⟨some 22, none, .mov (.t 6)⟩,
 ⟨some 23, none, .mov (.t 7)⟩,
 ⟨some 24, none, .indexAddr 1 (.t 22) (.t 23)⟩,
 ⟨some 25, none, .load false 1 (.t 24)⟩,
 ⟨some 26, none, .mov (.t 6)⟩,
 ⟨some 27, none, .mov (.t 1)⟩,
 ⟨some 28, none, .indexAddr 1 (.t 26) (.t 27)⟩,
 ⟨some 29, none, .load false 1 (.t 28)⟩,
 ⟨some 30, none, .bin .eql (.t 25) (.t 29)⟩] [1, 5, 6, 7, 30])
 (.cond (.t 30)
 (.reg [
 ⟨some 31, none, .mov (.t 5)⟩,
 ⟨some 32, none, .mov (.t 7)⟩,
 ⟨some 33, none, .buildSlice 1 [(.t 32)]⟩,
 ⟨some 34, none, .append 1 8 true (.t 31) (.t 33)⟩,
 ⟨some 5, none, .mov (.t 34)⟩] [1, 5, 6, 7])
 (.skip))))
 (.reg [
 ⟨some 20, none, .mov (.t 7)⟩,
 ⟨some 21, none, .bin .add (.t 20) (.v (.i .i64 1))⟩,
 ⟨some 7, none, .mov (.t 21)⟩] [1, 5, 6, 7]))))))
 (.seq
 (.reg [
 ⟨some 35, none, .mov (.t 5)⟩,
 ⟨some 4, none, .mov (.t 35)⟩] [4])
 (.ret))))))
theorem get_spec_PartNodes : prog.funcs[fid_spec_PartNodes]? = some f122 := func122
theorem ok_spec_PartNodes : okFn prog f122 36 [] [(4, none)] mc_spec_PartNodes = true := by kernel_rfl
def mc_spec_l1Copy : MCode :=
 .seq
 (.reg [
 ⟨some 1, none, .box 2 (.t 0)⟩,
 ⟨some 2, none, .alloc [.i .i64 0, .nl 2]⟩] [1, 2])
 (.seq
 (.draw [0, 1, 0, 0, 8, 28, 63, 127] [
 ⟨some 3, none, .fieldAddr 0 (.t 1)⟩,
 ⟨some 4, none, .load false 1 (.t 3)⟩,
 ⟨some 5, none, .buildSlice 2 []⟩,
 ⟨some 6, none, .fieldAddr 1 (.t 1)⟩,
 ⟨some 7, none, .load false 1 (.t 6)⟩,
 ⟨some 8, none, .append 2 16 false (.t 5) (.t 7)⟩,
 ⟨some 9, none, .build [.i .i64 0, .nl 2] [(0, 1, (.t 4)), (1, 1, (.t 8))]⟩,
 ⟨none, none, .store 2 (.t 2) (.t 9)⟩] [2])
 (.ret))
theorem get_spec_l1Copy : prog.funcs[fid_spec_l1Copy]? = some f123 := func123
theorem ok_spec_l1Copy : okFn prog f123 10 [] [(2, some (true, 2))] mc_spec_l1Copy = true := by kernel_rfl
def mc_spec_l2Node : MCode :=
 .seq
 (.reg [
 ⟨some 2, none, .box 2 (.t 0)⟩,
 ⟨some 4, none, .mov (.v (.b false))⟩] [1, 2])
 (.seq
 (.reg [
 ⟨some 5, none, .load true 2 (.t 2)⟩,
 ⟨some 6, none, .call fid_spec_GraphValid false [.im] [(.t 5)]⟩,
 ⟨some 7, none, .mov (.t 6)⟩,
 ⟨some 8, (some (7, true)), .mov (.t 1)⟩,
 ⟨some 9, (some (7, true)), .bin .geq (.t 8) (.v (.i .i64 0))⟩,
 ⟨some 10, none, .pick (.t 7) (.t 9) (.v (.b false))⟩,
 ⟨some 11, none, .mov (.t 10)⟩,
 ⟨some 12, (some (11, true)), .mov (.t 1)⟩,
 ⟨some 13, (some (11, true)), .fieldAddr 0 (.t 2)⟩,
 ⟨some 14, (some (11, true)), .load false 1 (.t 13)⟩,
 ⟨some 15, (some (11, true)), .bin .lss (.t 12) (.t 14)⟩,
 ⟨some 16, none, .pick (.t 11) (.t 15) (.v (.b false))⟩,
 ⟨some 4, none, .mov (.t 16)⟩] [4])
 (.ret))
theorem get_spec_l2Node : prog.funcs[fid_spec_l2Node]? = some f130 := func130
theorem ok_spec_l2Node : okFn prog f130 17 [] [(4, none)] mc_spec_l2Node = true := by kernel_rfl

end Go.Fw
