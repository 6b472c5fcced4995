/-
  The code of the statement FnCyclesOf, as the model's own. Printed by a program.
-/
import Derived.Test.YtjklefjjmfpnoaaCf
namespace Go.Fw
open Go.Proofs.Try
set_option maxRecDepth 100000
def mc_laws_FnCyclesOf : MCode :=
 .seq
 (.reg [
 ⟨some 2, none, .mov (.v (.b false))⟩] [0])
 (.seq
 (.seq
 (.reg [
 ⟨some 15, none, .mov (.t 0)⟩,
 ⟨some 16, none, .len (.t 15)⟩,
 ⟨some 17, none, .bin .gtr (.t 16) (.v (.i .i64 1048576))⟩] [0, 17])
 (.cond (.t 17)
 (.seq
 (.reg [
 ⟨some 2, none, .mov (.v (.b true))⟩] [2])
 (.ret))
 (.skip)))
 (.seq
 (.reg [
 ⟨some 18, none, .mov (.t 0)⟩,
 ⟨some 19, none, .call fid_spec_DrawCyclesOf false [.im] [(.t 18)]⟩,
 ⟨some 3, none, .alloc [.i .i64 0, .nl 2]⟩,
 ⟨none, none, .store 2 (.t 3) (.t 19)⟩] [3])
 (.seq
 (.reg [
 ⟨some 20, none, .load true 2 (.t 3)⟩,
 ⟨some 21, none, .call fid_impl_CyclesOf false [.im] [(.t 20)]⟩,
 ⟨some 4, none, .mov (.t 21)⟩] [3, 4])
 (.seq
 (.seq
 (.reg [
 ⟨some 22, none, .mov (.t 4)⟩,
 ⟨some 23, none, .load true 2 (.t 3)⟩,
 ⟨some 24, none, .call fid_spec_CyclesOf false [.im] [(.t 23)]⟩,
 ⟨some 25, none, .call fid_laws_dyLists false [.im, .im] [(.t 22), (.t 24)]⟩,
 ⟨some 26, none, .un .not (.t 25)⟩,
 ⟨some 27, none, .mov (.t 26)⟩,
 ⟨some 28, (some (27, false)), .load true 2 (.t 3)⟩,
 ⟨some 29, (some (27, false)), .call fid_impl_GraphValid false [.im] [(.t 28)]⟩,
 ⟨some 30, (some (27, false)), .un .not (.t 29)⟩,
 ⟨some 31, none, .pick (.t 27) (.v (.b true)) (.t 30)⟩] [3, 4, 31])
 (.cond (.t 31)
 (.seq
 (.reg [
 ⟨some 32, none, .mov (.t 4)⟩,
 ⟨some 33, none, .load true 2 (.t 3)⟩,
 ⟨some 34, none, .call fid_spec_CyclesOf false [.im] [(.t 33)]⟩,
 ⟨some 35, none, .call fid_laws_dyLists false [.im, .im] [(.t 32), (.t 34)]⟩,
 ⟨some 36, none, .mov (.t 35)⟩,
 ⟨some 37, (some (36, true)), .mov (.t 4)⟩,
 ⟨some 38, (some (36, true)), .len (.t 37)⟩,
 ⟨some 39, (some (36, true)), .bin .eql (.t 38) (.v (.i .i64 0))⟩,
 ⟨some 40, none, .pick (.t 36) (.t 39) (.v (.b false))⟩,
 ⟨some 2, none, .mov (.t 40)⟩] [2])
 (.ret))
 (.skip)))
 (.seq
 (.seq
 (.reg [
 ⟨some 5, none, .mov (.v (.i .i64 0))⟩] [3, 4, 5])
 (.block 0
 (.loop [3, 4, 5]
 (.seq
 (.seq
 (.reg [
 ⟨some 41, none, .mov (.t 5)⟩,
 ⟨some 42, none, .mov (.t 4)⟩,
 ⟨some 43, none, .len (.t 42)⟩,
 ⟨some 44, none, .bin .lss (.t 41) (.t 43)⟩] [3, 4, 5, 44])
 (.cond (.t 44)
 (.skip)
 (.exit 0)))
 (.seq
 (.block 1
 (.seq
 (.reg [
 ⟨some 47, none, .mov (.t 4)⟩,
 ⟨some 48, none, .mov (.t 5)⟩,
 ⟨some 49, none, .indexAddr 1 (.t 47) (.t 48)⟩,
 ⟨some 50, none, .load false 1 (.t 49)⟩,
 ⟨some 6, none, .mov (.t 50)⟩] [3, 4, 5, 6])
 (.seq
 (.seq
 (.reg [
 ⟨some 7, none, .mov (.v (.i .i64 0))⟩] [3, 4, 5, 6, 7])
 (.block 2
 (.loop [3, 4, 5, 6, 7]
 (.seq
 (.seq
 (.reg [
 ⟨some 51, none, .mov (.t 7)⟩,
 ⟨some 52, none, .mov (.t 6)⟩,
 ⟨some 53, none, .len (.t 52)⟩,
 ⟨some 54, none, .bin .lss (.t 51) (.t 53)⟩] [3, 4, 5, 6, 7, 54])
 (.cond (.t 54)
 (.skip)
 (.exit 2)))
 (.seq
 (.block 3
 (.seq
 (.draw [0, 0, 3, 7, 0, 0, 32, 0, 128, 480, 1008, 2032, 4095, 8191, 16383, 16383, 0, 98303, 262143] [
 ⟨some 58, none, .mov (.t 6)⟩,
 ⟨some 59, none, .mov (.t 7)⟩,
 ⟨some 60, none, .indexAddr 1 (.t 58) (.t 59)⟩,
 ⟨some 61, none, .load false 1 (.t 60)⟩,
 ⟨some 62, none, .mov (.t 6)⟩,
 ⟨some 63, none, .mov (.t 7)⟩,
 ⟨some 64, none, .bin .add (.t 63) (.v (.i .i64 1))⟩,
 ⟨some 65, none, .mov (.t 6)⟩,
 ⟨some 66, none, .len (.t 65)⟩,
 ⟨some 67, none, .bin .rem (.t 64) (.t 66)⟩,
 ⟨some 68, none, .indexAddr 1 (.t 62) (.t 67)⟩,
 ⟨some 69, none, .load false 1 (.t 68)⟩,
 ⟨some 70, none, .call fid_impl_EdgeOf false [.im, .im] [(.t 61), (.t 69)]⟩,
 ⟨some 57, none, .mov (.t 70)⟩,
 ⟨some 71, none, .extract (.t 57) 0⟩,
 ⟨some 72, none, .extract (.t 57) 1⟩,
 ⟨some 8, none, .alloc [.i .i64 0, .i .i64 0]⟩,
 ⟨none, none, .store 2 (.t 8) (.t 71)⟩,
 ⟨some 9, none, .mov (.t 72)⟩] [3, 4, 5, 6, 7, 8, 9])
 (.seq
 (.draw [0, 1, 3, 7, 7, 31, 63, 127, 255, 511, 511, 2047, 511, 511, 12799, 29183, 65535, 131071] [
 ⟨some 73, none, .mov (.t 9)⟩,
 ⟨some 74, none, .un .not (.t 73)⟩,
 ⟨some 75, none, .mov (.t 74)⟩,
 ⟨some 76, (some (75, false)), .load true 2 (.t 3)⟩,
 ⟨some 77, (some (75, false)), .load true 2 (.t 8)⟩,
 ⟨some 78, (some (75, false)), .call fid_impl_HasEdge false [.im, .im] [(.t 76), (.t 77)]⟩,
 ⟨some 79, (some (75, false)), .un .not (.t 78)⟩,
 ⟨some 80, none, .pick (.t 75) (.v (.b true)) (.t 79)⟩,
 ⟨some 81, none, .mov (.t 80)⟩,
 ⟨some 82, (some (81, false)), .mov (.t 6)⟩,
 ⟨some 83, (some (81, false)), .mov (.t 7)⟩,
 ⟨some 84, (some (81, false)), .slice 1 (.t 82) none (some (.t 83))⟩,
 ⟨some 85, (some (81, false)), .mov (.t 6)⟩,
 ⟨some 86, (some (81, false)), .mov (.t 7)⟩,
 ⟨some 87, (some (81, false)), .indexAddr 1 (.t 85) (.t 86)⟩,
 ⟨some 88, (some (81, false)), .load false 1 (.t 87)⟩,
 ⟨some 89, (some (81, false)), .call fid_laws_dyIn false [.im, .im] [(.t 84), (.t 88)]⟩,
 ⟨some 90, none, .pick (.t 81) (.v (.b true)) (.t 89)⟩] [3, 4, 5, 6, 7, 90])
 (.cond (.t 90)
 (.seq
 (.reg [
 ⟨some 2, none, .mov (.v (.b false))⟩] [2])
 (.ret))
 (.skip)))))
 (.reg [
 ⟨some 55, none, .mov (.t 7)⟩,
 ⟨some 56, none, .bin .add (.t 55) (.v (.i .i64 1))⟩,
 ⟨some 7, none, .mov (.t 56)⟩] [3, 4, 5, 6, 7]))))))
 (.seq
 (.draw [0, 1, 3, 0, 8, 24, 63, 127, 255, 255, 0, 1535, 4095] [
 ⟨some 92, none, .mov (.t 6)⟩,
 ⟨some 93, none, .indexAddr 1 (.t 92) (.v (.i .i64 0))⟩,
 ⟨some 94, none, .load false 1 (.t 93)⟩,
 ⟨some 95, none, .mov (.t 6)⟩,
 ⟨some 96, none, .indexAddr 1 (.t 95) (.v (.i .i64 1))⟩,
 ⟨some 97, none, .load false 1 (.t 96)⟩,
 ⟨some 98, none, .call fid_impl_EdgeOf false [.im, .im] [(.t 94), (.t 97)]⟩,
 ⟨some 91, none, .mov (.t 98)⟩,
 ⟨some 99, none, .extract (.t 91) 0⟩,
 ⟨some 100, none, .extract (.t 91) 1⟩,
 ⟨some 10, none, .alloc [.i .i64 0, .i .i64 0]⟩,
 ⟨none, none, .store 2 (.t 10) (.t 99)⟩,
 ⟨some 11, none, .mov (.t 100)⟩] [3, 4, 5, 10])
 (.seq
 (.reg [
 ⟨some 12, none, .mov (.v (.i .i64 0))⟩] [3, 4, 5, 10, 12])
 (.block 4
 (.loop [3, 4, 5, 10, 12]
 (.seq
 (.seq
 (.reg [
 ⟨some 101, none, .mov (.t 12)⟩,
 ⟨some 102, none, .mov (.t 4)⟩,
 ⟨some 103, none, .len (.t 102)⟩,
 ⟨some 104, none, .bin .lss (.t 101) (.t 103)⟩] [3, 4, 5, 10, 12, 104])
 (.cond (.t 104)
 (.skip)
 (.exit 4)))
 (.seq
 (.block 5
 (.seq
 (.draw [0, 0, 0, 6, 14, 31, 0, 0, 192, 448, 960, 1984, 4032, 8191, 16383, 32767, 65535, 65535, 131071, 524287] [
 ⟨some 108, none, .buildSlice 1 []⟩,
 ⟨some 109, none, .mov (.t 4)⟩,
 ⟨some 110, none, .mov (.t 12)⟩,
 ⟨some 111, none, .indexAddr 1 (.t 109) (.t 110)⟩,
 ⟨some 112, none, .load false 1 (.t 111)⟩,
 ⟨some 113, none, .append 1 8 false (.t 108) (.t 112)⟩,
 ⟨some 114, none, .mov (.t 4)⟩,
 ⟨some 115, none, .mov (.t 12)⟩,
 ⟨some 116, none, .indexAddr 1 (.t 114) (.t 115)⟩,
 ⟨some 117, none, .load false 1 (.t 116)⟩,
 ⟨some 118, none, .indexAddr 1 (.t 117) (.v (.i .i64 0))⟩,
 ⟨some 119, none, .load false 1 (.t 118)⟩,
 ⟨some 120, none, .buildSlice 1 [(.t 119)]⟩,
 ⟨some 121, none, .append 1 8 true (.t 113) (.t 120)⟩,
 ⟨some 122, none, .call fid_impl_ChainEdges false [.im] [(.t 121)]⟩,
 ⟨some 107, none, .mov (.t 122)⟩,
 ⟨some 123, none, .extract (.t 107) 0⟩,
 ⟨some 124, none, .extract (.t 107) 1⟩,
 ⟨some 13, none, .mov (.t 123)⟩,
 ⟨some 14, none, .mov (.t 124)⟩] [3, 4, 5, 10, 12, 13])
 (.seq
 (.reg [
 ⟨some 125, none, .mov (.t 12)⟩,
 ⟨some 126, none, .mov (.t 5)⟩,
 ⟨some 127, none, .bin .neq (.t 125) (.t 126)⟩,
 ⟨some 128, none, .mov (.t 127)⟩,
 ⟨some 129, (some (128, true)), .mov (.t 13)⟩,
 ⟨some 130, (some (128, true)), .load true 2 (.t 10)⟩,
 ⟨some 131, (some (128, true)), .call fid_laws_dyHas false [.im, .im] [(.t 129), (.t 130)]⟩,
 ⟨some 132, none, .pick (.t 128) (.t 131) (.v (.b false))⟩] [3, 4, 5, 10, 12, 132])
 (.cond (.t 132)
 (.seq
 (.reg [
 ⟨some 2, none, .mov (.v (.b false))⟩] [2])
 (.ret))
 (.skip)))))
 (.reg [
 ⟨some 105, none, .mov (.t 12)⟩,
 ⟨some 106, none, .bin .add (.t 105) (.v (.i .i64 1))⟩,
 ⟨some 12, none, .mov (.t 106)⟩] [3, 4, 5, 10, 12]))))))))))
 (.reg [
 ⟨some 45, none, .mov (.t 5)⟩,
 ⟨some 46, none, .bin .add (.t 45) (.v (.i .i64 1))⟩,
 ⟨some 5, none, .mov (.t 46)⟩] [3, 4, 5]))))))
 (.seq
 (.reg [
 ⟨some 133, none, .mov (.t 4)⟩,
 ⟨some 134, none, .len (.t 133)⟩,
 ⟨some 135, none, .load true 2 (.t 3)⟩,
 ⟨some 136, none, .call fid_impl_ChainsOf false [.im] [(.t 135)]⟩,
 ⟨some 137, none, .len (.t 136)⟩,
 ⟨some 138, none, .bin .eql (.t 134) (.t 137)⟩,
 ⟨some 2, none, .mov (.t 138)⟩] [2])
 (.ret)))))))
theorem get_laws_FnCyclesOf : prog.funcs[fid_laws_FnCyclesOf]? = some f3 := func3
theorem ok_laws_FnCyclesOf : okFn prog f3 139 [] [(2, none)] mc_laws_FnCyclesOf = true := by kernel_rfl

end Go.Fw
