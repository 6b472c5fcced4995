/-
  The code of the statement FnCyclesSafe, as the model's own. Printed by a program.
-/
import Derived.Test.YtjklefjjmfpnoaaCf
namespace Go.Fw
open Go.Proofs.Try
set_option maxRecDepth 100000
def mc_laws_FnCyclesSafe : MCode :=
 .seq
 (.reg [
 ⟨some 2, none, .mov (.v (.b false))⟩] [0])
 (.seq
 (.seq
 (.reg [
 ⟨some 10, none, .mov (.t 0)⟩,
 ⟨some 11, none, .len (.t 10)⟩,
 ⟨some 12, none, .bin .gtr (.t 11) (.v (.i .i64 1048576))⟩] [0, 12])
 (.cond (.t 12)
 (.seq
 (.reg [
 ⟨some 2, none, .mov (.v (.b true))⟩] [2])
 (.ret))
 (.skip)))
 (.seq
 (.reg [
 ⟨some 13, none, .mov (.t 0)⟩,
 ⟨some 14, none, .call fid_spec_DrawCyclesOf false [.im] [(.t 13)]⟩,
 ⟨some 3, none, .alloc [.i .i64 0, .nl 2]⟩,
 ⟨none, none, .store 2 (.t 3) (.t 14)⟩] [3])
 (.seq
 (.reg [
 ⟨some 15, none, .load true 2 (.t 3)⟩,
 ⟨some 16, none, .call fid_impl_CyclesOf false [.im] [(.t 15)]⟩,
 ⟨some 4, none, .mov (.t 16)⟩] [3, 4])
 (.seq
 (.seq
 (.reg [
 ⟨some 17, none, .mov (.t 4)⟩,
 ⟨some 18, none, .load true 2 (.t 3)⟩,
 ⟨some 19, none, .call fid_spec_CyclesOf false [.im] [(.t 18)]⟩,
 ⟨some 20, none, .call fid_laws_dyLists false [.im, .im] [(.t 17), (.t 19)]⟩,
 ⟨some 21, none, .un .not (.t 20)⟩,
 ⟨some 22, none, .mov (.t 21)⟩,
 ⟨some 23, (some (22, false)), .load true 2 (.t 3)⟩,
 ⟨some 24, (some (22, false)), .call fid_impl_GraphValid false [.im] [(.t 23)]⟩,
 ⟨some 25, (some (22, false)), .un .not (.t 24)⟩,
 ⟨some 26, none, .pick (.t 22) (.v (.b true)) (.t 25)⟩] [3, 4, 26])
 (.cond (.t 26)
 (.seq
 (.reg [
 ⟨some 27, none, .mov (.t 4)⟩,
 ⟨some 28, none, .load true 2 (.t 3)⟩,
 ⟨some 29, none, .call fid_spec_CyclesOf false [.im] [(.t 28)]⟩,
 ⟨some 30, none, .call fid_laws_dyLists false [.im, .im] [(.t 27), (.t 29)]⟩,
 ⟨some 2, none, .mov (.t 30)⟩] [2])
 (.ret))
 (.skip)))
 (.seq
 (.seq
 (.reg [
 ⟨some 5, none, .mov (.v (.i .i64 0))⟩] [3, 4, 5])
 (.block 0
 (.loop [3, 4, 5]
 (.seq
 (.seq
 (.reg [
 ⟨some 31, none, .mov (.t 5)⟩,
 ⟨some 32, none, .fieldAddr 1 (.t 3)⟩,
 ⟨some 33, none, .load false 1 (.t 32)⟩,
 ⟨some 34, none, .len (.t 33)⟩,
 ⟨some 35, none, .bin .lss (.t 31) (.t 34)⟩] [3, 4, 5, 35])
 (.cond (.t 35)
 (.skip)
 (.exit 0)))
 (.seq
 (.block 1
 (.seq
 (.reg [
 ⟨some 6, none, .mov (.v (.b false))⟩] [3, 4, 5, 6])
 (.seq
 (.seq
 (.reg [
 ⟨some 7, none, .mov (.v (.i .i64 0))⟩] [3, 4, 5, 6, 7])
 (.block 2
 (.loop [3, 4, 5, 6, 7]
 (.seq
 (.seq
 (.reg [
 ⟨some 38, none, .mov (.t 7)⟩,
 ⟨some 39, none, .mov (.t 4)⟩,
 ⟨some 40, none, .len (.t 39)⟩,
 ⟨some 41, none, .bin .lss (.t 38) (.t 40)⟩] [3, 4, 5, 6, 7, 41])
 (.cond (.t 41)
 (.skip)
 (.exit 2)))
 (.seq
 (.block 3
 (.seq
 (.draw [0, 0, 0, 6, 14, 31, 0, 0, 192, 448, 960, 1984, 4032, 8191, 16383, 32767, 65535, 65535, 131071, 524287] [
 ⟨some 45, none, .buildSlice 1 []⟩,
 ⟨some 46, none, .mov (.t 4)⟩,
 ⟨some 47, none, .mov (.t 7)⟩,
 ⟨some 48, none, .indexAddr 1 (.t 46) (.t 47)⟩,
 ⟨some 49, none, .load false 1 (.t 48)⟩,
 ⟨some 50, none, .append 1 8 false (.t 45) (.t 49)⟩,
 ⟨some 51, none, .mov (.t 4)⟩,
 ⟨some 52, none, .mov (.t 7)⟩,
 ⟨some 53, none, .indexAddr 1 (.t 51) (.t 52)⟩,
 ⟨some 54, none, .load false 1 (.t 53)⟩,
 ⟨some 55, none, .indexAddr 1 (.t 54) (.v (.i .i64 0))⟩,
 ⟨some 56, none, .load false 1 (.t 55)⟩,
 ⟨some 57, none, .buildSlice 1 [(.t 56)]⟩,
 ⟨some 58, none, .append 1 8 true (.t 50) (.t 57)⟩,
 ⟨some 59, none, .call fid_impl_ChainEdges false [.im] [(.t 58)]⟩,
 ⟨some 44, none, .mov (.t 59)⟩,
 ⟨some 60, none, .extract (.t 44) 0⟩,
 ⟨some 61, none, .extract (.t 44) 1⟩,
 ⟨some 8, none, .mov (.t 60)⟩,
 ⟨some 9, none, .mov (.t 61)⟩] [3, 4, 5, 6, 7, 8])
 (.reg [
 ⟨some 62, none, .mov (.t 6)⟩,
 ⟨some 63, none, .mov (.t 62)⟩,
 ⟨some 64, (some (63, false)), .mov (.t 8)⟩,
 ⟨some 65, (some (63, false)), .fieldAddr 1 (.t 3)⟩,
 ⟨some 66, (some (63, false)), .load false 1 (.t 65)⟩,
 ⟨some 67, (some (63, false)), .mov (.t 5)⟩,
 ⟨some 68, (some (63, false)), .indexAddr 2 (.t 66) (.t 67)⟩,
 ⟨some 69, (some (63, false)), .load true 2 (.t 68)⟩,
 ⟨some 70, (some (63, false)), .call fid_laws_dyHas false [.im, .im] [(.t 64), (.t 69)]⟩,
 ⟨some 71, none, .pick (.t 63) (.v (.b true)) (.t 70)⟩,
 ⟨some 6, none, .mov (.t 71)⟩] [3, 4, 5, 6, 7])))
 (.reg [
 ⟨some 42, none, .mov (.t 7)⟩,
 ⟨some 43, none, .bin .add (.t 42) (.v (.i .i64 1))⟩,
 ⟨some 7, none, .mov (.t 43)⟩] [3, 4, 5, 6, 7]))))))
 (.seq
 (.draw [0, 0, 0, 4, 0, 28, 60, 126, 255] [
 ⟨some 72, none, .mov (.t 6)⟩,
 ⟨some 73, none, .load true 2 (.t 3)⟩,
 ⟨some 74, none, .fieldAddr 1 (.t 3)⟩,
 ⟨some 75, none, .load false 1 (.t 74)⟩,
 ⟨some 76, none, .mov (.t 5)⟩,
 ⟨some 77, none, .indexAddr 2 (.t 75) (.t 76)⟩,
 ⟨some 78, none, .load true 2 (.t 77)⟩,
 ⟨some 79, none, .call fid_impl_IsBridge false [.im, .im] [(.t 73), (.t 78)]⟩,
 ⟨some 80, none, .binb false (.t 72) (.t 79)⟩] [3, 4, 5, 80])
 (.cond (.t 80)
 (.seq
 (.reg [
 ⟨some 2, none, .mov (.v (.b false))⟩] [2])
 (.ret))
 (.skip))))))
 (.reg [
 ⟨some 36, none, .mov (.t 5)⟩,
 ⟨some 37, none, .bin .add (.t 36) (.v (.i .i64 1))⟩,
 ⟨some 5, none, .mov (.t 37)⟩] [3, 4, 5]))))))
 (.seq
 (.reg [
 ⟨some 2, none, .mov (.v (.b true))⟩] [2])
 (.ret)))))))
theorem get_laws_FnCyclesSafe : prog.funcs[fid_laws_FnCyclesSafe]? = some f4 := func4
theorem ok_laws_FnCyclesSafe : okFn prog f4 81 [] [(2, none)] mc_laws_FnCyclesSafe = true := by kernel_rfl

end Go.Fw
