/-
  The code of the statement FnChainsOf, as the model's own. Printed by a program.
-/
import Derived.Test.YtedacikdbkpccaaCf
namespace Go.Fw
open Go.Proofs.Try
set_option maxRecDepth 100000
def mc_laws_FnChainsOf : MCode :=
 .seq
 (.reg [
 ⟨some 2, none, .mov (.v (.b false))⟩] [0])
 (.seq
 (.seq
 (.reg [
 ⟨some 9, none, .mov (.t 0)⟩,
 ⟨some 10, none, .len (.t 9)⟩,
 ⟨some 11, none, .bin .gtr (.t 10) (.v (.i .i64 1048576))⟩] [0, 11])
 (.cond (.t 11)
 (.seq
 (.reg [
 ⟨some 2, none, .mov (.v (.b true))⟩] [2])
 (.ret))
 (.skip)))
 (.seq
 (.reg [
 ⟨some 12, none, .mov (.t 0)⟩,
 ⟨some 13, none, .call fid_spec_DrawChainsOf false [.im] [(.t 12)]⟩,
 ⟨some 3, none, .alloc [.i .i64 0, .nl 2]⟩,
 ⟨none, none, .store 2 (.t 3) (.t 13)⟩] [3])
 (.seq
 (.reg [
 ⟨some 14, none, .load true 2 (.t 3)⟩,
 ⟨some 15, none, .call fid_impl_ChainsOf false [.im] [(.t 14)]⟩,
 ⟨some 4, none, .mov (.t 15)⟩] [3, 4])
 (.seq
 (.seq
 (.reg [
 ⟨some 16, none, .mov (.t 4)⟩,
 ⟨some 17, none, .load true 2 (.t 3)⟩,
 ⟨some 18, none, .call fid_spec_ChainsOf false [.im] [(.t 17)]⟩,
 ⟨some 19, none, .call fid_laws_dyLists false [.im, .im] [(.t 16), (.t 18)]⟩,
 ⟨some 20, none, .un .not (.t 19)⟩,
 ⟨some 21, none, .mov (.t 20)⟩,
 ⟨some 22, (some (21, false)), .load true 2 (.t 3)⟩,
 ⟨some 23, (some (21, false)), .call fid_impl_GraphValid false [.im] [(.t 22)]⟩,
 ⟨some 24, (some (21, false)), .un .not (.t 23)⟩,
 ⟨some 25, none, .pick (.t 21) (.v (.b true)) (.t 24)⟩] [3, 4, 25])
 (.cond (.t 25)
 (.seq
 (.reg [
 ⟨some 26, none, .mov (.t 4)⟩,
 ⟨some 27, none, .load true 2 (.t 3)⟩,
 ⟨some 28, none, .call fid_spec_ChainsOf false [.im] [(.t 27)]⟩,
 ⟨some 29, none, .call fid_laws_dyLists false [.im, .im] [(.t 26), (.t 28)]⟩,
 ⟨some 30, none, .mov (.t 29)⟩,
 ⟨some 31, (some (30, true)), .mov (.t 4)⟩,
 ⟨some 32, (some (30, true)), .len (.t 31)⟩,
 ⟨some 33, (some (30, true)), .bin .eql (.t 32) (.v (.i .i64 0))⟩,
 ⟨some 34, none, .pick (.t 30) (.t 33) (.v (.b false))⟩,
 ⟨some 2, none, .mov (.t 34)⟩] [2])
 (.ret))
 (.skip)))
 (.seq
 (.seq
 (.reg [
 ⟨some 5, none, .mov (.v (.i .i64 0))⟩] [3, 4, 5])
 (.block 0
 (.loop [3, 4, 5]
 (.seq
 (.seq
 (.reg [
 ⟨some 35, none, .mov (.t 5)⟩,
 ⟨some 36, none, .mov (.t 4)⟩,
 ⟨some 37, none, .len (.t 36)⟩,
 ⟨some 38, none, .bin .lss (.t 35) (.t 37)⟩] [3, 4, 5, 38])
 (.cond (.t 38)
 (.skip)
 (.exit 0)))
 (.seq
 (.block 1
 (.seq
 (.reg [
 ⟨some 42, none, .mov (.t 4)⟩,
 ⟨some 43, none, .mov (.t 5)⟩,
 ⟨some 44, none, .indexAddr 1 (.t 42) (.t 43)⟩,
 ⟨some 45, none, .load false 1 (.t 44)⟩,
 ⟨some 46, none, .call fid_impl_ChainEdges false [.im] [(.t 45)]⟩,
 ⟨some 41, none, .mov (.t 46)⟩,
 ⟨some 47, none, .extract (.t 41) 0⟩,
 ⟨some 48, none, .extract (.t 41) 1⟩,
 ⟨some 6, none, .mov (.t 47)⟩,
 ⟨some 7, none, .mov (.t 48)⟩] [3, 4, 5, 6, 7])
 (.seq
 (.seq
 (.reg [
 ⟨some 49, none, .mov (.t 7)⟩,
 ⟨some 50, none, .un .not (.t 49)⟩,
 ⟨some 51, none, .mov (.t 50)⟩,
 ⟨some 52, (some (51, false)), .mov (.t 4)⟩,
 ⟨some 53, (some (51, false)), .mov (.t 5)⟩,
 ⟨some 54, (some (51, false)), .indexAddr 1 (.t 52) (.t 53)⟩,
 ⟨some 55, (some (51, false)), .load false 1 (.t 54)⟩,
 ⟨some 56, (some (51, false)), .len (.t 55)⟩,
 ⟨some 57, (some (51, false)), .bin .lss (.t 56) (.v (.i .i64 2))⟩,
 ⟨some 58, none, .pick (.t 51) (.v (.b true)) (.t 57)⟩] [3, 4, 5, 6, 58])
 (.cond (.t 58)
 (.seq
 (.reg [
 ⟨some 2, none, .mov (.v (.b false))⟩] [2])
 (.ret))
 (.skip)))
 (.seq
 (.reg [
 ⟨some 8, none, .mov (.v (.i .i64 0))⟩] [3, 4, 5, 6, 8])
 (.block 2
 (.loop [3, 4, 5, 6, 8]
 (.seq
 (.seq
 (.reg [
 ⟨some 59, none, .mov (.t 8)⟩,
 ⟨some 60, none, .mov (.t 6)⟩,
 ⟨some 61, none, .len (.t 60)⟩,
 ⟨some 62, none, .bin .lss (.t 59) (.t 61)⟩] [3, 4, 5, 6, 8, 62])
 (.cond (.t 62)
 (.skip)
 (.exit 2)))
 (.seq
 (.block 3
 (.seq
 (.draw [0, 0, 0, 6, 14, 31, 63] [
 ⟨some 65, none, .load true 2 (.t 3)⟩,
 ⟨some 66, none, .mov (.t 6)⟩,
 ⟨some 67, none, .mov (.t 8)⟩,
 ⟨some 68, none, .indexAddr 2 (.t 66) (.t 67)⟩,
 ⟨some 69, none, .load true 2 (.t 68)⟩,
 ⟨some 70, none, .call fid_impl_HasEdge false [.im, .im] [(.t 65), (.t 69)]⟩,
 ⟨some 71, none, .un .not (.t 70)⟩] [3, 4, 5, 6, 8, 71])
 (.cond (.t 71)
 (.seq
 (.reg [
 ⟨some 2, none, .mov (.v (.b false))⟩] [2])
 (.ret))
 (.skip))))
 (.reg [
 ⟨some 63, none, .mov (.t 8)⟩,
 ⟨some 64, none, .bin .add (.t 63) (.v (.i .i64 1))⟩,
 ⟨some 8, none, .mov (.t 64)⟩] [3, 4, 5, 6, 8])))))))))
 (.reg [
 ⟨some 39, none, .mov (.t 5)⟩,
 ⟨some 40, none, .bin .add (.t 39) (.v (.i .i64 1))⟩,
 ⟨some 5, none, .mov (.t 40)⟩] [3, 4, 5]))))))
 (.seq
 (.draw [0, 1, 0, 4, 12, 0, 32, 96, 252, 511, 1023] [
 ⟨some 72, none, .mov (.t 4)⟩,
 ⟨some 73, none, .len (.t 72)⟩,
 ⟨some 74, none, .fieldAddr 1 (.t 3)⟩,
 ⟨some 75, none, .load false 1 (.t 74)⟩,
 ⟨some 76, none, .len (.t 75)⟩,
 ⟨some 77, none, .load true 2 (.t 3)⟩,
 ⟨some 78, none, .call fid_impl_ForestOf false [.im] [(.t 77)]⟩,
 ⟨some 79, none, .len (.t 78)⟩,
 ⟨some 80, none, .bin .sub (.t 76) (.t 79)⟩,
 ⟨some 81, none, .bin .eql (.t 73) (.t 80)⟩,
 ⟨some 2, none, .mov (.t 81)⟩] [2])
 (.ret)))))))
theorem get_laws_FnChainsOf : prog.funcs[fid_laws_FnChainsOf]? = some f11 := func11
theorem ok_laws_FnChainsOf : okFn prog f11 82 [] [(2, none)] mc_laws_FnChainsOf = true := by kernel_rfl

end Go.Fw
