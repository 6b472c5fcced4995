/-
  The code of the statement FnChainsEars, as the model's own. Printed by a program.
-/
import Derived.Test.YtedacikdbkpccaaCf
namespace Go.Fw
open Go.Proofs.Try
set_option maxRecDepth 100000
def mc_laws_FnChainsEars : MCode :=
 .seq
 (.reg [
 ⟨some 2, none, .mov (.v (.b false))⟩] [0])
 (.seq
 (.seq
 (.reg [
 ⟨some 10, none, .mov (.t 0)⟩,
 ⟨some 11, none, .len (.t 10)⟩,
 ⟨some 12, none, .bin .gtr (.t 11) (.v (.i .i64 1048576))⟩] [0, 12])
 (.cond (.t 12)
 (.seq
 (.reg [
 ⟨some 2, none, .mov (.v (.b true))⟩] [2])
 (.ret))
 (.skip)))
 (.seq
 (.reg [
 ⟨some 13, none, .mov (.t 0)⟩,
 ⟨some 14, none, .call fid_spec_DrawIsSafeGraph false [.im] [(.t 13)]⟩,
 ⟨some 3, none, .alloc [.i .i64 0, .nl 2]⟩,
 ⟨none, none, .store 2 (.t 3) (.t 14)⟩] [3])
 (.seq
 (.reg [
 ⟨some 15, none, .load true 2 (.t 3)⟩,
 ⟨some 16, none, .call fid_impl_IsSafeGraph false [.im] [(.t 15)]⟩,
 ⟨some 4, none, .mov (.t 16)⟩] [3, 4])
 (.seq
 (.seq
 (.reg [
 ⟨some 17, none, .mov (.t 4)⟩,
 ⟨some 18, none, .load true 2 (.t 3)⟩,
 ⟨some 19, none, .call fid_spec_IsSafeGraph false [.im] [(.t 18)]⟩,
 ⟨some 20, none, .binb true (.t 17) (.t 19)⟩,
 ⟨some 21, none, .mov (.t 20)⟩,
 ⟨some 22, (some (21, false)), .mov (.t 4)⟩,
 ⟨some 23, (some (21, false)), .un .not (.t 22)⟩,
 ⟨some 24, none, .pick (.t 21) (.v (.b true)) (.t 23)⟩] [3, 4, 24])
 (.cond (.t 24)
 (.seq
 (.reg [
 ⟨some 25, none, .mov (.t 4)⟩,
 ⟨some 26, none, .load true 2 (.t 3)⟩,
 ⟨some 27, none, .call fid_spec_IsSafeGraph false [.im] [(.t 26)]⟩,
 ⟨some 28, none, .binb false (.t 25) (.t 27)⟩,
 ⟨some 2, none, .mov (.t 28)⟩] [2])
 (.ret))
 (.skip)))
 (.seq
 (.reg [
 ⟨some 29, none, .load true 2 (.t 3)⟩,
 ⟨some 30, none, .call fid_impl_ChainsOf false [.im] [(.t 29)]⟩,
 ⟨some 5, none, .mov (.t 30)⟩] [3, 5])
 (.seq
 (.reg [
 ⟨some 31, none, .buildSlice 1 []⟩,
 ⟨some 6, none, .mov (.t 31)⟩] [3, 5, 6])
 (.seq
 (.seq
 (.reg [
 ⟨some 7, none, .mov (.v (.i .i64 0))⟩] [3, 5, 6, 7])
 (.block 0
 (.loop [3, 5, 6, 7]
 (.seq
 (.seq
 (.reg [
 ⟨some 32, none, .mov (.t 7)⟩,
 ⟨some 33, none, .mov (.t 5)⟩,
 ⟨some 34, none, .len (.t 33)⟩,
 ⟨some 35, none, .bin .lss (.t 32) (.t 34)⟩] [3, 5, 6, 7, 35])
 (.cond (.t 35)
 (.skip)
 (.exit 0)))
 (.seq
 (.block 1
 (.seq
 (.reg [
 ⟨some 38, none, .mov (.t 5)⟩,
 ⟨some 39, none, .mov (.t 7)⟩,
 ⟨some 40, none, .indexAddr 1 (.t 38) (.t 39)⟩,
 ⟨some 41, none, .load false 1 (.t 40)⟩,
 ⟨some 8, none, .mov (.t 41)⟩] [3, 5, 6, 7, 8])
 (.seq
 (.seq
 (.reg [
 ⟨some 42, none, .mov (.t 7)⟩,
 ⟨some 43, none, .bin .gtr (.t 42) (.v (.i .i64 0))⟩,
 ⟨some 44, none, .mov (.t 43)⟩,
 ⟨some 45, (some (44, true)), .mov (.t 6)⟩,
 ⟨some 46, (some (44, true)), .mov (.t 8)⟩,
 ⟨some 47, (some (44, true)), .indexAddr 1 (.t 46) (.v (.i .i64 0))⟩,
 ⟨some 48, (some (44, true)), .load false 1 (.t 47)⟩,
 ⟨some 49, (some (44, true)), .call fid_laws_dyIn false [.im, .im] [(.t 45), (.t 48)]⟩,
 ⟨some 50, (some (44, true)), .un .not (.t 49)⟩,
 ⟨some 51, (some (44, true)), .mov (.t 50)⟩,
 ⟨some 52, (some (51, false)), .mov (.t 6)⟩,
 ⟨some 53, (some (51, false)), .mov (.t 8)⟩,
 ⟨some 54, (some (51, false)), .mov (.t 8)⟩,
 ⟨some 55, (some (51, false)), .len (.t 54)⟩,
 ⟨some 56, (some (51, false)), .bin .sub (.t 55) (.v (.i .i64 1))⟩,
 ⟨some 57, (some (51, false)), .indexAddr 1 (.t 53) (.t 56)⟩,
 ⟨some 58, (some (51, false)), .load false 1 (.t 57)⟩,
 ⟨some 59, (some (51, false)), .call fid_laws_dyIn false [.im, .im] [(.t 52), (.t 58)]⟩,
 ⟨some 60, (some (51, false)), .un .not (.t 59)⟩,
 ⟨some 61, (some (44, true)), .pick (.t 51) (.v (.b true)) (.t 60)⟩,
 ⟨some 62, none, .pick (.t 44) (.t 61) (.v (.b false))⟩] [3, 5, 6, 7, 8, 62])
 (.cond (.t 62)
 (.seq
 (.reg [
 ⟨some 2, none, .mov (.v (.b false))⟩] [2])
 (.ret))
 (.skip)))
 (.reg [
 ⟨some 63, none, .mov (.t 6)⟩,
 ⟨some 64, none, .mov (.t 8)⟩,
 ⟨some 65, none, .append 1 8 false (.t 63) (.t 64)⟩,
 ⟨some 6, none, .mov (.t 65)⟩] [3, 5, 6, 7]))))
 (.reg [
 ⟨some 36, none, .mov (.t 7)⟩,
 ⟨some 37, none, .bin .add (.t 36) (.v (.i .i64 1))⟩,
 ⟨some 7, none, .mov (.t 37)⟩] [3, 5, 6, 7]))))))
 (.seq
 (.seq
 (.reg [
 ⟨some 9, none, .mov (.v (.i .i64 0))⟩] [3, 6, 9])
 (.block 2
 (.loop [3, 6, 9]
 (.seq
 (.seq
 (.reg [
 ⟨some 66, none, .mov (.t 9)⟩,
 ⟨some 67, none, .fieldAddr 0 (.t 3)⟩,
 ⟨some 68, none, .load false 1 (.t 67)⟩,
 ⟨some 69, none, .bin .lss (.t 66) (.t 68)⟩,
 ⟨some 70, none, .mov (.t 69)⟩,
 ⟨some 71, (some (70, true)), .fieldAddr 0 (.t 3)⟩,
 ⟨some 72, (some (70, true)), .load false 1 (.t 71)⟩,
 ⟨some 73, (some (70, true)), .bin .gtr (.t 72) (.v (.i .i64 1))⟩,
 ⟨some 74, none, .pick (.t 70) (.t 73) (.v (.b false))⟩] [3, 6, 9, 74])
 (.cond (.t 74)
 (.skip)
 (.exit 2)))
 (.seq
 (.block 3
 (.seq
 (.reg [
 ⟨some 77, none, .mov (.t 6)⟩,
 ⟨some 78, none, .mov (.t 9)⟩,
 ⟨some 79, none, .call fid_laws_dyIn false [.im, .im] [(.t 77), (.t 78)]⟩,
 ⟨some 80, none, .un .not (.t 79)⟩] [3, 6, 9, 80])
 (.cond (.t 80)
 (.seq
 (.reg [
 ⟨some 2, none, .mov (.v (.b false))⟩] [2])
 (.ret))
 (.skip))))
 (.reg [
 ⟨some 75, none, .mov (.t 9)⟩,
 ⟨some 76, none, .bin .add (.t 75) (.v (.i .i64 1))⟩,
 ⟨some 9, none, .mov (.t 76)⟩] [3, 6, 9]))))))
 (.seq
 (.reg [
 ⟨some 2, none, .mov (.v (.b true))⟩] [2])
 (.ret))))))))))
theorem get_laws_FnChainsEars : prog.funcs[fid_laws_FnChainsEars]? = some f10 := func10
theorem ok_laws_FnChainsEars : okFn prog f10 81 [] [(2, none)] mc_laws_FnChainsEars = true := by kernel_rfl

end Go.Fw
