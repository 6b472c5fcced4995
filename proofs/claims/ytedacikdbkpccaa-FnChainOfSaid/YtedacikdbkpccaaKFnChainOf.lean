/-
  The code of the statement FnChainOf, as the model's own. Printed by a program.
-/
import Derived.Test.YtedacikdbkpccaaCf
namespace Go.Fw
open Go.Proofs.Try
set_option maxRecDepth 100000
def mc_laws_FnChainOf : MCode :=
 .seq
 (.reg [
 ⟨some 2, none, .mov (.v (.b false))⟩] [0])
 (.seq
 (.seq
 (.reg [
 ⟨some 15, none, .mov (.t 0)⟩,
 ⟨some 16, none, .len (.t 15)⟩,
 ⟨some 17, none, .bin .gtr (.t 16) (.v (.i .i64 1048576))⟩] [0, 17])
 (.cond (.t 17)
 (.seq
 (.reg [
 ⟨some 2, none, .mov (.v (.b true))⟩] [2])
 (.ret))
 (.skip)))
 (.seq
 (.reg [
 ⟨some 19, none, .mov (.t 0)⟩,
 ⟨some 20, none, .call fid_spec_DrawChainOf false [.im] [(.t 19)]⟩,
 ⟨some 18, none, .mov (.t 20)⟩,
 ⟨some 21, none, .extract (.t 18) 0⟩,
 ⟨some 22, none, .extract (.t 18) 1⟩,
 ⟨some 3, none, .alloc [.i .i64 0, .nl 2]⟩,
 ⟨some 4, none, .alloc [.i .i64 0, .i .i64 0]⟩,
 ⟨none, none, .store 2 (.t 3) (.t 21)⟩,
 ⟨none, none, .store 2 (.t 4) (.t 22)⟩] [3, 4])
 (.seq
 (.reg [
 ⟨some 24, none, .load true 2 (.t 3)⟩,
 ⟨some 25, none, .load true 2 (.t 4)⟩,
 ⟨some 26, none, .call fid_impl_ChainOf false [.im, .im] [(.t 24), (.t 25)]⟩,
 ⟨some 23, none, .mov (.t 26)⟩,
 ⟨some 27, none, .extract (.t 23) 0⟩,
 ⟨some 28, none, .extract (.t 23) 1⟩,
 ⟨some 5, none, .mov (.t 27)⟩,
 ⟨some 6, none, .mov (.t 28)⟩] [3, 4, 5, 6])
 (.seq
 (.reg [
 ⟨some 30, none, .load true 2 (.t 3)⟩,
 ⟨some 31, none, .load true 2 (.t 4)⟩,
 ⟨some 32, none, .call fid_spec_ChainOf false [.im, .im] [(.t 30), (.t 31)]⟩,
 ⟨some 29, none, .mov (.t 32)⟩,
 ⟨some 33, none, .extract (.t 29) 0⟩,
 ⟨some 34, none, .extract (.t 29) 1⟩,
 ⟨some 7, none, .mov (.t 33)⟩,
 ⟨some 8, none, .mov (.t 34)⟩] [3, 4, 5, 6, 7, 8])
 (.seq
 (.seq
 (.reg [
 ⟨some 35, none, .mov (.t 5)⟩,
 ⟨some 36, none, .mov (.t 7)⟩,
 ⟨some 37, none, .bin .neq (.t 35) (.t 36)⟩,
 ⟨some 38, none, .mov (.t 37)⟩,
 ⟨some 39, (some (38, false)), .mov (.t 6)⟩,
 ⟨some 40, (some (38, false)), .mov (.t 8)⟩,
 ⟨some 41, (some (38, false)), .binb true (.t 39) (.t 40)⟩,
 ⟨some 42, none, .pick (.t 38) (.v (.b true)) (.t 41)⟩,
 ⟨some 43, none, .mov (.t 42)⟩,
 ⟨some 44, (some (43, false)), .load true 2 (.t 3)⟩,
 ⟨some 45, (some (43, false)), .load true 2 (.t 4)⟩,
 ⟨some 46, (some (43, false)), .call fid_impl_HasEdge false [.im, .im] [(.t 44), (.t 45)]⟩,
 ⟨some 47, (some (43, false)), .un .not (.t 46)⟩,
 ⟨some 48, none, .pick (.t 43) (.v (.b true)) (.t 47)⟩] [3, 4, 5, 6, 7, 8, 48])
 (.cond (.t 48)
 (.seq
 (.reg [
 ⟨some 49, none, .mov (.t 5)⟩,
 ⟨some 50, none, .mov (.t 7)⟩,
 ⟨some 51, none, .bin .eql (.t 49) (.t 50)⟩,
 ⟨some 52, none, .mov (.t 51)⟩,
 ⟨some 53, (some (52, true)), .mov (.t 6)⟩,
 ⟨some 54, (some (52, true)), .mov (.t 8)⟩,
 ⟨some 55, (some (52, true)), .binb false (.t 53) (.t 54)⟩,
 ⟨some 56, none, .pick (.t 52) (.t 55) (.v (.b false))⟩,
 ⟨some 57, none, .mov (.t 56)⟩,
 ⟨some 58, (some (57, true)), .mov (.t 6)⟩,
 ⟨some 59, (some (57, true)), .un .not (.t 58)⟩,
 ⟨some 60, none, .pick (.t 57) (.t 59) (.v (.b false))⟩,
 ⟨some 2, none, .mov (.t 60)⟩] [2])
 (.ret))
 (.skip)))
 (.seq
 (.reg [
 ⟨some 61, none, .load true 2 (.t 3)⟩,
 ⟨some 62, none, .call fid_impl_ChainsOf false [.im] [(.t 61)]⟩,
 ⟨some 9, none, .mov (.t 62)⟩] [3, 4, 6, 9])
 (.seq
 (.reg [
 ⟨some 10, none, .mov (.v (.i .i64 0))⟩] [3, 4, 6, 9, 10])
 (.seq
 (.seq
 (.reg [
 ⟨some 11, none, .mov (.v (.i .i64 0))⟩] [3, 4, 6, 9, 10, 11])
 (.block 0
 (.loop [3, 4, 6, 9, 10, 11]
 (.seq
 (.seq
 (.reg [
 ⟨some 63, none, .mov (.t 11)⟩,
 ⟨some 64, none, .mov (.t 9)⟩,
 ⟨some 65, none, .len (.t 64)⟩,
 ⟨some 66, none, .bin .lss (.t 63) (.t 65)⟩] [3, 4, 6, 9, 10, 11, 66])
 (.cond (.t 66)
 (.skip)
 (.exit 0)))
 (.seq
 (.block 1
 (.seq
 (.reg [
 ⟨some 70, none, .mov (.t 9)⟩,
 ⟨some 71, none, .mov (.t 11)⟩,
 ⟨some 72, none, .indexAddr 1 (.t 70) (.t 71)⟩,
 ⟨some 73, none, .load false 1 (.t 72)⟩,
 ⟨some 74, none, .call fid_impl_ChainEdges false [.im] [(.t 73)]⟩,
 ⟨some 69, none, .mov (.t 74)⟩,
 ⟨some 75, none, .extract (.t 69) 0⟩,
 ⟨some 76, none, .extract (.t 69) 1⟩,
 ⟨some 12, none, .mov (.t 75)⟩,
 ⟨some 13, none, .mov (.t 76)⟩] [3, 4, 6, 9, 10, 11, 12, 13])
 (.seq
 (.seq
 (.reg [
 ⟨some 77, none, .mov (.t 13)⟩,
 ⟨some 78, none, .un .not (.t 77)⟩] [3, 4, 6, 9, 10, 11, 12, 78])
 (.cond (.t 78)
 (.seq
 (.reg [
 ⟨some 2, none, .mov (.v (.b false))⟩] [2])
 (.ret))
 (.skip)))
 (.seq
 (.reg [
 ⟨some 14, none, .mov (.v (.i .i64 0))⟩] [3, 4, 6, 9, 10, 11, 12, 14])
 (.block 2
 (.loop [3, 4, 6, 9, 10, 11, 12, 14]
 (.seq
 (.seq
 (.reg [
 ⟨some 79, none, .mov (.t 14)⟩,
 ⟨some 80, none, .mov (.t 12)⟩,
 ⟨some 81, none, .len (.t 80)⟩,
 ⟨some 82, none, .bin .lss (.t 79) (.t 81)⟩] [3, 4, 6, 9, 10, 11, 12, 14, 82])
 (.cond (.t 82)
 (.skip)
 (.exit 2)))
 (.seq
 (.block 3
 (.seq
 (.draw [0, 0, 3, 7, 0, 31] [
 ⟨some 85, none, .mov (.t 12)⟩,
 ⟨some 86, none, .mov (.t 14)⟩,
 ⟨some 87, none, .indexAddr 2 (.t 85) (.t 86)⟩,
 ⟨some 88, none, .load true 2 (.t 87)⟩,
 ⟨some 89, none, .load true 2 (.t 4)⟩,
 ⟨some 90, none, .eqAgg false [true, true] (.t 88) (.t 89)⟩] [3, 4, 6, 9, 10, 11, 12, 14, 90])
 (.cond (.t 90)
 (.reg [
 ⟨some 91, none, .mov (.t 10)⟩,
 ⟨some 92, none, .bin .add (.t 91) (.v (.i .i64 1))⟩,
 ⟨some 10, none, .mov (.t 92)⟩] [3, 4, 6, 9, 10, 11, 12, 14])
 (.skip))))
 (.reg [
 ⟨some 83, none, .mov (.t 14)⟩,
 ⟨some 84, none, .bin .add (.t 83) (.v (.i .i64 1))⟩,
 ⟨some 14, none, .mov (.t 84)⟩] [3, 4, 6, 9, 10, 11, 12, 14])))))))))
 (.reg [
 ⟨some 67, none, .mov (.t 11)⟩,
 ⟨some 68, none, .bin .add (.t 67) (.v (.i .i64 1))⟩,
 ⟨some 11, none, .mov (.t 68)⟩] [3, 4, 6, 9, 10, 11]))))))
 (.seq
 (.reg [
 ⟨some 93, none, .mov (.t 6)⟩,
 ⟨some 94, none, .load true 2 (.t 3)⟩,
 ⟨some 95, none, .load true 2 (.t 4)⟩,
 ⟨some 96, none, .call fid_impl_IsBridge false [.im, .im] [(.t 94), (.t 95)]⟩,
 ⟨some 97, none, .un .not (.t 96)⟩,
 ⟨some 98, none, .binb false (.t 93) (.t 97)⟩,
 ⟨some 99, none, .mov (.t 98)⟩,
 ⟨some 100, (some (99, true)), .mov (.t 6)⟩,
 ⟨some 101, (some (99, true)), .mov (.t 100)⟩,
 ⟨some 102, (some (101, true)), .mov (.t 10)⟩,
 ⟨some 103, (some (101, true)), .bin .eql (.t 102) (.v (.i .i64 1))⟩,
 ⟨some 104, (some (99, true)), .pick (.t 101) (.t 103) (.v (.b false))⟩,
 ⟨some 105, (some (99, true)), .mov (.t 104)⟩,
 ⟨some 106, (some (105, false)), .mov (.t 6)⟩,
 ⟨some 107, (some (105, false)), .un .not (.t 106)⟩,
 ⟨some 108, (some (105, false)), .mov (.t 107)⟩,
 ⟨some 109, (some (108, true)), .mov (.t 10)⟩,
 ⟨some 110, (some (108, true)), .bin .eql (.t 109) (.v (.i .i64 0))⟩,
 ⟨some 111, (some (105, false)), .pick (.t 108) (.t 110) (.v (.b false))⟩,
 ⟨some 112, (some (99, true)), .pick (.t 105) (.v (.b true)) (.t 111)⟩,
 ⟨some 113, none, .pick (.t 99) (.t 112) (.v (.b false))⟩,
 ⟨some 2, none, .mov (.t 113)⟩] [2])
 (.ret))))))))))
theorem get_laws_FnChainOf : prog.funcs[fid_laws_FnChainOf]? = some f14 := func14
theorem ok_laws_FnChainOf : okFn prog f14 114 [] [(2, none)] mc_laws_FnChainOf = true := by kernel_rfl

end Go.Fw
