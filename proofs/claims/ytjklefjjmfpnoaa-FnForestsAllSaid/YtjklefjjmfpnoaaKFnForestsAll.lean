/-
  The code of the statement FnForestsAll, as the model's own. Printed by a program.
-/
import Derived.Test.YtjklefjjmfpnoaaCf
namespace Go.Fw
open Go.Proofs.Try
set_option maxRecDepth 100000
def mc_laws_FnForestsAll : MCode :=
 .seq
 (.reg [
 ⟨some 2, none, .mov (.v (.b false))⟩] [0])
 (.seq
 (.seq
 (.reg [
 ⟨some 12, none, .mov (.t 0)⟩,
 ⟨some 13, none, .len (.t 12)⟩,
 ⟨some 14, none, .bin .gtr (.t 13) (.v (.i .i64 1048576))⟩] [0, 14])
 (.cond (.t 14)
 (.seq
 (.reg [
 ⟨some 2, none, .mov (.v (.b true))⟩] [2])
 (.ret))
 (.skip)))
 (.seq
 (.reg [
 ⟨some 16, none, .mov (.t 0)⟩,
 ⟨some 17, none, .call fid_spec_DrawForestsOf false [.im] [(.t 16)]⟩,
 ⟨some 15, none, .mov (.t 17)⟩,
 ⟨some 18, none, .extract (.t 15) 0⟩,
 ⟨some 19, none, .extract (.t 15) 1⟩,
 ⟨some 3, none, .alloc [.i .i64 0, .nl 2]⟩,
 ⟨none, none, .store 2 (.t 3) (.t 18)⟩,
 ⟨some 4, none, .mov (.t 19)⟩] [3, 4])
 (.seq
 (.reg [
 ⟨some 21, none, .load true 2 (.t 3)⟩,
 ⟨some 22, none, .mov (.t 4)⟩,
 ⟨some 23, none, .call fid_impl_ForestsOf true [.im, .im] [(.t 21), (.t 22)]⟩,
 ⟨some 20, none, .mov (.t 23)⟩,
 ⟨some 24, none, .extract (.t 20) 0⟩,
 ⟨some 25, none, .extract (.t 20) 1⟩,
 ⟨some 5, none, .mov (.t 24)⟩,
 ⟨some 6, none, .mov (.t 25)⟩] [3, 4, 5, 6])
 (.seq
 (.reg [
 ⟨some 27, none, .load true 2 (.t 3)⟩,
 ⟨some 28, none, .mov (.t 4)⟩,
 ⟨some 29, none, .call fid_spec_ForestsOf true [.im, .im] [(.t 27), (.t 28)]⟩,
 ⟨some 26, none, .mov (.t 29)⟩,
 ⟨some 30, none, .extract (.t 26) 0⟩,
 ⟨some 31, none, .extract (.t 26) 1⟩,
 ⟨some 7, none, .mov (.t 30)⟩,
 ⟨some 8, none, .mov (.t 31)⟩] [3, 5, 6, 7, 8])
 (.seq
 (.seq
 (.reg [
 ⟨some 32, none, .mov (.t 5)⟩,
 ⟨some 33, none, .mov (.t 7)⟩,
 ⟨some 34, none, .call fid_laws_dyBlocks false [.im, .im] [(.t 32), (.t 33)]⟩,
 ⟨some 35, none, .un .not (.t 34)⟩,
 ⟨some 36, none, .mov (.t 35)⟩,
 ⟨some 37, (some (36, false)), .mov (.t 6)⟩,
 ⟨some 38, (some (36, false)), .mov (.t 8)⟩,
 ⟨some 39, (some (36, false)), .binb true (.t 37) (.t 38)⟩,
 ⟨some 40, none, .pick (.t 36) (.v (.b true)) (.t 39)⟩,
 ⟨some 41, none, .mov (.t 40)⟩,
 ⟨some 42, (some (41, false)), .mov (.t 6)⟩,
 ⟨some 43, (some (41, false)), .un .not (.t 42)⟩,
 ⟨some 44, none, .pick (.t 41) (.v (.b true)) (.t 43)⟩] [3, 5, 6, 7, 8, 44])
 (.cond (.t 44)
 (.seq
 (.reg [
 ⟨some 45, none, .mov (.t 5)⟩,
 ⟨some 46, none, .mov (.t 7)⟩,
 ⟨some 47, none, .call fid_laws_dyBlocks false [.im, .im] [(.t 45), (.t 46)]⟩,
 ⟨some 48, none, .mov (.t 47)⟩,
 ⟨some 49, (some (48, true)), .mov (.t 6)⟩,
 ⟨some 50, (some (48, true)), .mov (.t 8)⟩,
 ⟨some 51, (some (48, true)), .binb false (.t 49) (.t 50)⟩,
 ⟨some 52, none, .pick (.t 48) (.t 51) (.v (.b false))⟩,
 ⟨some 2, none, .mov (.t 52)⟩] [2])
 (.ret))
 (.skip)))
 (.seq
 (.reg [
 ⟨some 54, none, .load true 2 (.t 3)⟩,
 ⟨some 55, none, .call fid_impl_CertificateOf false [.im, .im] [(.t 54), (.v (.i .i64 40))]⟩,
 ⟨some 53, none, .mov (.t 55)⟩,
 ⟨some 56, none, .extract (.t 53) 0⟩,
 ⟨some 57, none, .extract (.t 53) 1⟩,
 ⟨some 9, none, .alloc [.i .i64 0, .nl 2]⟩,
 ⟨none, none, .store 2 (.t 9) (.t 56)⟩,
 ⟨some 10, none, .mov (.t 57)⟩] [3, 5, 9, 10])
 (.seq
 (.seq
 (.reg [
 ⟨some 11, none, .mov (.v (.i .i64 1))⟩] [3, 5, 9, 10, 11])
 (.block 0
 (.loop [3, 5, 9, 10, 11]
 (.seq
 (.seq
 (.reg [
 ⟨some 58, none, .mov (.t 11)⟩,
 ⟨some 59, none, .mov (.t 5)⟩,
 ⟨some 60, none, .len (.t 59)⟩,
 ⟨some 61, none, .bin .lss (.t 58) (.t 60)⟩] [3, 5, 9, 10, 11, 61])
 (.cond (.t 61)
 (.skip)
 (.exit 0)))
 (.seq
 (.block 1
 (.seq
 (.draw [0, 0, 3, 7, 15, 0, 0, 64, 224, 480, 992, 2047] [
 ⟨some 64, none, .mov (.t 5)⟩,
 ⟨some 65, none, .mov (.t 11)⟩,
 ⟨some 66, none, .indexAddr 1 (.t 64) (.t 65)⟩,
 ⟨some 67, none, .load false 1 (.t 66)⟩,
 ⟨some 68, none, .len (.t 67)⟩,
 ⟨some 69, none, .mov (.t 5)⟩,
 ⟨some 70, none, .mov (.t 11)⟩,
 ⟨some 71, none, .bin .sub (.t 70) (.v (.i .i64 1))⟩,
 ⟨some 72, none, .indexAddr 1 (.t 69) (.t 71)⟩,
 ⟨some 73, none, .load false 1 (.t 72)⟩,
 ⟨some 74, none, .len (.t 73)⟩,
 ⟨some 75, none, .bin .gtr (.t 68) (.t 74)⟩] [3, 5, 9, 10, 11, 75])
 (.cond (.t 75)
 (.seq
 (.reg [
 ⟨some 2, none, .mov (.v (.b false))⟩] [2])
 (.ret))
 (.skip))))
 (.reg [
 ⟨some 62, none, .mov (.t 11)⟩,
 ⟨some 63, none, .bin .add (.t 62) (.v (.i .i64 1))⟩,
 ⟨some 11, none, .mov (.t 63)⟩] [3, 5, 9, 10, 11]))))))
 (.seq
 (.reg [
 ⟨some 76, none, .mov (.t 10)⟩,
 ⟨some 77, none, .mov (.t 76)⟩,
 ⟨some 78, (some (77, true)), .load true 2 (.t 9)⟩,
 ⟨some 79, (some (77, true)), .load true 2 (.t 3)⟩,
 ⟨some 80, (some (77, true)), .call fid_impl_GraphSame false [.im, .im] [(.t 78), (.t 79)]⟩,
 ⟨some 81, none, .pick (.t 77) (.t 80) (.v (.b false))⟩,
 ⟨some 2, none, .mov (.t 81)⟩] [2])
 (.ret)))))))))
theorem get_laws_FnForestsAll : prog.funcs[fid_laws_FnForestsAll]? = some f8 := func8
theorem ok_laws_FnForestsAll : okFn prog f8 82 [] [(2, none)] mc_laws_FnForestsAll = true := by kernel_rfl

end Go.Fw
