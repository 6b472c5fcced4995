/-
  The code of the statement FnChainEdges, as the model's own. Printed by a program.
-/
import Derived.Test.YtedacikdbkpccaaCf
namespace Go.Fw
open Go.Proofs.Try
set_option maxRecDepth 100000
def mc_laws_FnChainEdges : MCode :=
 .seq
 (.reg [
 ⟨some 2, none, .mov (.v (.b false))⟩] [0])
 (.seq
 (.seq
 (.reg [
 ⟨some 11, none, .mov (.t 0)⟩,
 ⟨some 12, none, .len (.t 11)⟩,
 ⟨some 13, none, .bin .gtr (.t 12) (.v (.i .i64 1048576))⟩] [0, 13])
 (.cond (.t 13)
 (.seq
 (.reg [
 ⟨some 2, none, .mov (.v (.b true))⟩] [2])
 (.ret))
 (.skip)))
 (.seq
 (.reg [
 ⟨some 14, none, .mov (.t 0)⟩,
 ⟨some 15, none, .call fid_spec_DrawChainEdges false [.im] [(.t 14)]⟩,
 ⟨some 3, none, .mov (.t 15)⟩] [3])
 (.seq
 (.reg [
 ⟨some 17, none, .mov (.t 3)⟩,
 ⟨some 18, none, .call fid_impl_ChainEdges false [.im] [(.t 17)]⟩,
 ⟨some 16, none, .mov (.t 18)⟩,
 ⟨some 19, none, .extract (.t 16) 0⟩,
 ⟨some 20, none, .extract (.t 16) 1⟩,
 ⟨some 4, none, .mov (.t 19)⟩,
 ⟨some 5, none, .mov (.t 20)⟩] [3, 4, 5])
 (.seq
 (.reg [
 ⟨some 22, none, .mov (.t 3)⟩,
 ⟨some 23, none, .call fid_spec_ChainEdges false [.im] [(.t 22)]⟩,
 ⟨some 21, none, .mov (.t 23)⟩,
 ⟨some 24, none, .extract (.t 21) 0⟩,
 ⟨some 25, none, .extract (.t 21) 1⟩,
 ⟨some 6, none, .mov (.t 24)⟩,
 ⟨some 7, none, .mov (.t 25)⟩] [3, 4, 5, 6, 7])
 (.seq
 (.seq
 (.reg [
 ⟨some 26, none, .mov (.t 4)⟩,
 ⟨some 27, none, .mov (.t 6)⟩,
 ⟨some 28, none, .call fid_laws_dyEdges false [.im, .im] [(.t 26), (.t 27)]⟩,
 ⟨some 29, none, .un .not (.t 28)⟩,
 ⟨some 30, none, .mov (.t 29)⟩,
 ⟨some 31, (some (30, false)), .mov (.t 5)⟩,
 ⟨some 32, (some (30, false)), .mov (.t 7)⟩,
 ⟨some 33, (some (30, false)), .binb true (.t 31) (.t 32)⟩,
 ⟨some 34, none, .pick (.t 30) (.v (.b true)) (.t 33)⟩,
 ⟨some 35, none, .mov (.t 34)⟩,
 ⟨some 36, (some (35, false)), .mov (.t 5)⟩,
 ⟨some 37, (some (35, false)), .un .not (.t 36)⟩,
 ⟨some 38, none, .pick (.t 35) (.v (.b true)) (.t 37)⟩,
 ⟨some 39, none, .mov (.t 38)⟩,
 ⟨some 40, (some (39, false)), .mov (.t 3)⟩,
 ⟨some 41, (some (39, false)), .len (.t 40)⟩,
 ⟨some 42, (some (39, false)), .bin .eql (.t 41) (.v (.i .i64 0))⟩,
 ⟨some 43, none, .pick (.t 39) (.v (.b true)) (.t 42)⟩] [3, 4, 5, 6, 7, 43])
 (.cond (.t 43)
 (.seq
 (.reg [
 ⟨some 44, none, .mov (.t 4)⟩,
 ⟨some 45, none, .mov (.t 6)⟩,
 ⟨some 46, none, .call fid_laws_dyEdges false [.im, .im] [(.t 44), (.t 45)]⟩,
 ⟨some 47, none, .mov (.t 46)⟩,
 ⟨some 48, (some (47, true)), .mov (.t 5)⟩,
 ⟨some 49, (some (47, true)), .mov (.t 7)⟩,
 ⟨some 50, (some (47, true)), .binb false (.t 48) (.t 49)⟩,
 ⟨some 51, none, .pick (.t 47) (.t 50) (.v (.b false))⟩,
 ⟨some 2, none, .mov (.t 51)⟩] [2])
 (.ret))
 (.skip)))
 (.seq
 (.seq
 (.reg [
 ⟨some 8, none, .mov (.v (.i .i64 0))⟩] [3, 4, 8])
 (.block 0
 (.loop [3, 4, 8]
 (.seq
 (.seq
 (.reg [
 ⟨some 52, none, .mov (.t 8)⟩,
 ⟨some 53, none, .mov (.t 4)⟩,
 ⟨some 54, none, .len (.t 53)⟩,
 ⟨some 55, none, .bin .lss (.t 52) (.t 54)⟩] [3, 4, 8, 55])
 (.cond (.t 55)
 (.skip)
 (.exit 0)))
 (.seq
 (.block 1
 (.seq
 (.draw [0, 0, 3, 7, 0, 0, 32, 112, 240, 511, 1023, 2047, 2047, 0, 12287, 32767] [
 ⟨some 59, none, .mov (.t 3)⟩,
 ⟨some 60, none, .mov (.t 8)⟩,
 ⟨some 61, none, .indexAddr 1 (.t 59) (.t 60)⟩,
 ⟨some 62, none, .load false 1 (.t 61)⟩,
 ⟨some 63, none, .mov (.t 3)⟩,
 ⟨some 64, none, .mov (.t 8)⟩,
 ⟨some 65, none, .bin .add (.t 64) (.v (.i .i64 1))⟩,
 ⟨some 66, none, .indexAddr 1 (.t 63) (.t 65)⟩,
 ⟨some 67, none, .load false 1 (.t 66)⟩,
 ⟨some 68, none, .call fid_impl_EdgeOf false [.im, .im] [(.t 62), (.t 67)]⟩,
 ⟨some 58, none, .mov (.t 68)⟩,
 ⟨some 69, none, .extract (.t 58) 0⟩,
 ⟨some 70, none, .extract (.t 58) 1⟩,
 ⟨some 9, none, .alloc [.i .i64 0, .i .i64 0]⟩,
 ⟨none, none, .store 2 (.t 9) (.t 69)⟩,
 ⟨some 10, none, .mov (.t 70)⟩] [3, 4, 8, 9, 10])
 (.seq
 (.draw [0, 1, 3, 7, 7, 7, 55, 119, 255, 511] [
 ⟨some 71, none, .mov (.t 10)⟩,
 ⟨some 72, none, .un .not (.t 71)⟩,
 ⟨some 73, none, .mov (.t 72)⟩,
 ⟨some 74, (some (73, false)), .load true 2 (.t 9)⟩,
 ⟨some 75, (some (73, false)), .mov (.t 4)⟩,
 ⟨some 76, (some (73, false)), .mov (.t 8)⟩,
 ⟨some 77, (some (73, false)), .indexAddr 2 (.t 75) (.t 76)⟩,
 ⟨some 78, (some (73, false)), .load true 2 (.t 77)⟩,
 ⟨some 79, (some (73, false)), .eqAgg true [true, true] (.t 74) (.t 78)⟩,
 ⟨some 80, none, .pick (.t 73) (.v (.b true)) (.t 79)⟩] [3, 4, 8, 80])
 (.cond (.t 80)
 (.seq
 (.reg [
 ⟨some 2, none, .mov (.v (.b false))⟩] [2])
 (.ret))
 (.skip)))))
 (.reg [
 ⟨some 56, none, .mov (.t 8)⟩,
 ⟨some 57, none, .bin .add (.t 56) (.v (.i .i64 1))⟩,
 ⟨some 8, none, .mov (.t 57)⟩] [3, 4, 8]))))))
 (.seq
 (.reg [
 ⟨some 81, none, .mov (.t 4)⟩,
 ⟨some 82, none, .len (.t 81)⟩,
 ⟨some 83, none, .mov (.t 3)⟩,
 ⟨some 84, none, .len (.t 83)⟩,
 ⟨some 85, none, .bin .sub (.t 84) (.v (.i .i64 1))⟩,
 ⟨some 86, none, .bin .eql (.t 82) (.t 85)⟩,
 ⟨some 2, none, .mov (.t 86)⟩] [2])
 (.ret))))))))
theorem get_laws_FnChainEdges : prog.funcs[fid_laws_FnChainEdges]? = some f6 := func6
theorem ok_laws_FnChainEdges : okFn prog f6 87 [] [(2, none)] mc_laws_FnChainEdges = true := by kernel_rfl

end Go.Fw
